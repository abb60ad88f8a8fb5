import Derived.Test.YticmgmemnpcbbaaGreatQCFnExactExtremeOf5

namespace Go.Proofs.YticmgmemnpcbbaaGreat.Vm
open Go Go.Proofs
set_option linter.unusedSimpArgs false
set_option linter.unusedVariables false
theorem Gm (a b:Nat) (ha:(lim a).length≤300000) (hb:(lim b).length≤300000):RO Tryz.prog 101 [.sl (iv (lim a)),.sl (iv (lim b))] (.sl (iv (lim (Nat.gcd a b)))):=by
 refine aI Tryz.func101 rfl rfl (by rw[Tryz.ntmps101];simp) fun bl=> ?_
 rw[Tryz.ntmps101,Tryz.results101]
 refine aC ?_
 simp
 refine aJ (fun p:Nat×Nat=> [(0,.sl (iv (lim p.1))),(1,.sl (iv (lim p.2)))]) (fun _=>bl) (fun p=>Nat.gcd p.1 p.2=Nat.gcd a b∧(lim p.1).length≤300000∧(lim p.2).length≤300000) (fun p=>p.2) _ (a,b) ⟨rfl,ha,hb⟩ ⟨rfl,by simp,Sub.refl _⟩ ?_
 rintro⟨x,y⟩ ⟨hg,hx,hy⟩
 simp only at hg hx hy
 refine aC ?_
 simp
 refine⟨fun h=> ?_,fun h=> ?_⟩
 ·have hy0:0<y:=by
   rcases Nat.eq_zero_or_pos y with h0 | h0
   ·rw[h0,aW] at h;simp at h
   ·exact h0
  refine aD (yY x y hy0 hx hy) ?_
  simp[aB]
  have hlt:=Nat.mod_lt x hy0
  refine⟨y,x % y,⟨?_,hy,?_⟩,hlt,rfl,by simp,Sub.refl _⟩
  ·rw[←hg,Nat.gcd_comm x y,Nat.gcd_rec y x,Nat.gcd_comm]
  ·exact Nat.le_trans (cD (Nat.le_of_lt hlt)) hy
 ·have h0:y=0:=eN.1 (by simpa using h)
  subst h0
  rw[Nat.gcd_zero_right] at hg
  rw[←hg]
  exact aP (by simp) rfl rfl
def nU (ns:List Int):Bool:=decide (ns.length≤60)&& decide (lim (val ns)=ns)
theorem Bk {ns:List Int} :lim (val ns)=ns ↔ Dig ns∧(ns.length=0∨ns.getD (ns.length - 1) 1≠0):=by
 have Zd: ∀d,ns.getLast? =some d ↔ ns.length≠0∧ns.getD (ns.length - 1) 1=d:=by
  intro d
  rw[List.getLast?_eq_getElem?]
  rcases Nat.eq_zero_or_pos ns.length with h | h
  ·rw[List.getElem?_eq_none (by omega)];simp[h]
  ·have h1:ns.length - 1<ns.length:=by omega
   have h2:ns≠ []:=fun h0=>by rw[h0] at h;simp at h
   rw[List.getElem?_eq_getElem h1]
   simp[h1,h2]
 constructor
 ·intro h
  refine⟨h▸gK _,?_⟩
  by_cases h0:ns.length=0
  ·exact .inl h0
  ·exact .inr (Cg (val ns) _ (by rw[h];exact(Zd _).2 ⟨h0,rfl⟩))
 ·rintro⟨h1,h2⟩
  refine S0 h1 fun d hd=> ?_
  obtain⟨h3,h4⟩:=(Zd d).1 hd
  rcases h2 with h2 | h2
  ·exact absurd h2 h3
  ·rw[←h4];exact h2
theorem N0 {ns:List Int} :nU ns=true ↔ ns.length≤60∧Dig ns∧(ns.length=0∨ns.getD (ns.length - 1) 1≠0):=by
 unfold nU
 rw[Bool.and_eq_true,decide_eq_true_eq,decide_eq_true_eq,Bk]
theorem nF (ns:List Int) (hn:ns.length≤140737488351232):RO Tryz.prog 261 [.sl (iv ns)] (.bool (nU ns)):=by
 refine aI Tryz.func261 rfl rfl (by rw[Tryz.ntmps261];simp) fun bl=> ?_
 rw[Tryz.ntmps261,Tryz.results261]
 refine aC ?_
 simp
 refine aJ (fun i:Nat=> [(0,.sl (iv ns)),(5,.sl (iv ns)),(6,.int .i64 ns.length),(7,.int .i64 i)]) (fun _=>bl) (fun i=>i≤ns.length∧ ∀j (h:j<ns.length),j<i→0≤ns[j]∧ns[j]<1000000000) (fun i=>ns.length - i) _ 0 ⟨Nat.zero_le _,fun j h h0=>by omega⟩ ⟨rfl,by simp,Sub.refl _⟩ ?_
 rintro i ⟨hi,hd⟩
 refine aC ?_
 simp
 refine⟨fun h=> ?_,fun h=> ?_⟩
 ·simp[h]
  refine aD (iS _ _ _) ?_
  simp
  refine⟨fun h1=> ?_,fun h1 h2=> ?_⟩
  ·refine aP ?_ rfl rfl
   have:nU ns=false:=by
    rw[Bool.eq_false_iff]
    intro hk
    have:=(N0.1 hk).2.1.at h
    omega
   simp[this]
  ·have w1:IntKind.i64.wrap ((i:Int)+1)=i+1:=i64_in (by omega) (by omega)
   simp[w1,aB]
   refine⟨i+1,⟨by omega,fun j hj hji=> ?_⟩,by omega,rfl,by simp,Sub.refl _⟩
   rcases Nat.lt_or_ge j i with hlt | hge
   ·exact hd j hj hlt
   ·obtain rfl:j=i:=by omega
    exact⟨h1,by omega⟩
 ·have hD:Dig ns:=by
   intro d hm
   obtain⟨j,hj,rfl⟩:=List.mem_iff_getElem.1 hm
   exact hd j hj (by omega)
  have hk:nU ns=(decide (ns.length≤60)&& (decide (ns.length=0)|| decide (ns.getD (ns.length - 1) 1≠0))):=by
   rw[Bool.eq_iff_iff,N0]
   simp[hD]
  refine bD [(0,.sl (iv ns))] _ bl 2 (.bool (nU ns)) ⟨rfl,by simp,Sub.refl _⟩ rfl ?_ ?_
  ·have w1:0<ns.length→IntKind.i64.wrap ((ns.length:Int) - 1)=((ns.length - 1:Nat):Int):=fun h=>by rw[i64_in (by omega) (by omega)];omega
   have q1: ∀h:0<ns.length,(iv ns)[ns.length - 1]? =some [.int .i64 (ns[ns.length - 1]'(by omega))]:=fun h=>eK _ _ (by omega)
   rw[hk]
   simp
   refine⟨fun h1=>⟨fun h2=>⟨by omega,.inl h2⟩,fun h2=> ?_⟩,fun h1 h2=>by omega⟩
   have h3:0<ns.length:=List.length_pos_iff.2 h2
   have h4:ns.length - 1<ns.length:=by omega
   have h5:ns.length≤60:=by omega
   simp[w1 h3,q1 h3,h2,h4,h5]
   rfl
  simp
  exact aP (by simp) rfl rfl
def RT.c (r:RT):List V:= [.bool r.neg,.sl (iv r.m),.sl (iv r.d)]
def K8 (neg:Bool) (m:List Int):Bool:=nU m && !(neg && decide (m= []))
theorem Wp (m:List Int):((m.length:Int)==0)=decide (m= []):=by
 rw[vU];cases m<;>simp;omega
theorem Np (m:List Int):decide (0<m.length)= !decide (m= []):=by cases m<;>simp
theorem wJ (neg:Bool) (m:List Int) (hm:m.length≤140737488351232):RO Tryz.prog 260 [.agg [.bool neg,.sl (iv m)]] (.bool (K8 neg m)):=by
 refine aI Tryz.func260 rfl rfl (by rw[Tryz.ntmps260];simp) fun bl=> ?_
 rw[Tryz.ntmps260,Tryz.results260]
 refine aC ?_
 simp
 intro g hg0 hg
 refine bS [(1,.loc g 2 0 0)] _ (upd bl g (some ⟨2,[[.bool neg,.sl (iv m)]]⟩)) 2 (.bool (K8 neg m)) (upd bl g (some ⟨2,[[.bool neg,.sl (iv m)]]⟩)) ⟨rfl,by simp,Sub.refl _⟩ rfl ?_ ?_
 ·simp
  refine aD (nF m hm) ?_
  simp[K8,Np]
  cases nU m<;>cases neg<;>simp
 simp
 exact aK [_] 0 rfl rfl (by simp[hg])
def RT.bad (r:RT):Bool:=(((!(K8 r.neg r.m)|| !(nU r.d))|| decide (r.d= []))|| decide (24<r.m.length))|| decide (24<r.d.length)
theorem RT.Sp {r:RT} :r.ok ↔ r.bad=false∧Nat.gcd (val r.m) (val r.d)=1:=by
 unfold RT.ok RT.bad K8 nU
 simp
 constructor
 ·rintro⟨h1,h2,h3,h4,h5,h6,h7⟩
  exact⟨⟨⟨⟨⟨⟨⟨by omega,h1⟩,h6⟩,by omega,h2⟩,h5⟩,h3⟩,h4⟩,h7⟩
 ·rintro⟨⟨⟨⟨⟨⟨⟨_,h1⟩,h6⟩,_,h2⟩,h5⟩,h3⟩,h4⟩,h7⟩
  exact⟨h1,h2,h3,h4,h5,h6,h7⟩
theorem RT.aTC {r:RT} (h:r.bad=false):r.m=lim (val r.m)∧r.d=lim (val r.d)∧r.m.length≤24∧r.d.length≤24:=by
 unfold RT.bad K8 nU at h
 simp at h
 obtain⟨⟨⟨⟨⟨⟨_,h1⟩,_⟩,_,h2⟩,_⟩,h3⟩,h4⟩:=h
 exact⟨h1.symm,h2.symm,h3,h4⟩
theorem Ek :lim 1= [1]:=Ib (f:=1) (by decide) (by decide)
theorem Jl {a b:Nat} :jD a b=0 ↔ a=b:=by unfold jD;split<;>(try split)<;>omega
theorem Ik {a b:Nat} {k:Nat} (ha:(lim a).length≤k) (hb:(lim b).length≤k):(lim (Nat.gcd a b)).length≤k:=by
 rcases Nat.eq_zero_or_pos a with h | h
 ·rw[h,Nat.gcd_zero_left];exact hb
 ·exact Nat.le_trans (cD (Nat.gcd_le_left _ h)) ha

def biC (n:Int):List V:= [.bool (decide (n<0)),.sl (iv (lim n.natAbs))]
def sg (neg:Bool) (m:Nat):Int:=if neg then -(m:Int) else m
@[simp] theorem qU (neg : Bool) (m : Nat) : (sg neg m).natAbs = m := by unfold sg; split <;> simp
theorem Fx (neg:Bool) (m:Nat):decide (sg neg m<0)=(neg && decide (0<m)):=by
 unfold sg;cases neg<;>simp
theorem Il (n:Int):sg (decide (n<0)) n.natAbs=n:=by
 unfold sg
 by_cases h:n<0
 ·simp[h];omega
 ·simp[h];omega
theorem qG (m:Nat):0<(lim m).length ↔ 0<m:=by
 rw[List.length_pos_iff]
 constructor
 ·intro h;rcases Nat.eq_zero_or_pos m with h0 | h0
  ·rw[h0,aW] at h;exact absurd rfl h
  ·exact h0
 ·intro h h0;have:=eN.1 h0;omega
@[simp] theorem aSI (n : Int) : (biC n).length = 2 := rfl
@[simp] theorem aQW (n : Int) : (biC n).all V.one = true := by simp [biC]
theorem Nc (n:Int):(biC n).all V.cl=true:=by simp[biC,V.cl]
@[simp] theorem aFR (a b : V) (n : Int) : splice [a, b] 0 (biC n) = biC n := by simp [splice, biC]
theorem T0 (neg:Bool) (m:Nat):biC (sg neg m)= [.bool (neg && decide (0<(lim m).length)),.sl (iv (lim m))]:=by
 unfold biC
 rw[Fx,qU,decide_eq_decide.2 (qG m)]
theorem kU {bl bl':Int→Option Blk} {n:Int} :frz (dropB bl' bl) 1 (.agg (biC n))=some (.agg (biC n)):=by
 unfold frz;rw[if_pos (Nc n)]
theorem Qp (x:Int):sg (!decide (x<0)) x.natAbs= -x:=by
 unfold sg
 by_cases h:x<0
 ·simp[h];omega
 ·simp[h];omega
theorem gA (neg:Bool) (m:Nat):RO Tryz.prog 229 [.bool neg,.sl (iv (lim m))] (.agg (biC (sg neg m))):=by
 refine aI Tryz.func229 rfl rfl (by rw[Tryz.ntmps229];simp) fun bl=> ?_
 rw[Tryz.ntmps229,Tryz.results229]
 refine aC ?_
 simp
 intro g hg0 hg
 refine bS [(0,.bool neg),(1,.sl (iv (lim m))),(4,.loc g 2 0 0)] _ (upd bl g (some ⟨2,[[.bool false,.nils]]⟩)) 4 (.loc g 2 0 0) (upd bl g (some ⟨2,[biC (sg neg m)]⟩)) ⟨rfl,by simp,Sub.refl _⟩ rfl ?_ ?_
 ·simp
  rw[T0]
  cases neg<;>simp
 simp
 exact aK [.agg (biC (sg neg m))] 1 (by simp[biC]) kU (by simp[hg])
theorem mS (x:Int):RO Tryz.prog 177 [.agg (biC x)] (.agg (biC (-x))):=by
 refine aI Tryz.func177 rfl rfl (by rw[Tryz.ntmps177];simp) fun bl=> ?_
 rw[Tryz.ntmps177,Tryz.results177]
 refine aC ?_
 rw[show biC x= [.bool (decide (x<0)),.sl (iv (lim x.natAbs))] from rfl]
 simp
 intro g hg0 hg g2 hg2 h2g hb2
 simp[h2g,Ne.symm h2g]
 refine aD (gA _ _) ?_
 rw[Qp]
 simp[h2g,Ne.symm h2g]
 exact aK [.agg (biC (-x))] 1 (by simp[biC]) kU (by simp[hg,hb2])
theorem mQ (x:Int):RO Tryz.prog 153 [.agg (biC x)] (.int .i64 x.sign):=by
 refine aI Tryz.func153 rfl rfl (by rw[Tryz.ntmps153];simp) fun bl=> ?_
 rw[Tryz.ntmps153,Tryz.results153]
 refine aC ?_
 rw[show biC x= [.bool (decide (x<0)),.sl (iv (lim x.natAbs))] from rfl]
 simp
 intro g hg0 hg
 refine⟨fun h=> ?_,fun h=> ?_⟩
 ·have h0:=eN.1 h
  have:x=0:=by omega
  exact aK [.int .i64 0] 0 (by simp) (by simp[frz,this]) (by simp[hg])
 ·have h0:x≠0:=fun h1=>h (by rw[h1];exact aW)
  refine⟨fun h2=> ?_,fun h2=> ?_⟩
  ·exact aK [.int .i64 (-1)] 0 (by simp) (by simp[frz,Int.sign_eq_neg_one_of_neg h2]) (by simp[hg])
  ·exact aK [.int .i64 1] 0 (by simp) (by simp[frz,Int.sign_eq_one_of_pos (show 0<x by omega)]) (by simp[hg])
theorem xL {x y:Int} (h:x<0 ↔ y<0):sg (decide (x<0)) (x.natAbs+y.natAbs)=x+y:=by
 unfold sg
 by_cases hx:x<0
 ·have:=h.1 hx;simp[hx];omega
 ·have: ¬ y<0:=fun hh=>hx (h.2 hh);simp[hx];omega
theorem mL {x y:Int} (h: ¬ (x<0 ↔ y<0)) (hle:y.natAbs≤x.natAbs):sg (decide (x<0)) (x.natAbs - y.natAbs)=x+y:=by
 unfold sg
 by_cases hx:x<0
 ·have: ¬ y<0:=fun hh=>h ⟨fun _=>hh,fun _=>hx⟩;simp[hx];omega
 ·have:y<0:=by
   by_cases hy:y<0
   ·exact hy
   ·exact absurd ⟨fun hh=>absurd hh hx,fun hh=>absurd hh hy⟩ h
  simp[hx];omega
theorem sU (x y:Int):sg (decide (x<0) !=decide (y<0)) (x.natAbs*y.natAbs)=x*y:=by
 have e:(x.natAbs:Int)*y.natAbs=(x*y).natAbs:=by rw[Int.natAbs_mul];simp
 unfold sg
 by_cases hx:x<0<;>by_cases hy:y<0<;>simp only[hx,hy,decide_true,decide_false,bne_self_eq_false,Bool.bne_true,Bool.bne_false,Bool.not_false,if_true,if_false,Bool.false_eq_true,Int.natCast_mul]
 ·rw[Int.ofNat_natAbs_of_nonpos (by omega),Int.ofNat_natAbs_of_nonpos (by omega),Int.neg_mul_neg]
 ·rw[Int.ofNat_natAbs_of_nonpos (by omega),Int.natAbs_of_nonneg (by omega),Int.neg_mul,Int.neg_neg]
 ·rw[Int.natAbs_of_nonneg (by omega),Int.ofNat_natAbs_of_nonpos (by omega),Int.mul_neg,Int.neg_neg]
 ·rw[Int.natAbs_of_nonneg (by omega),Int.natAbs_of_nonneg (by omega)]
def iM (x y:Int):Int:=if x<y then -1 else if x=y then 0 else 1
theorem Gx {a b:Nat} :0≤jD a b ↔ b≤a:=by unfold jD;split<;>(try split)<;>omega
theorem Ck (x y:Int) (hx:(lim x.natAbs).length≤1048576) (hy:(lim y.natAbs).length≤1048576):RO Tryz.prog 276 [.agg (biC x),.agg (biC y)] (.int .i64 (iM x y)):=by
 refine aI Tryz.func276 rfl rfl (by rw[Tryz.ntmps276];simp) fun bl=> ?_
 rw[Tryz.ntmps276,Tryz.results276]
 refine aE ?_
 rw[show biC x= [.bool (decide (x<0)),.sl (iv (lim x.natAbs))] from rfl,show biC y= [.bool (decide (y<0)),.sl (iv (lim y.natAbs))] from rfl]
 simp
 intro g hg0 hg g2 hg2 h2g hb2
 refine aC ?_
 simp[h2g,Ne.symm h2g]
 refine bS [(2,.loc g 2 0 0),(3,.loc g2 2 0 0)] _ _ 5 (.bool ((decide (x<0) !=decide (y<0))&& decide (x<0))) (upd (upd bl g (some ⟨2,[[.bool (decide (x<0)),.sl (iv (lim x.natAbs))]]⟩)) g2 (some ⟨2,[[.bool (decide (y<0)),.sl (iv (lim y.natAbs))]]⟩)) ⟨rfl,by simp,Sub.refl _⟩ rfl ?_ ?_
 ·simp[h2g,Ne.symm h2g]
  by_cases h1:x<0<;>by_cases h2:y<0<;>simp[h1,h2,h2g,Ne.symm h2g]
 by_cases h1:x<0<;>by_cases h2:y<0<;>simp[h1,h2,h2g,Ne.symm h2g]
 ·refine aD (lX _ _ hy hx) ?_
  simp
  refine aK [.int .i64 (iM x y)] 0 ?_ (by simp[frz]) (by simp[hg,hb2])
  have:jD y.natAbs x.natAbs=iM x y:=by unfold jD iM;split<;>split<;>(try split)<;>(try split)<;>omega
  simp[this]
 ·have:iM x y= -1:=by unfold iM;rw[if_pos (by omega)]
  exact aK [.int .i64 (-1)] 0 (by simp) (by simp[frz,this]) (by simp[hg,hb2])
 ·have:iM x y=1:=by unfold iM;rw[if_neg (by omega),if_neg (by omega)]
  exact aK [.int .i64 1] 0 (by simp) (by simp[frz,this]) (by simp[hg,hb2])
 ·refine aD (lX _ _ hx hy) ?_
  simp
  refine aK [.int .i64 (iM x y)] 0 ?_ (by simp[frz]) (by simp[hg,hb2])
  have:jD x.natAbs y.natAbs=iM x y:=by unfold jD iM;split<;>split<;>(try split)<;>(try split)<;>omega
  simp[this]
theorem Z7 (x y:Int) (hx:(lim x.natAbs).length≤1048575) (hy:(lim y.natAbs).length≤1048575):RO Tryz.prog 227 [.agg (biC x),.agg (biC y)] (.agg (biC (x+y))):=by
 refine aI Tryz.func227 rfl rfl (by rw[Tryz.ntmps227];simp) fun bl=> ?_
 rw[Tryz.ntmps227,Tryz.results227]
 refine aE ?_
 rw[show biC x= [.bool (decide (x<0)),.sl (iv (lim x.natAbs))] from rfl,show biC y= [.bool (decide (y<0)),.sl (iv (lim y.natAbs))] from rfl]
 simp
 intro g hg0 hg g2 hg2 h2g hb2 g3 hg3 h32 h3g hb3
 refine aC ?_
 simp[h2g,Ne.symm h2g,h32,Ne.symm h32,h3g,Ne.symm h3g]
 refine aD (lX _ _ (by omega) (by omega)) ?_
 simp[h2g,Ne.symm h2g,h32,Ne.symm h32,h3g,Ne.symm h3g,Gx]
 refine⟨fun hs=> ?_,fun hs=>⟨fun hle=> ?_,fun hle=> ?_⟩⟩
 ·refine aY aM (upd (upd bl g (some ⟨2,[[.bool (decide (x<0)),.sl (iv (lim x.natAbs))]]⟩)) g2 (some ⟨2,[[.bool (decide (y<0)),.sl (iv (lim y.natAbs))]]⟩)) (by simp[h32,h3g,hb3]) [0,1,2,3,4,5,6,7] 1 (by kernel_rfl) ?_
  simp[h2g,Ne.symm h2g,h32,Ne.symm h32,h3g,Ne.symm h3g]
  refine aO (Wx _ _ hx hy) ?_
  simp[h2g,Ne.symm h2g,h32,Ne.symm h32,h3g,Ne.symm h3g]
  refine aO (gA _ _) ?_
  simp[h2g,Ne.symm h2g,h32,Ne.symm h32,h3g,Ne.symm h3g]
  refine Dz 8 ?_
  simp[h2g,Ne.symm h2g,h32,Ne.symm h32,h3g,Ne.symm h3g]
  refine⟨by simp[h32,h3g,hb3],Dy ?_⟩
  rw[xL hs]
  simp[h2g,Ne.symm h2g,h32,Ne.symm h32,h3g,Ne.symm h3g]
  exact aK [.agg (biC (x+y))] 1 (by simp[biC,h2g,Ne.symm h2g,h32,Ne.symm h32,h3g,Ne.symm h3g]) kU (by simp[hg,hb2,hb3])
 ·refine aY aM (upd (upd bl g (some ⟨2,[[.bool (decide (x<0)),.sl (iv (lim x.natAbs))]]⟩)) g2 (some ⟨2,[[.bool (decide (y<0)),.sl (iv (lim y.natAbs))]]⟩)) (by simp[h32,h3g,hb3]) [0,1,2,3,4,5,6,7] 1 (by kernel_rfl) ?_
  simp[h2g,Ne.symm h2g,h32,Ne.symm h32,h3g,Ne.symm h3g]
  refine aO (Bn _ _ hle hx) ?_
  simp[h2g,Ne.symm h2g,h32,Ne.symm h32,h3g,Ne.symm h3g]
  refine aO (gA _ _) ?_
  simp[h2g,Ne.symm h2g,h32,Ne.symm h32,h3g,Ne.symm h3g]
  refine Dz 8 ?_
  simp[h2g,Ne.symm h2g,h32,Ne.symm h32,h3g,Ne.symm h3g]
  refine⟨by simp[h32,h3g,hb3],Dy ?_⟩
  rw[mL hs hle]
  simp[h2g,Ne.symm h2g,h32,Ne.symm h32,h3g,Ne.symm h3g]
  exact aK [.agg (biC (x+y))] 1 (by simp[biC,h2g,Ne.symm h2g,h32,Ne.symm h32,h3g,Ne.symm h3g]) kU (by simp[hg,hb2,hb3])
 ·refine aY aM (upd (upd bl g (some ⟨2,[[.bool (decide (x<0)),.sl (iv (lim x.natAbs))]]⟩)) g2 (some ⟨2,[[.bool (decide (y<0)),.sl (iv (lim y.natAbs))]]⟩)) (by simp[h32,h3g,hb3]) [0,1,2,3,4,5,6,7] 1 (by kernel_rfl) ?_
  simp[h2g,Ne.symm h2g,h32,Ne.symm h32,h3g,Ne.symm h3g]
  refine aO (Bn _ _ (by omega) hy) ?_
  simp[h2g,Ne.symm h2g,h32,Ne.symm h32,h3g,Ne.symm h3g]
  refine aO (gA _ _) ?_
  simp[h2g,Ne.symm h2g,h32,Ne.symm h32,h3g,Ne.symm h3g]
  refine Dz 8 ?_
  simp[h2g,Ne.symm h2g,h32,Ne.symm h32,h3g,Ne.symm h3g]
  refine⟨by simp[h32,h3g,hb3],Dy ?_⟩
  rw[mL (x:=y) (y:=x) (fun hh=>hs ⟨hh.2,hh.1⟩) (by omega),Int.add_comm y x]
  simp[h2g,Ne.symm h2g,h32,Ne.symm h32,h3g,Ne.symm h3g]
  exact aK [.agg (biC (x+y))] 1 (by simp[biC,h2g,Ne.symm h2g,h32,Ne.symm h32,h3g,Ne.symm h3g]) kU (by simp[hg,hb2,hb3])
theorem lP (x y:Int) (hx:(lim x.natAbs).length≤400000) (hy:(lim y.natAbs).length≤400000):RO Tryz.prog 231 [.agg (biC x),.agg (biC y)] (.agg (biC (x*y))):=by
 refine aI Tryz.func231 rfl rfl (by rw[Tryz.ntmps231];simp) fun bl=> ?_
 rw[Tryz.ntmps231,Tryz.results231]
 refine aE ?_
 rw[show biC x= [.bool (decide (x<0)),.sl (iv (lim x.natAbs))] from rfl,show biC y= [.bool (decide (y<0)),.sl (iv (lim y.natAbs))] from rfl]
 simp
 intro g hg0 hg g2 hg2 h2g hb2 g3 hg3 h32 h3g hb3
 refine aC ?_
 simp
 refine aY aM (upd (upd bl g (some ⟨2,[[.bool (decide (x<0)),.sl (iv (lim x.natAbs))]]⟩)) g2 (some ⟨2,[[.bool (decide (y<0)),.sl (iv (lim y.natAbs))]]⟩)) (by simp[h32,h3g,hb3]) [0,1,2,3,4,5,6,7,8,9,10] 1 (by kernel_rfl) ?_
 simp[h2g,Ne.symm h2g,h32,Ne.symm h32,h3g,Ne.symm h3g]
 refine aO (qP _ _ hx hy) ?_
 simp[h2g,Ne.symm h2g,h32,Ne.symm h32,h3g,Ne.symm h3g]
 refine aO (gA _ _) ?_
 simp[h2g,Ne.symm h2g,h32,Ne.symm h32,h3g,Ne.symm h3g]
 refine Dz 11 ?_
 simp[h2g,Ne.symm h2g,h32,Ne.symm h32,h3g,Ne.symm h3g]
 refine⟨by simp[h32,h3g,hb3],Dy ?_⟩
 rw[sU]
 simp[h2g,Ne.symm h2g,h32,Ne.symm h32,h3g,Ne.symm h3g]
 exact aK [.agg (biC (x*y))] 1 (by simp[biC,h2g,Ne.symm h2g,h32,Ne.symm h32,h3g,Ne.symm h3g]) kU (by simp[hg,hb2,hb3])

theorem bQ (x:Int):biC x= [.bool (decide (x<0)),.sl (iv (lim x.natAbs))]:=rfl
theorem gW (q:Rat):(rq q).c= [.bool (decide (q.num<0)),.sl (iv (lim q.num.natAbs)),.sl (iv (lim q.den))]:=rfl
theorem Hp (n:Int) {d:Nat} (hd:d≠0):rq (mkRat n d)=⟨decide (n<0),lim (n.natAbs / Nat.gcd n.natAbs d),lim (d / Nat.gcd n.natAbs d)⟩:=by
 obtain⟨h1,h2,h3⟩:=Mm n hd
 unfold rq
 rw[h1,h2,decide_eq_decide.2 h3]
theorem K3 (x y:Int) (hx:(lim x.natAbs).length≤1048575) (hy:(lim y.natAbs).length≤1048575):RO Tryz.prog 239 [.agg (biC x),.agg (biC y)] (.agg (biC (x - y))):=by
 refine aI Tryz.func239 rfl rfl (by rw[Tryz.ntmps239];simp) fun bl=> ?_
 rw[Tryz.ntmps239,Tryz.results239]
 refine aE ?_
 simp
 intro g hg0 hg g2 hg2 h2g hb2 g3 hg3 h32 h3g hb3
 refine aC ?_
 simp
 refine aY aM (upd (upd bl g (some ⟨2,[biC x]⟩)) g2 (some ⟨2,[biC y]⟩)) (by simp[h32,h3g,hb3]) [0,1,2,3] 1 (by kernel_rfl) ?_
 simp[h2g,Ne.symm h2g,h32,Ne.symm h32,h3g,Ne.symm h3g]
 refine aO (mS y) ?_
 simp[h2g,Ne.symm h2g,h32,Ne.symm h32,h3g,Ne.symm h3g]
 refine aO (Z7 x (-y) hx (by simpa using hy)) ?_
 rw[show x+ -y=x - y by omega]
 simp[h2g,Ne.symm h2g,h32,Ne.symm h32,h3g,Ne.symm h3g]
 refine Dz 4 ?_
 simp[h2g,Ne.symm h2g,h32,Ne.symm h32,h3g,Ne.symm h3g]
 refine⟨by simp[h32,h3g,hb3],Dy ?_⟩
 simp
 exact aK [.agg (biC (x - y))] 1 (by simp[biC,h2g,Ne.symm h2g,h32,Ne.symm h32,h3g,Ne.symm h3g]) kU (by simp[hg,hb2,hb3])
theorem O2 (q:Rat) (m:Nat) (hq:(lim q.num.natAbs).length≤400000) (hm:(lim m).length≤400000):RO Tryz.prog 226 [.ptr (rq q).c,.sl (iv (lim m))] (.agg (biC (q.num*m))):=by
 refine aI Tryz.func226 rfl rfl (by rw[Tryz.ntmps226];simp) fun bl=> ?_
 rw[Tryz.ntmps226,Tryz.results226]
 refine aC ?_
 rw[gW]
 simp
 intro g hg0 hg
 refine aY aM bl (by simp[hg]) [0,1,2,3,4,5,6,7,8,9,10,11,12] 1 (by kernel_rfl) ?_
 simp
 refine aO (qP _ _ hq hm) ?_
 simp
 refine aO (gA _ _) ?_
 simp
 refine Dz 13 ?_
 simp
 refine⟨by simp[hg],Dy ?_⟩
 have e:sg (decide (q.num<0)) (q.num.natAbs*m)=q.num*m:=by
  have:=sU q.num m
  have h0:decide ((m:Int)<0)=false:=decide_eq_false (by omega)
  rw[h0,Bool.bne_false,Int.natAbs_natCast] at this
  exact this
 rw[e]
 simp
 exact aK [.agg (biC (q.num*m))] 1 (by simp[biC]) kU (by simp[hg])
theorem wS (n:Int) (d:Nat) (hd:d≠0) (hn:(lim n.natAbs).length≤300000) (hdl:(lim d).length≤300000):RO Tryz.prog 221 [.agg (biC n),.sl (iv (lim d))] (.ptr (rq (mkRat n d)).c):=by
 refine aI Tryz.func221 rfl rfl (by rw[Tryz.ntmps221];simp) fun bl=> ?_
 rw[Tryz.ntmps221,Tryz.results221]
 refine aC ?_
 rw[bQ]
 simp
 intro g hg0 hg
 refine⟨fun h=> ?_,fun h=> ?_⟩
 ·intro g1 hg1 h1g hb1 g2 hg2 h21 h2g hb2
  have h0:n=0:=by have:=eN.1 h;omega
  subst h0
  rw[Rat.zero_mkRat]
  refine aK [.loc g2 3 0 0] 2 (by simp) ?_ (by simp[hg,hb1,hb2])
  simp[frz,dropB,V.cl,hb1,hb2,h1g,Ne.symm h1g,h21,Ne.symm h21,h2g,Ne.symm h2g,Int.not_lt.2 hg1,gW,aW]
  exact⟨rfl,by rw[Ek];rfl⟩
 ·have hz:n.natAbs≠0:=fun h0=>h (by rw[h0];exact aW)
  refine aD (Gm _ _ hn hdl) ?_
  simp
  intro g1 hg1 h1g hb1
  have hgl:=Ik hn hdl
  refine aU 1 (ys:= [.sl (iv (lim (Nat.gcd n.natAbs d))),.sl (iv (lim 1))]) ?_ (lX _ 1 (by omega) (by rw[Ek];simp)) rfl ?_
  ·simp[frzL,frz,Ek,iv,V.cl,Int.not_lt.2 hg1]
  simp[vU,Jl]
  refine⟨fun h1=> ?_,fun h1=> ?_⟩
  ·simp[h1g,Ne.symm h1g]
   intro g2 hg2 h21 h2g hb2
   refine aK [.loc g2 3 0 0] 2 (by simp) ?_ (by simp[hg,hb1,hb2])
   have e:rq (mkRat n d)=⟨decide (n<0),lim n.natAbs,lim d⟩:=by rw[Hp n hd,h1,Nat.div_one,Nat.div_one]
   rw[e]
   simp[frz,dropB,V.cl,hb1,hb2,h1g,Ne.symm h1g,h21,Ne.symm h21,h2g,Ne.symm h2g,RT.c]
  ·have aCI:0<Nat.gcd n.natAbs d:=Nat.gcd_pos_of_pos_right _ (by omega)
   simp[h1g,Ne.symm h1g]
   refine aD (yY _ _ aCI hn hgl) ?_
   simp
   refine aD (yY _ _ aCI hdl hgl) ?_
   simp[h1g,Ne.symm h1g]
   refine aD (gA _ _) ?_
   simp[h1g,Ne.symm h1g]
   rw[T0]
   simp[h1g,Ne.symm h1g]
   intro g2 hg2 h21 h2g hb2
   refine aK [.loc g2 3 0 0] 2 (by simp) ?_ (by simp[hg,hb1,hb2])
   have e3:0<n.natAbs / Nat.gcd n.natAbs d:=Nat.div_pos (Nat.gcd_le_left _ (by omega)) aCI
   rw[Hp n hd]
   simp[frz,dropB,V.cl,hb1,hb2,h1g,Ne.symm h1g,h21,Ne.symm h21,h2g,Ne.symm h2g,RT.c,qG,e3]
theorem fU {a b k l:Nat} (ha:(lim a).length≤k) (hb:(lim b).length≤l):(lim (a*b)).length≤k+l:=by
 refine aL.2 ?_
 have h1:=aL.1 ha
 have h2:=aL.1 hb
 rw[Nat.pow_add]
 exact Nat.mul_lt_mul'' h1 h2
theorem uN {a b k:Nat} (ha:(lim a).length≤k) (hb:(lim b).length≤k):(lim (a+b)).length≤k+1:=by
 refine aL.2 ?_
 have h1:=aL.1 ha
 have h2:=aL.1 hb
 have:LB^(k+1)=LB^k*1000000000:=Nat.pow_succ ..
 omega
theorem kO {a b k:Nat} (h:a≤b) (hb:(lim b).length≤k):(lim a).length≤k:=Nat.le_trans (cD h) hb
def few (k:Nat) (q:Rat):Prop:=(lim q.num.natAbs).length≤k∧(lim q.den).length≤k
theorem vH {k l:Nat} {q:Rat} (h:few k q) (hkl:k≤l):few l q:=⟨by have:=h.1;omega,by have:=h.2;omega⟩
def J5 (a b:Rat):Int:=iM (a.num*b.den) (b.num*a.den)
theorem Cn (a b:Rat) (ha:few 100000 a) (hb:few 100000 b):RO Tryz.prog 159 [.ptr (rq a).c,.ptr (rq b).c] (.ptr (rq (a+b)).c):=by
 obtain⟨a1,a2⟩:=ha
 obtain⟨b1,b2⟩:=hb
 have n1:(lim (a.num*b.den).natAbs).length≤200000:=by rw[Int.natAbs_mul,Int.natAbs_natCast];have:=fU a1 b2;omega
 have n2:(lim (b.num*a.den).natAbs).length≤200000:=by rw[Int.natAbs_mul,Int.natAbs_natCast];have:=fU b1 a2;omega
 refine aI Tryz.func159 rfl rfl (by rw[Tryz.ntmps159];simp) fun bl=> ?_
 rw[Tryz.ntmps159,Tryz.results159]
 refine aC ?_
 simp
 refine bW aM (by kernel_rfl) ?_
 rw[gW a,gW b]
 simp
 refine aO (O2 a b.den (by omega) (by omega)) ?_
 simp
 refine aO (O2 b a.den (by omega) (by omega)) ?_
 simp
 refine aO (Z7 _ _ (by omega) (by omega)) ?_
 simp
 refine aO (qP _ _ (by omega) (by omega)) ?_
 simp
 refine aO (wS _ _ (Nat.mul_ne_zero a.den_nz b.den_nz) ?_ ?_) ?_
 ·exact kO (Int.natAbs_add_le _ _) (by have:=uN n1 n2;omega)
 ·have:=fU a2 b2;omega
 rw[←Rat.add_def']
 simp
 exact aP (by simp) rfl rfl
theorem Jk (a b:Rat) (ha:few 100000 a) (hb:few 100000 b):RO Tryz.prog 163 [.ptr (rq a).c,.ptr (rq b).c] (.ptr (rq (a*b)).c):=by
 obtain⟨a1,a2⟩:=ha
 obtain⟨b1,b2⟩:=hb
 refine aI Tryz.func163 rfl rfl (by rw[Tryz.ntmps163];simp) fun bl=> ?_
 rw[Tryz.ntmps163,Tryz.results163]
 refine aC ?_
 simp
 refine bW aM (by kernel_rfl) ?_
 rw[gW a,gW b]
 simp
 refine aO (lP a.num b.num (by omega) (by omega)) ?_
 simp
 refine aO (qP _ _ (by omega) (by omega)) ?_
 simp
 refine aO (wS _ _ (Nat.mul_ne_zero a.den_nz b.den_nz) ?_ ?_) ?_
 ·rw[Int.natAbs_mul];have:=fU a1 b1;omega
 ·have:=fU a2 b2;omega
 rw[←Rat.mul_def']
 simp
 exact aP (by simp) rfl rfl
def fv :Option Rat→V
 | none => .nilp
 | some q => .ptr (rq q).c
theorem R9 {b:Int→Option Blk} {n:Nat} {x:Option Rat} :frz b n (fv x)=some (fv x):=by cases x<;>simp[fv,frz]
theorem aDR (q:Rat):RO Tryz.prog 158 [.ptr (rq q).c] (fv (fit q)):=by
 refine aI Tryz.func158 rfl rfl (by rw[Tryz.ntmps158];simp) fun bl=> ?_
 rw[Tryz.ntmps158,Tryz.results158]
 refine aC ?_
 simp
 refine bD [(0,.ptr (rq q).c)] _ bl 17 (.bool (!decide (fits q))) ⟨rfl,by simp,Sub.refl _⟩ rfl ?_ ?_
 ·rw[gW]
  simp
  have hf:fits q ↔ (lim q.num.natAbs).length≤24∧(lim q.den).length≤24:=Iff.rfl
  refine⟨fun h hh=>by have:=hf.1 hh;omega,fun h=> ?_⟩
  rw[Bool.eq_iff_iff]
  simp[hf]
  omega
 simp
 refine⟨fun h=> ?_,fun h=> ?_⟩
 ·exact aP (by simp[fit,h,fv]) rfl R9
 ·exact aP (by simp[fit,h,fv]) rfl R9
def okQ (x:Option Rat):Prop:= ∀q,x=some q→fits q
theorem Vs (q:Rat):okQ (fit q):=by
 intro p h
 unfold fit at h
 split at h
 ·cases h;assumption
 ·cases h
theorem aD6 (r:RT):okQ (rd r):=fun q h=>(rd_some h).2
def op2 (f:Rat→Rat→Rat) (x y:Option Rat):Option Rat:=match x,y with | some a,some b=>fit (f a b)| _,_=>none
theorem U0 (f:Rat→Rat→Rat) (x y:Option Rat):okQ (op2 f x y):=by
 unfold op2;split
 ·exact Vs _
 ·intro q h;cases h
theorem Oa (x y:Option Rat) (hx:okQ x) (hy:okQ y):RO Tryz.prog 82 [fv x,fv y] (fv (op2 (· + ·) x y)):=by
 refine aI Tryz.func82 rfl rfl (by rw[Tryz.ntmps82];simp) fun bl=> ?_
 rw[Tryz.ntmps82,Tryz.results82]
 refine aC ?_
 simp
 rcases x with _ | a
 ·refine bD [(0,fv none),(1,fv y)] _ bl 10 (.bool true) ⟨rfl,by simp,Sub.refl _⟩ rfl ?_ ?_
  ·simp[fv]
  simp
  exact aP (by simp[op2,fv]) rfl rfl
 rcases y with _ | b
 ·refine bD [(0,fv (some a)),(1,fv none)] _ bl 10 (.bool true) ⟨rfl,by simp,Sub.refl _⟩ rfl ?_ ?_
  ·simp[fv]
  simp
  exact aP (by simp[op2,fv]) rfl rfl
 refine bD [(0,fv (some a)),(1,fv (some b))] _ bl 10 (.bool false) ⟨rfl,by simp,Sub.refl _⟩ rfl ?_ ?_
 ·simp[fv]
 simp[fv]
 refine aD (Cn a b (vH (hx a rfl) (by decide)) (vH (hy b rfl) (by decide))) ?_
 simp
 refine aD (aDR _) ?_
 simp
 exact aP (by simp[op2];rfl) rfl R9

theorem lO (a b:Nat) (ha:(lim a).length≤1048576) (hb:(lim b).length≤1048576):RO Tryz.prog 288 [.sl (iv (lim a)),.sl (iv (lim b))] (.int .i64 (jD a b)):=by
 refine aI Tryz.func288 rfl rfl (by rw[Tryz.ntmps288];simp) fun bl=> ?_
 rw[Tryz.ntmps288,Tryz.results288]
 refine aC ?_
 simp
 refine⟨fun h=>⟨fun h1=> ?_,fun h1=> ?_⟩,fun h=> ?_⟩
 ·exact aP (by simp[B2 h1]) rfl rfl
 ·exact aP (by simp[E6 (show(lim b).length<(lim a).length by omega)]) rfl rfl
 have h:(lim a).length=(lim b).length:=by omega
 have w0:IntKind.i64.wrap (((lim a).length:Int) - 1)=((lim a).length:Int) - 1:=i64_in (by omega) (by omega)
 simp[w0]
 refine aJ (fun k:Nat=> [(0,.sl (iv (lim a))),(1,.sl (iv (lim b))),(5,.int .i64 ((k:Int) - 1))]) (fun _=>bl) (fun k=>k≤(lim a).length∧ ∀j,k≤j→dg a j=dg b j) (fun k=>k) _ (lim a).length ⟨Nat.le_refl _,fun j hj=>by rw[kD hj,kD (by omega)]⟩ ⟨rfl,by simp,Sub.refl _⟩ ?_
 intro k ⟨hk,hc⟩
 refine aC ?_
 simp
 refine⟨fun h1=> ?_,fun h1=> ?_⟩
 ·obtain⟨m,rfl⟩: ∃m,k=m+1:=⟨k - 1,by omega⟩
  have hm:m<(lim a).length:=by omega
  have hm2:m<(lim b).length:=by omega
  have e1:((m+1:Nat):Int) - 1=m:=by omega
  refine bW aM (by kernel_rfl) ?_
  simp[e1,bA _ _ hm,bA _ _ hm2]
  refine⟨fun h2=> ?_,fun h2=> ?_⟩
  ·exact aP (by simp[Sd h hm (fun j hj=>hc j (by omega)) h2]) rfl rfl
  refine bW aM (by kernel_rfl) ?_
  simp[e1,bA _ _ hm,bA _ _ hm2]
  refine⟨fun h3=> ?_,fun h3=> ?_⟩
  ·exact aP (by simp[Nu h hm (fun j hj=>hc j (by omega)) h3]) rfl rfl
  have w1:IntKind.i64.wrap ((m:Int) - 1)=(m:Int) - 1:=i64_in (by omega) (by omega)
  simp[w1,aB]
  refine⟨m,⟨by omega,fun j hj=> ?_⟩,by omega,rfl,by simp,Sub.refl _⟩
  rcases Nat.lt_or_ge m j with hlt | hge
  ·exact hc j (by omega)
  ·obtain rfl:j=m:=by omega
   omega
 ·have:k=0:=by omega
  subst this
  exact aP (by simp[Sm h fun j=>hc j (Nat.zero_le _)]) rfl rfl
theorem gV (ns:List Int) (hd:Dig ns) (hn:ns.length≤1048576):RO Tryz.prog 290 [.sl (iv ns)] (.sl (iv (lim (val ns)))):=by
 refine aI Tryz.func290 rfl rfl (by rw[Tryz.ntmps290];simp) fun bl=> ?_
 rw[Tryz.ntmps290,Tryz.results290]
 refine aC ?_
 simp
 refine aJ (fun n:Nat=> [(0,.sl (iv ns)),(3,.int .i64 n)]) (fun _=>bl) (fun n=>n≤ns.length∧ ∀i (hi:i<ns.length),n≤i→ns[i]=0) (fun n=>n) _ ns.length ⟨Nat.le_refl _,fun i hi h=>by omega⟩ ⟨rfl,by simp,Sub.refl _⟩ ?_
 intro n ⟨hl,hz⟩
 refine aC ?_
 simp
 refine bD [(0,.sl (iv ns)),(3,.int .i64 n)] _ bl 15 (.bool (decide (0<n)&& decide (ns.getD (n - 1) 1=0))) ⟨rfl,by simp,Sub.refl _⟩ rfl ?_ ?_
 ·simp
  refine⟨fun h=> ?_,fun h=>by simp[h]⟩
  have w1:IntKind.i64.wrap ((n:Int) - 1)=((n - 1:Nat):Int):=by rw[i64_in (by omega) (by omega)];omega
  have h2:n - 1<ns.length:=by omega
  simp[w1,h2,h,vU]
 simp
 refine⟨fun h1 h2=> ?_,fun h1=> ?_⟩
 ·have w1:IntKind.i64.wrap ((n:Int) - 1)=((n - 1:Nat):Int):=by rw[i64_in (by omega) (by omega)];omega
  simp[w1,aB]
  refine⟨n - 1,⟨by omega,fun i hi h3=> ?_⟩,by omega,rfl,by simp,Sub.refl _⟩
  rcases Nat.lt_or_ge i n with h4 | h4
  ·obtain rfl:i=n - 1:=by omega
   simpa [hi] using h2
  ·exact hz i hi h4
 ·have hz2: ∀i (hi:i<ns.length),n=i+1→ns[i]≠0:=by
   intro i hi e
   subst e
   have:=h1 (by omega)
   simpa [hi] using this
  have:=G6 hd hl hz hz2
  rw[←this]
  simp[sliV,It,hl]
  exact aP (by simp[zA]) rfl rfl
theorem Kn (ns:List Int) (hd:Dig ns) (hn:ns.length≤1048576):RO Tryz.prog 280 [.sl (iv ns)] (.sl (iv (if(lim (val ns)).length≤60 then lim (val ns) else []))):=by
 refine aI Tryz.func280 rfl rfl (by rw[Tryz.ntmps280];simp) fun bl=> ?_
 rw[Tryz.ntmps280,Tryz.results280]
 refine aC ?_
 simp
 refine aD (gV ns hd hn) ?_
 simp
 refine⟨fun h=> ?_,fun h=> ?_⟩
 ·rw[if_neg (by omega)]
  exact aK [.nils] 0 (by simp) rfl (Sub.refl _)
 ·rw[if_pos (by omega)]
  exact aP (by simp) rfl rfl
theorem Lk (a b:Nat) (ha:(lim a).length≤1000000) (hb:(lim b).length≤1000000):RO Tryz.prog 287 [.sl (iv (lim a)),.sl (iv (lim b))] (.sl (iv (lim (a+b)))):=by
 refine aI Tryz.func287 rfl rfl (by rw[Tryz.ntmps287];simp) fun bl=> ?_
 rw[Tryz.ntmps287,Tryz.results287]
 refine aC ?_
 simp
 intro g0 hg0 hb0
 refine aJ (fun p:Int×PL=> [(0,.sl (iv (lim a))),(1,.sl (iv (lim b))),(5,.lsl p.1 1 0 p.2.i),(6,.int .i64 p.2.c),(7,.int .i64 p.2.i)]) (fun p=>upd bl p.1 (some ⟨1,iv p.2.o⟩))
  (fun p=>0≤p.1∧bl p.1=none∧kR a b p.2.i p.2.o p.2.c∧p.2.i≤1000002∧(p.2.i=0∨LB^(p.2.i - 1)≤a+b)) (fun p=>1000003 - p.2.i) _ (g0,⟨0,[],0⟩) ⟨hg0,hb0,kR.start a b,by simp,.inl rfl⟩ ⟨rfl,by simp,sub_eq (by simp[iv])⟩ ?_
 rintro⟨g,i,o,c⟩ ⟨hg,hbg,hI,hi,hm⟩
 simp only at hg hbg hI hi hm
 have hb1:=hI.x
 have hd1:=eP a i
 have hd2:=eP b i
 have hc0:=hI.c0
 have hc1:=hI.c1
 have hol:=hI.len
 refine aC ?_
 simp
 refine bD [(0,.sl (iv (lim a))),(1,.sl (iv (lim b))),(5,.lsl g 1 0 i),(6,.int .i64 c),(7,.int .i64 i)] _ _ 23 (.bool ((decide (i<(lim a).length)|| decide (i<(lim b).length))|| decide (0<c))) ⟨rfl,by simp,Sub.refl _⟩ rfl ?_ ?_
 ·simp
  exact⟨fun h=> .inl (.inl h),fun h=>⟨fun h2=> .inl (.inr h2),fun h2 h3=>by omega⟩⟩
 simp
 refine⟨fun h=> ?_,fun h1 h2 h3=> ?_⟩
 ·have Hz:=hI.more (by omega)
  have hlen:i<(lim (a+b)).length:=by
   rcases Nat.lt_or_ge i (lim (a+b)).length with hh | hh
   ·exact hh
   ·have:=aL.1 hh;omega
  have aXU:=uN (k:=1000000) ha hb
  have w3:IntKind.i64.wrap ((i:Int)+1)=i+1:=i64_in (by omega) (by omega)
  refine⟨fun h1=> ?_,fun h1=> ?_⟩
  ·simp[bA _ _ h1]
   have wa0:IntKind.i64.wrap (c+(dg a i:Nat))=c+(dg a i:Nat):=i64_in (by omega) (by omega)
   simp[wa0]
   refine⟨fun h2=> ?_,fun h2=> ?_⟩
   ·have wa:IntKind.i64.wrap (c+(dg a i:Nat))=c+(dg a i:Nat):=i64_in (by omega) (by omega)
    have wb:IntKind.i64.wrap (c+(dg a i:Nat)+(dg b i:Nat))=c+(dg a i:Nat)+(dg b i:Nat):=i64_in (by omega) (by omega)
    have wq1:=wq (x:=c+(dg a i:Nat)+(dg b i:Nat)) (n:=1000000000) (by omega) (by omega) (by omega)
    try simp[wq1,w3,wa,wb,bA _ _ h1,bA _ _ h2]
    intro g2 hg2 h2g hb2
    try simp[wq1,w3,wa,wb,bA _ _ h1,bA _ _ h2,h2g,Ne.symm h2g,appV,elsV,Int.not_lt.2 hg2,hol]
    refine⟨by omega,fun g3 hg3 hb3=> ?_⟩
    have fZ:bl g3=none:=by grind
    try simp[wq1,w3,wa,wb,bA _ _ h1,bA _ _ h2]
    rw[aB]
    refine⟨(g3,⟨i+1,o++ [(c+(dg a i:Nat)+(dg b i:Nat)).tmod 1000000000],(c+(dg a i:Nat)+(dg b i:Nat)).tdiv 1000000000⟩),⟨hg3,fZ,hI.next (by omega),by simp only;omega,.inr (by simpa using Hz)⟩,by simp only;omega,rfl,by simp,?_⟩
    rw[aX]
    exact dE (by rw[←hol,dP];simp[iv]) (by simp[hbg,hb2,h2g])
   ·have wa:IntKind.i64.wrap (c+(dg a i:Nat))=c+(dg a i:Nat):=i64_in (by omega) (by omega)
    have zb:dg b i=0:=kD (by omega)
    have wq1:=wq (x:=c+(dg a i:Nat)) (n:=1000000000) (by omega) (by omega) (by omega)
    try simp[wq1,w3,wa,bA _ _ h1]
    intro g2 hg2 h2g hb2
    try simp[wq1,w3,wa,bA _ _ h1,h2g,Ne.symm h2g,appV,elsV,Int.not_lt.2 hg2,hol]
    refine⟨by omega,fun g3 hg3 hb3=> ?_⟩
    have fZ:bl g3=none:=by grind
    try simp[wq1,w3,wa,bA _ _ h1]
    rw[aB]
    refine⟨(g3,⟨i+1,o++ [(c+(dg a i:Nat)).tmod 1000000000],(c+(dg a i:Nat)).tdiv 1000000000⟩),⟨hg3,fZ,hI.next (by omega),by simp only;omega,.inr (by simpa using Hz)⟩,by simp only;omega,rfl,by simp,?_⟩
    rw[aX]
    exact dE (by rw[←hol,dP];simp[iv]) (by simp[hbg,hb2,h2g])
  ·refine⟨fun h2=> ?_,fun h2=> ?_⟩
   ·have wb:IntKind.i64.wrap (c+(dg b i:Nat))=c+(dg b i:Nat):=i64_in (by omega) (by omega)
    have za:dg a i=0:=kD (by omega)
    have wq1:=wq (x:=c+(dg b i:Nat)) (n:=1000000000) (by omega) (by omega) (by omega)
    try simp[wq1,w3,wb,bA _ _ h2]
    intro g2 hg2 h2g hb2
    try simp[wq1,w3,wb,bA _ _ h2,h2g,Ne.symm h2g,appV,elsV,Int.not_lt.2 hg2,hol]
    refine⟨by omega,fun g3 hg3 hb3=> ?_⟩
    have fZ:bl g3=none:=by grind
    try simp[wq1,w3,wb,bA _ _ h2]
    rw[aB]
    refine⟨(g3,⟨i+1,o++ [(c+(dg b i:Nat)).tmod 1000000000],(c+(dg b i:Nat)).tdiv 1000000000⟩),⟨hg3,fZ,hI.next (by omega),by simp only;omega,.inr (by simpa using Hz)⟩,by simp only;omega,rfl,by simp,?_⟩
    rw[aX]
    exact dE (by rw[←hol,dP];simp[iv]) (by simp[hbg,hb2,h2g])
   ·have za:dg a i=0:=kD (by omega)
    have zb:dg b i=0:=kD (by omega)
    have wq1:=wq (x:=c) (n:=1000000000) (by omega) (by omega) (by omega)
    try simp[wq1,w3]
    intro g2 hg2 h2g hb2
    try simp[wq1,w3,h2g,Ne.symm h2g,appV,elsV,Int.not_lt.2 hg2,hol]
    refine⟨by omega,fun g3 hg3 hb3=> ?_⟩
    have fZ:bl g3=none:=by grind
    try simp[wq1,w3]
    rw[aB]
    refine⟨(g3,⟨i+1,o++ [(c).tmod 1000000000],(c).tdiv 1000000000⟩),⟨hg3,fZ,hI.next (by omega),by simp only;omega,.inr (by simpa using Hz)⟩,by simp only;omega,rfl,by simp,?_⟩
    rw[aX]
    exact dE (by rw[←hol,dP];simp[iv]) (by simp[hbg,hb2,h2g])
 ·have hc:c=0:=by omega
  subst hc
  rw[←hI.spec (by omega) (by omega) hm]
  exact aK [.lsl g 1 0 i] 1 (by simp) (dD hg hbg (by simp) (by simp[hol]) (nZ o)) (by simp[hbg])

theorem fP (a b:Nat) (ha:(lim a).length≤400000) (hb:(lim b).length≤400000):RO Tryz.prog 266 [.sl (iv (lim a)),.sl (iv (lim b))] (.sl (iv (lim (a*b)))):=by
 by_cases h0:a=0∨b=0
 ·have hz:a*b=0:=Nat.mul_eq_zero.2 h0
  rw[hz,aW]
  refine aI Tryz.func266 rfl rfl (by rw[Tryz.ntmps266];simp) fun bl=> ?_
  rw[Tryz.ntmps266,Tryz.results266]
  refine aC ?_
  simp
  refine bD [(0,.sl (iv (lim a))),(1,.sl (iv (lim b)))] _ bl 19 (.bool true) ⟨rfl,by simp,Sub.refl _⟩ rfl ?_ ?_
  ·simp
   rcases h0 with h0 | h0
   ·simp[h0,aW]
   ·simp[h0,aW]
  simp
  exact aK [.nils] 0 (by simp) rfl (Sub.refl _)
 have ha0:a≠0:=by omega
 have hb0:b≠0:=by omega
 have la:(lim a).length≠0:=fun h=>ha0 (eN.1 (List.length_eq_zero_iff.1 h))
 have lb:(lim b).length≠0:=fun h=>hb0 (eN.1 (List.length_eq_zero_iff.1 h))
 refine aI Tryz.func266 rfl rfl (by rw[Tryz.ntmps266];simp) fun bl=> ?_
 rw[Tryz.ntmps266,Tryz.results266]
 refine aC ?_
 simp
 refine bD [(0,.sl (iv (lim a))),(1,.sl (iv (lim b)))] _ bl 19 (.bool false) ⟨rfl,by simp,Sub.refl _⟩ rfl ?_ ?_
 ·have na:lim a≠ []:=fun h=>la (by rw[h];rfl)
  have nb:lim b≠ []:=fun h=>lb (by rw[h];rfl)
  simp[na,nb]
 have w0:IntKind.i64.wrap (((lim a).length:Int)+(lim b).length)=(lim a).length+(lim b).length:=i64_in (by omega) (by omega)
 simp[w0]
 refine⟨(lim a).length+(lim b).length,by simp,by simp,by omega,by unfold maxLen;omega,fun g hg0 hg=> ?_⟩
 have er:List.replicate ((lim a).length+(lim b).length) [V.int IntKind.i64 0]=iv (List.replicate ((lim a).length+(lim b).length) 0):=by simp[iv]
 simp[er]
 refine aJ (fun p:TL=> [(0,.sl (iv (lim a))),(1,.sl (iv (lim b))),(5,.lsl g 1 0 ((lim a).length+(lim b).length)),(26,.sl (iv (lim a))),(27,.int .i64 (lim a).length),(28,.int .i64 p.i)]) (fun p=>upd bl g (some ⟨1,iv p.O⟩))
  (fun p=>p.i≤(lim a).length∧iN a b p.i 0 p.O 0) (fun p=>(lim a).length - p.i) _ ⟨0,0,_,0⟩ ⟨Nat.zero_le _,iN.start a b⟩ ⟨rfl,by simp,sub_eq (by simp)⟩ ?_
 rintro⟨i,j0,O,c0⟩ ⟨hi,hI⟩
 simp only at hi hI
 refine aC ?_
 simp
 refine⟨fun h1=> ?_,fun h1=> ?_⟩
 ·simp[bA _ _ h1]
  refine aJ (fun p:TL=> [(0,.sl (iv (lim a))),(1,.sl (iv (lim b))),(5,.lsl g 1 0 ((lim a).length+(lim b).length)),(6,.int .i64 i),(7,.int .i64 (dg a i:Nat)),(8,.int .i64 p.c),(26,.sl (iv (lim a))),(27,.int .i64 (lim a).length),(28,.int .i64 i),(33,.sl (iv (lim b))),(34,.int .i64 (lim b).length),(35,.int .i64 p.j)]) (fun p=>upd bl g (some ⟨1,iv p.O⟩))
   (fun p=>p.j≤(lim b).length∧iN a b i p.j p.O p.c) (fun p=>(lim b).length - p.j) _ ⟨i,0,O,0⟩ ⟨Nat.zero_le _,hI⟩ ⟨rfl,by simp,sub_eq (by simp)⟩ ?_
  rintro⟨i',j,O,c⟩ ⟨hj,hJ⟩
  simp only at hj hJ
  have hlen:=hJ.len
  refine aC ?_
  simp
  refine⟨fun h2=> ?_,fun h2=> ?_⟩
  ·have hk:i+j<O.length:=by omega
   obtain⟨n1,n2,n3,hN⟩:=hJ.next h1 h2 hk
   have w1:IntKind.i64.wrap ((i:Int)+j)=(i:Int)+j:=i64_in (by omega) (by omega)
   have p1:0≤(i:Int)+j:=by omega
   have p2:(i:Int)+j<(lim a).length+(lim b).length:=by omega
   have p3:((i:Int)+j).toNat=i+j:=by omega
   have w3:IntKind.i64.wrap ((j:Int)+1)=j+1:=i64_in (by omega) (by omega)
   have hm:0≤(dg a i:Int)*dg b j∧(dg a i:Int)*dg b j<1000000000000000000:=by
    have hO:=hJ.dig.at hk
    have e:0≤(dg a i:Int)*dg b j:=by rw[←Int.natCast_mul];omega
    exact⟨e,by omega⟩
   have hO:=hJ.dig.at hk
   have w4:IntKind.i64.wrap ((dg a i:Int)*dg b j)=(dg a i:Int)*dg b j:=i64_in (by omega) (by omega)
   have w5:IntKind.i64.wrap (O[i+j]+(dg a i:Int)*dg b j)=O[i+j]+(dg a i:Int)*dg b j:=i64_in (by omega) (by omega)
   have w6:IntKind.i64.wrap (O[i+j]+(dg a i:Int)*dg b j+c)=O[i+j]+(dg a i:Int)*dg b j+c:=i64_in (by omega) (by omega)
   have w7:=wq (x:=O[i+j]+(dg a i:Int)*dg b j+c) (n:=1000000000) n3 (by omega) (by omega)
   simp[bA _ _ h2,w1,w3,w4,w5,w6,w7,p1,p2,p3,hk]
   rw[aB]
   obtain⟨c',hc'⟩: ∃c':Nat,(O[i+j]+(dg a i:Int)*dg b j+c).tdiv 1000000000=c':=⟨((O[i+j]+(dg a i:Int)*dg b j+c).tdiv 1000000000).toNat,by omega⟩
   refine⟨⟨i,j+1,O.set (i+j) ((O[i+j]+(dg a i:Int)*dg b j+c).tmod 1000000000),c'⟩,⟨by simp only;omega,?_⟩,by simp only;omega,rfl,by simp[hc'],sub_eq ?_⟩
   ·rw[hc'] at hN;exact hN
   ·rw[fG]
  ·have e:j=(lim b).length:=by omega
   have hk:i+(lim b).length<O.length:=by omega
   have hR:=hJ.row h1 (by omega) hj hk
   have w1:IntKind.i64.wrap ((i:Int)+(lim b).length)=(i:Int)+(lim b).length:=i64_in (by omega) (by omega)
   have p1:0≤(i:Int)+(lim b).length:=by omega
   have p2:(i:Int)+(lim b).length<(lim a).length+(lim b).length:=by omega
   have p3:((i:Int)+(lim b).length).toNat=i+(lim b).length:=by omega
   have w3:IntKind.i64.wrap ((i:Int)+1)=i+1:=i64_in (by omega) (by omega)
   simp[w1,w3,p1,p2,p3,hk]
   rw[aB]
   refine⟨⟨i+1,0,O.set (i+(lim b).length) c,0⟩,⟨by simp only;omega,hR⟩,by simp only;omega,rfl,by simp,sub_eq ?_⟩
   rw[fG]
 ·have hv:=hI.done (c:=0) (by omega)
  have hlen:=hI.len
  have hg':bl g=none:=by simpa using hg
  try simp
  refine gD 1 bl _ (by simp[hg']) (mO hg0 hg' (by simp) hlen) (gV _ hI.dig (by omega)) ?_
  rw[hv]
  simp
  exact aP (by simp) rfl rfl
theorem At (a b:Nat) (ha:(lim a).length≤1048576) (hb0:0<b) (hb:b<1000000000):RO Tryz.prog 295 [.sl (iv (lim a)),.int .i64 b] (.tup [.sl (iv (lim (a / b))),.int .i64 (a % b:Nat)]):=by
 refine aI Tryz.func295 rfl rfl (by rw[Tryz.ntmps295];simp) fun bl=> ?_
 rw[Tryz.ntmps295,Tryz.results295]
 refine aC ?_
 simp
 refine⟨by omega,by unfold maxLen;omega,fun g hg0 hg=> ?_⟩
 have er:List.replicate ((lim a).length) [V.int IntKind.i64 0]=iv (List.replicate ((lim a).length) 0):=by simp[iv]
 have w0:IntKind.i64.wrap (((lim a).length:Int) - 1)=((lim a).length:Int) - 1:=i64_in (by omega) (by omega)
 simp[er,w0]
 refine aJ (fun p:SL=> [(0,.sl (iv (lim a))),(1,.int .i64 b),(6,.lsl g 1 0 (lim a).length),(7,.int .i64 p.r),(8,.int .i64 ((p.i:Int) - 1))]) (fun p=>upd bl g (some ⟨1,iv (List.replicate p.i 0++p.Q)⟩))
  (fun p=>0≤p.r∧qF a b p.i p.Q p.r.toNat) (fun p=>p.i) _ ⟨(lim a).length,[],0⟩ ⟨Int.le_refl _,qF.start a b hb0⟩ ⟨rfl,by simp,sub_eq (by simp)⟩ ?_
 rintro⟨i,Q,r⟩ ⟨hr0,hI⟩
 simp only at hr0 hI
 have hr:=hI.rlt
 have hle:=hI.le
 have hql:=hI.len
 refine aC ?_
 simp[-binV, -intV]
 refine⟨fun h1=> ?_,fun h1=> ?_⟩
 ·obtain⟨m,rfl⟩: ∃m,i=m+1:=⟨i - 1,by omega⟩
  have hm:m<(lim a).length:=by omega
  have hd:=eP a m
  obtain⟨z,hz⟩: ∃z,z=r.toNat*1000000000+dg a m:=⟨_,rfl⟩
  have hN:=hI.next (q:=z / b) (r':=z % b) (by rw[hz]) (by rw[hz])
  have e1:((m+1:Nat):Int) - 1=m:=by omega
  have w1:IntKind.i64.wrap (r*1000000000)=r*1000000000:=i64_in (by omega) (by omega)
  have w2:IntKind.i64.wrap (r*1000000000+dg a m)=z:=by rw[i64_in (by omega) (by omega)];omega
  have hz2:z≤9223372036854775807:=by omega
  simp[-binV, -intV,e1,bA _ _ hm,w1,w2]
  clear w1 w2 hz
  have b0: ¬ b=0:=by omega
  have hg':bl g=none:=by simpa using hg
  have w3:=wq (x:=(z:Int)) (n:=b) (by omega) (by omega) (by omega)
  have w4:(z:Int).tdiv b=(z / b:Nat):=by rw[Int.tdiv_eq_ediv_of_nonneg (by omega)];simp
  have w5:(z:Int).tmod b=(z % b:Nat):=by rw[Int.tmod_eq_emod_of_nonneg (by omega)];simp
  rw[w4] at w3
  have w3':IntKind.i64.wrap ((z:Int) / b)=(z:Int) / b:=by simpa using w3
  have q:(iv (List.replicate (m+1) 0++Q))[m]? =some [.int .i64 0]:=by rw[eK _ _ (by simp;omega)];simp
  have w6:IntKind.i64.wrap ((m:Int) - 1)=(m:Int) - 1:=i64_in (by omega) (by omega)
  refine⟨by omega,?_⟩
  simp[-binV, -intV,w3',w4,w5,hm,b0,q,w6]
  rw[aB]
  refine⟨⟨m,((z / b:Nat):Int)::Q,(z % b:Nat)⟩,⟨by simp only;omega,by show qF a b m _ (((z % b:Nat):Int)).toNat;rw[Int.toNat_natCast];exact hN⟩,by simp only;omega,rfl,by simp,sub_eq ?_⟩
  rw[←qS m _ 0 Q,←fG]
  simp
 ·have e:i=0:=by omega
  subst e
  obtain⟨h2,h3⟩:=hI.done
  have h4:r=(a % b:Nat):=by omega
  have hg':bl g=none:=by simpa using hg
  try simp
  refine gD 1 bl _ (by simp[hg']) (mO (ns:=Q) hg0 hg' (by simp) (by simp[hql])) (gV _ hI.dig (by omega)) ?_
  simp[h2,h4]
  exact aK [.sl (iv (lim (a / b))),.int .i64 (a % b:Nat)] 1 (by simp) rfl (by simp)
theorem wP (a b:Nat) (hab:b≤a) (ha:(lim a).length≤1000000):RO Tryz.prog 289 [.sl (iv (lim a)),.sl (iv (lim b))] (.sl (iv (lim (a - b)))):=by
 refine aI Tryz.func289 rfl rfl (by rw[Tryz.ntmps289];simp) fun bl=> ?_
 rw[Tryz.ntmps289,Tryz.results289]
 refine aC ?_
 simp
 intro g0 hg0 hb0
 refine aJ (fun p:Int×ML=> [(0,.sl (iv (lim a))),(1,.sl (iv (lim b))),(5,.lsl p.1 1 0 p.2.i),(6,.int .i64 p.2.br),(10,.sl (iv (lim a))),(11,.int .i64 (lim a).length),(12,.int .i64 p.2.i)]) (fun p=>upd bl p.1 (some ⟨1,iv p.2.o⟩))
  (fun p=>0≤p.1∧bl p.1=none∧iG a b p.2.i p.2.o p.2.br∧p.2.i≤(lim a).length) (fun p=>(lim a).length - p.2.i) _ (g0,⟨0,[],0⟩) ⟨hg0,hb0,iG.start a b,by simp⟩ ⟨rfl,by simp,sub_eq (by simp[iv])⟩ ?_
 rintro⟨g,i,o,br⟩ ⟨hg,hbg,hI,hi⟩
 simp only at hg hbg hI hi
 have hb1:=hI.x
 have hd1:=eP a i
 have hd2:=eP b i
 have hc1:=hI.c1
 have hol:=hI.len
 refine aC ?_
 simp
 refine⟨fun h1=> ?_,fun h1=> ?_⟩
 ·have w1:IntKind.i64.wrap ((dg a i:Int) - br)=dg a i - br:=i64_in (by omega) (by omega)
  have w2:IntKind.i64.wrap ((dg a i:Int) - br - dg b i)=dg a i - br - dg b i:=i64_in (by omega) (by omega)
  have w3:IntKind.i64.wrap ((i:Int)+1)=i+1:=i64_in (by omega) (by omega)
  simp[bA _ _ h1,w1]
  refine⟨fun h2=> ?_,fun h2=> ?_⟩
  ·simp[bA _ _ h2,w2]
   refine⟨fun h3=> ?_,fun h3=> ?_⟩
   ·have w4:IntKind.i64.wrap ((dg a i:Int) - br - dg b i+1000000000)=dg a i - br - dg b i+1000000000:=i64_in (by omega) (by omega)
    try simp[w4,w3]
    intro g2 hg2 h2g hb2
    simp[w4,w3,h2g,Ne.symm h2g,appV,elsV,Int.not_lt.2 hg2,hol]
    refine⟨by omega,fun g3 hg3 hb3=> ?_⟩
    have fZ:bl g3=none:=by grind
    try simp[w4,w3]
    rw[aB]
    refine⟨(g3,⟨i+1,o++ [((dg a i:Int) - br - dg b i+1000000000:Int)],1⟩),⟨hg3,fZ,hI.O1 (x:=(dg a i:Int) - br - dg b i) rfl (by omega),by simp only;omega⟩,by simp only;omega,rfl,by simp,?_⟩
    rw[aX]
    exact dE (by rw[←hol,dP];simp[iv]) (by simp[hbg,hb2,h2g])
   ·try simp[w3]
    intro g2 hg2 h2g hb2
    simp[w3,h2g,Ne.symm h2g,appV,elsV,Int.not_lt.2 hg2,hol]
    refine⟨by omega,fun g3 hg3 hb3=> ?_⟩
    have fZ:bl g3=none:=by grind
    try simp[w3]
    rw[aB]
    refine⟨(g3,⟨i+1,o++ [((dg a i:Int) - br - dg b i:Int)],0⟩),⟨hg3,fZ,hI.M3 (x:=(dg a i:Int) - br - dg b i) rfl (by omega),by simp only;omega⟩,by simp only;omega,rfl,by simp,?_⟩
    rw[aX]
    exact dE (by rw[←hol,dP];simp[iv]) (by simp[hbg,hb2,h2g])
  ·have d0:dg b i=0:=kD (by omega)
   refine⟨fun h3=> ?_,fun h3=> ?_⟩
   ·have w4:IntKind.i64.wrap ((dg a i:Int) - br+1000000000)=dg a i - br+1000000000:=i64_in (by omega) (by omega)
    try simp[w4,w3]
    intro g2 hg2 h2g hb2
    simp[w4,w3,h2g,Ne.symm h2g,appV,elsV,Int.not_lt.2 hg2,hol]
    refine⟨by omega,fun g3 hg3 hb3=> ?_⟩
    have fZ:bl g3=none:=by grind
    try simp[w4,w3]
    rw[aB]
    refine⟨(g3,⟨i+1,o++ [((dg a i:Int) - br+1000000000:Int)],1⟩),⟨hg3,fZ,hI.O1 (x:=(dg a i:Int) - br) (by omega) (by omega),by simp only;omega⟩,by simp only;omega,rfl,by simp,?_⟩
    rw[aX]
    exact dE (by rw[←hol,dP];simp[iv]) (by simp[hbg,hb2,h2g])
   ·try simp[w3]
    intro g2 hg2 h2g hb2
    simp[w3,h2g,Ne.symm h2g,appV,elsV,Int.not_lt.2 hg2,hol]
    refine⟨by omega,fun g3 hg3 hb3=> ?_⟩
    have fZ:bl g3=none:=by grind
    try simp[w3]
    rw[aB]
    refine⟨(g3,⟨i+1,o++ [((dg a i:Int) - br:Int)],0⟩),⟨hg3,fZ,hI.M3 (x:=(dg a i:Int) - br) (by omega) (by omega),by simp only;omega⟩,by simp only;omega,rfl,by simp,?_⟩
    rw[aX]
    exact dE (by rw[←hol,dP];simp[iv]) (by simp[hbg,hb2,h2g])
 ·have e:i=(lim a).length:=by omega
  subst e
  have hv:=hI.done hab (Nat.le_refl _)
  refine gD 1 bl _ (by simp[hbg]) (mO (ns:=o) hg hbg (by simp) hol) (gV _ hI.dig (by omega)) ?_
  simp[hv]
  exact aP (by simp) rfl rfl
theorem gE (N:Nat) (hN:N≤9223372036854775807):RO Tryz.prog 267 [.int .i64 N] (.sl (iv (lim N))):=by
 have hL:=uW (show N≤18446744073709551615 by omega)
 refine aI Tryz.func267 rfl rfl (by rw[Tryz.ntmps267];simp) fun bl=> ?_
 rw[Tryz.ntmps267,Tryz.results267]
 refine aC ?_
 simp
 intro g0 hg0 hb0
 refine aJ (fun p:Int×List Int×Nat=> [(0,.int .i64 p.2.2),(3,.lsl p.1 1 0 p.2.1.length)]) (fun p=>upd bl p.1 (some ⟨1,iv p.2.1⟩)) (fun p=>lim N=p.2.1++lim p.2.2∧p.2.2≤9223372036854775807∧bl p.1=none∧0≤p.1) (fun p=>p.2.2) _ (g0,[],N) ⟨by simp,hN,hb0,hg0⟩ ⟨rfl,by simp,sub_eq (by simp[iv])⟩ ?_
 rintro⟨g,o,n⟩ ⟨hl,hn,hg,h0⟩
 simp only at hl hn hg h0
 have hlo:o.length≤3:=by have:=congrArg List.length hl;simp at this;omega
 refine aC ?_
 simp
 refine⟨fun h=> ?_,fun h=> ?_⟩
 ·have m0:(n:Int).tmod 1000000000=((n % 1000000000:Nat):Int):=by rw[Int.tmod_eq_emod_of_nonneg (by omega)];omega
  have q0:(n:Int).tdiv 1000000000=((n / 1000000000:Nat):Int):=by rw[Int.tdiv_eq_ediv_of_nonneg (by omega)];omega
  have w2:IntKind.i64.wrap ((n:Int) / 1000000000)=(n:Int) / 1000000000:=i64_in (by omega) (by omega)
  intro g2 hg2 h2g hb2
  simp[h2g,Ne.symm h2g,appV,elsV,Int.not_lt.2 hg2,m0,q0,w2]
  refine⟨by omega,fun g3 hg3 hb3=> ?_⟩
  have fZ:bl g3=none:=by grind
  try simp[m0,q0,w2]
  rw[aB]
  refine⟨(g3,o++ [((n % 1000000000:Nat):Int)],n / 1000000000),⟨by rw[hl,W9 h];simp,by simp only;omega,fZ,hg3⟩,by simp only;omega,rfl,by simp,?_⟩
  rw[aX]
  exact dE (by rw[dP];simp[iv,m0]) (by simp[hg,hb2,h2g])
 ·have e:n=0:=by omega
  subst e
  rw[aW,List.append_nil] at hl
  rw[hl]
  exact aK [.lsl g 1 0 o.length] 1 (by simp) (dD h0 hg (by simp) (by simp) (nZ o)) (by simp[hg])
theorem Bm (a b:Nat) (ha:a≤9223372036854775807) (hb:b≤9223372036854775807):RO Tryz.prog 285 [.int .i64 a,.int .i64 b] (.sl (iv (lim (Nat.gcd a b)))):=by
 refine aI Tryz.func285 rfl rfl (by rw[Tryz.ntmps285];simp) fun bl=> ?_
 rw[Tryz.ntmps285,Tryz.results285]
 refine aC ?_
 simp
 refine aJ (fun p:Nat×Nat=> [(0,.int .i64 p.1),(1,.int .i64 p.2)]) (fun _=>bl) (fun p=>Nat.gcd p.1 p.2=Nat.gcd a b∧p.1≤9223372036854775807∧p.2≤9223372036854775807) (fun p=>p.2) _ (a,b) ⟨rfl,ha,hb⟩ ⟨rfl,by simp,Sub.refl _⟩ ?_
 rintro⟨x,y⟩ ⟨hg,hx,hy⟩
 simp only at hg hx hy
 refine aC ?_
 simp
 refine⟨fun h=> ?_,fun h=> ?_⟩
 ·have hy0: ¬ y=0:=by omega
  have hlt:=Nat.mod_lt x h
  have m0:(x:Int).tmod y=((x % y:Nat):Int):=by rw[Int.tmod_eq_emod_of_nonneg (by omega)];simp
  simp[hy0,m0,aB]
  refine⟨y,x % y,⟨?_,hy,by omega⟩,hlt,rfl,by simp,Sub.refl _⟩
  rw[←hg,Nat.gcd_comm x y,Nat.gcd_rec y x,Nat.gcd_comm]
 ·have h0:y=0:=by omega
  subst h0
  rw[Nat.gcd_zero_right] at hg
  refine aD (gE x hx) ?_
  rw[←hg]
  simp
  exact aP (by simp) rfl rfl

theorem Ly {n:Nat} (h:(lim n).length≤60):nU (lim n)=true:=by unfold nU;simp[h]
theorem Hn :lim 9223372036854775807= [854775807,223372036,9]:=by
 refine Tz ?_ (by decide+kernel) (.inr (by decide+kernel))
 intro d hd
 simp at hd
 omega
theorem Hu {a b:Nat} :jD a b≤0 ↔ a≤b:=by unfold jD;split<;>(try split)<;>omega
theorem Y4 (n k:Nat):val ((lim n).drop k)≤n:=by
 rcases Nat.lt_or_ge (lim n).length k with h | h
 ·rw[List.drop_of_length_le (by omega)];exact Nat.zero_le _
 ·have:=kH (lim n) h
  rw[eY] at this
  have hp:1≤LB^k:=Nat.pow_pos iH
  have:=Nat.mul_le_mul_right (val ((lim n).drop k)) hp
  omega
theorem xG (n:Nat) (hn:n≤9223372036854775807):RO Tryz.prog 284 [.sl (iv (lim n))] (.tup [.int .i64 n,.bool true]):=by
 have hL:=uW (show n≤18446744073709551615 by omega)
 refine aI Tryz.func284 rfl rfl (by rw[Tryz.ntmps284];simp) fun bl=> ?_
 rw[Tryz.ntmps284,Tryz.results284]
 refine aC ?_
 simp
 refine Vr [(0,.sl (iv (lim n)))] _ bl 14 (.bool false) ⟨rfl,by simp,Sub.refl _⟩ rfl ?_ ?_
 ·simp
  refine aD (nF _ (by omega)) ?_
  simp[Ly (show(lim n).length≤60 by omega)]
  intro g hg0 hg
  refine aU 1 (ys:= [.sl (iv (lim n)),.sl (iv (lim 9223372036854775807))]) ?_ (lO n 9223372036854775807 (by omega) (by rw[Hn];simp)) rfl ?_
  ·have er3:List.range 3= [0,1,2]:=rfl
   simp[frzL,frz,Hn,iv,V.cl,Int.not_lt.2 hg0,er3]
  simp[hg]
  have:=Hu.2 hn
  omega
 have w0:IntKind.i64.wrap (((lim n).length:Int) - 1)=((lim n).length:Int) - 1:=i64_in (by omega) (by omega)
 simp[w0]
 refine aJ (fun p:Nat×Int=> [(0,.sl (iv (lim n))),(4,.int .i64 p.2),(5,.int .i64 ((p.1:Int) - 1))]) (fun _=>bl) (fun p=>p.1≤(lim n).length∧p.2=(val ((lim n).drop p.1):Nat)) (fun p=>p.1) _ ((lim n).length,0) ⟨Nat.le_refl _,by simp[val]⟩ ⟨rfl,by simp,Sub.refl _⟩ ?_
 rintro⟨k,x⟩ ⟨hk,hx⟩
 simp only at hk hx
 refine aC ?_
 simp[-binV, -intV]
 refine⟨fun h1=> ?_,fun h1=> ?_⟩
 ·obtain⟨m,rfl⟩: ∃m,k=m+1:=⟨k - 1,by omega⟩
  have hm:m<(lim n).length:=by omega
  have e1:((m+1:Nat):Int) - 1=m:=by omega
  have hv:val ((lim n).drop m)=dg n m+LB*val ((lim n).drop (m+1)):=by
   rw[List.drop_eq_getElem_cons hm,val,gP hm,Int.toNat_natCast]
  have hle:=Y4 n m
  have hLB:LB=1000000000:=rfl
  rw[hLB] at hv
  have w1:IntKind.i64.wrap (x*1000000000)=x*1000000000:=i64_in (by omega) (by omega)
  have w2:IntKind.i64.wrap (x*1000000000+dg n m)=x*1000000000+dg n m:=i64_in (by omega) (by omega)
  have w3:IntKind.i64.wrap ((m:Int) - 1)=(m:Int) - 1:=i64_in (by omega) (by omega)
  simp[-binV, -intV,e1,bA _ _ hm,w1,w2,w3]
  refine⟨by omega,?_⟩
  rw[aB]
  refine⟨(m,x*1000000000+dg n m),⟨by simp only;omega,by simp only;omega⟩,by simp only;omega,rfl,by simp,Sub.refl _⟩
 ·have e:k=0:=by omega
  subst e
  have hx2:x=n:=by rw[hx];simp
  rw[hx2]
  exact aK [.int .i64 n,.bool true] 1 (by simp) rfl (Sub.refl _)
structure DL2 where
 lo:Int
 hi:Int
theorem Ay (r b n:Nat) (hn:(lim b).length=n+1) (hbr:b≤r) (hrb:r<LB*b) (hl:n≤300000):RO Tryz.prog 296 [.sl (iv (lim r)),.sl (iv (lim b))] (.int .i64 (r / b:Nat)):=by
 have ht:0<dg b n:=U9 hn
 have htl:=eP b n
 have hb0:0<b:=by
  rcases Nat.eq_zero_or_pos b with h | h
  ·rw[h,aW] at hn;simp at hn
  ·exact h
 have hlr:n+1≤(lim r).length:=by have:=cD hbr;omega
 have hbl:b<LB^(n+1):=aL.1 (by omega)
 have aYC:(lim r).length≤n+2:=by
  refine aL.2 (Nat.lt_of_lt_of_le hrb ?_)
  rw[Nat.pow_succ,Nat.mul_comm]
  exact Nat.mul_le_mul_right _ (Nat.le_of_lt hbl)
 have hLB:LB=1000000000:=rfl
 have er:r=(dg r (n+1)*LB+dg r n)*LB^n+pv r n:=by
  have h1:=eL r n
  have h2:=eL r (n+1)
  rw[fT (by omega)] at h2
  have e1:dg r (n+1)*LB*LB^n=LB^n*LB*dg r (n+1):=by ac_rfl
  have e2:dg r n*LB^n=LB^n*dg r n:=Nat.mul_comm _ _
  rw[Nat.pow_succ] at h2
  rw[Nat.add_mul]
  omega
 have eb:b=dg b n*LB^n+pv b n:=by
  have h1:=eL b n
  rw[fT (by omega)] at h1
  have e2:dg b n*LB^n=LB^n*dg b n:=Nat.mul_comm _ _
  omega
 obtain⟨x,hx⟩: ∃x,x=dg r (n+1)*LB+dg r n:=⟨_,rfl⟩
 have hlo:x / (dg b n+1)≤r / b:=by
  have:=Tt (x:=x) (rl:=pv r n) (Cs b n) ht
  rw[hx,←er,←eb,←hx] at this;exact this
 have hhi:r / b≤x / dg b n:=by
  have:=Ci (x:=x) (bl:=pv b n) (Cs r n) ht
  rw[hx,←er,←eb,←hx] at this;exact this
 have hq:r / b≤999999999:=by
  have:r / b<LB:=by rw[Nat.div_lt_iff_lt_mul hb0];exact hrb
  omega
 have hr1:=eP r (n+1)
 have hr0:=eP r n
 have hxl:x≤1000000000000000000:=by rw[hx,hLB];omega
 refine aI Tryz.func296 rfl rfl (by rw[Tryz.ntmps296];simp) fun bl=> ?_
 rw[Tryz.ntmps296,Tryz.results296]
 obtain⟨d1,hd1⟩: ∃d1:Int,d1=dg r (n+1):=⟨_,rfl⟩
 have w0:IntKind.i64.wrap (((lim b).length:Int) - 1)=(n:Int):=by rw[i64_in (by omega) (by omega)];omega
 have w1:IntKind.i64.wrap (d1*1000000000)=d1*1000000000:=i64_in (by omega) (by omega)
 have w2:IntKind.i64.wrap ((dg r n:Int)+d1*1000000000)=x:=by rw[i64_in (by omega) (by omega),hx,hLB];omega
 have w3:IntKind.i64.wrap ((dg b n:Int)+1)=(dg b n:Int)+1:=i64_in (by omega) (by omega)
 have lr:=bA r n (by omega)
 have lb:=bA b n (by omega)
 have q1:(iv (lim r))[(lim b).length]? =if(lim b).length<(lim r).length then some [.int .i64 d1] else none:=by
  split
  ·rename_i h;rw[bA _ _ h,hn,hd1]
  ·rename_i h;rw[List.getElem?_eq_none (by simp;omega)]
 have y1:(x:Int).tdiv ((dg b n:Int)+1)=(x / (dg b n+1):Nat):=by rw[Int.tdiv_eq_ediv_of_nonneg (by omega)];simp
 have y2:(x:Int).tdiv (dg b n:Int)=(x / dg b n:Nat):=by rw[Int.tdiv_eq_ediv_of_nonneg (by omega)];simp
 have y3:=wq (x:=(x:Int)) (n:=(dg b n:Int)+1) (by omega) (by omega) (by omega)
 have y4:=wq (x:=(x:Int)) (n:=(dg b n:Int)) (by omega) (by omega) (by omega)
 rw[y1] at y3
 rw[y2] at y4
 obtain⟨lo0,aAU⟩: ∃l:Int,l=(x / (dg b n+1):Nat):=⟨_,rfl⟩
 obtain⟨hi0,aKF⟩: ∃l:Int,l=(x / dg b n:Nat):=⟨_,rfl⟩
 rw[←aAU] at y1 y3
 rw[←aKF] at y2 y4
 have z1: ¬ (dg b n:Int)+1=0:=by omega
 have z2: ¬ dg b n=0:=by omega
 obtain⟨D,hD⟩: ∃D:Int,D=(r / b:Nat):=⟨_,rfl⟩
 rw[←hD]
 have hD0:0≤D:=by rw[hD];exact Int.natCast_nonneg _
 have hDq:D≤999999999:=by rw[hD];generalize r / b=z at hq ⊢;omega
 have aT5:lo0≤D:=by rw[aAU,hD];generalize r / b=z at hlo ⊢;generalize x / (dg b n+1)=z2 at hlo ⊢;omega
 have aW3:D≤hi0:=by rw[aKF,hD];generalize r / b=z at hhi ⊢;generalize x / dg b n=z2 at hhi ⊢;omega
 have aN7:0≤lo0:=by rw[aAU];exact Int.natCast_nonneg _
 refine aE ?_
 simp
 refine aE ?_
 simp
 refine aE ?_
 simp[w0,lr]
 refine gH (fun _:Unit=> [(0,.sl (iv (lim r))),(1,.sl (iv (lim b))),(5,.int .i64 (lim b).length),(6,.int .i64 x)]) (fun _=>bl) (fun _=>True) 63 ?_ ?_
 ·refine aC ?_
  simp[-binV, -intV]
  refine⟨fun h=> ?_,fun h=> ?_⟩
  ·have q2:(lim r)[(lim b).length]'h=d1:=by rw[gP h,hn,hd1]
   simp[-binV, -intV,q1,h,q2,w1,w2]
   rw[aH]
   exact⟨(),trivial,rfl,by simp,Sub.refl _⟩
  ·have e0:dg r (n+1)=0:=kD (by omega)
   have ex:dg r n=x:=by rw[hx,e0];simp
   rw[aH]
   exact⟨(),trivial,rfl,by simp[ex],Sub.refl _⟩
 rintro _ _
 refine aC ?_
 simp[w0,lb,w3,y1,y2,y3,y4,z1,z2,minV]
 refine aJ (fun p:DL2=> [(0,.sl (iv (lim r))),(1,.sl (iv (lim b))),(7,.int .i64 p.lo),(8,.int .i64 p.hi)]) (fun _=>bl) (fun p=>0≤p.lo∧p.lo≤D∧D≤p.hi∧p.hi≤999999999) (fun p=>(p.hi - p.lo).toNat) _ ⟨lo0,if hi0<999999999 then hi0 else 999999999⟩ ⟨aN7,aT5,by simp only;split<;>omega,by simp only;split<;>omega⟩ ⟨rfl,by simp[minV],Sub.refl _⟩ ?_
 rintro⟨lo,hi⟩ ⟨a1,a2,a3,a4⟩
 simp only at a1 a2 a3 a4
 refine aC ?_
 simp
 refine⟨fun h=> ?_,fun h=> ?_⟩
 ·have v1:IntKind.i64.wrap (lo+hi)=lo+hi:=i64_in (by omega) (by omega)
  have v2:IntKind.i64.wrap (lo+hi+1)=lo+hi+1:=i64_in (by omega) (by omega)
  have v3:=wq (x:=lo+hi+1) (n:=2) (by omega) (by omega) (by omega)
  have v4:(lo+hi+1).tdiv 2=(((lo+hi+1) / 2).toNat:Nat):=by rw[Int.tdiv_eq_ediv_of_nonneg (by omega)];omega
  rw[v4] at v3
  obtain⟨q,hqq⟩: ∃q:Nat,q=((lo+hi+1) / 2).toNat:=⟨_,rfl⟩
  rw[←hqq] at v3 v4
  have hq2:(q:Int)=(lo+hi+1) / 2:=by omega
  have aYI:q≤999999999:=by omega
  simp[v1,v2,v3,v4]
  refine aD (gE q (by omega)) ?_
  simp
  have lq:(lim q).length≤3:=uW (by omega)
  refine aD (fP b q (by omega) (by omega)) ?_
  simp
  have lbq:=fU (k:=300002) (l:=3) (show(lim b).length≤300002 by omega) lq
  refine aD (lO _ _ (by omega) (by omega)) ?_
  simp[Hu]
  have hdh:=Du (r:=r) (q:=q) hb0
  refine⟨fun h2=> ?_,fun h2=> ?_⟩
  ·rw[aB]
   have h3:=hdh.1 h2
   refine⟨⟨q,hi⟩,⟨by simp only;omega,?_,a3,a4⟩,by simp only;omega,rfl,by simp,Sub.refl _⟩
   simp only
   rw[hD]
   generalize r / b=z at h3 ⊢
   omega
  ·have v5:IntKind.i64.wrap ((q:Int) - 1)=(q:Int) - 1:=i64_in (by omega) (by omega)
   simp[v5]
   rw[aB]
   have h3: ¬ q≤r / b:=fun hh=>by have:=hdh.2 hh;omega
   refine⟨⟨lo,(q:Int) - 1⟩,⟨a1,a2,?_,by simp only;omega⟩,by simp only;omega,rfl,by simp,Sub.refl _⟩
   simp only
   rw[hD]
   generalize r / b=z at h3 ⊢
   omega
 ·have:lo=D:=by omega
  rw[this]
  exact aP (by simp) rfl rfl
theorem Jh {r d k:Nat} (hr:(lim r).length≤k) (hd:d<1000000000):(lim (r*1000000000+d)).length≤k+1:=by
 refine aL.2 ?_
 have h5:=aL.1 hr
 have e:LB^(k+1)=LB^k*1000000000:=Nat.pow_succ ..
 rw[e]
 generalize LB^k=P at h5 ⊢
 omega
structure SD where
 g:Int
 i:Nat
 Q:List Int
 r:Nat
theorem wM (a b:Nat) (hb0:0<b) (ha:(lim a).length≤200000) (hbl:(lim b).length≤200000):RO Tryz.prog 286 [.sl (iv (lim a)),.sl (iv (lim b))] (.tup [.sl (iv (lim (a / b))),.sl (iv (lim (a % b)))]):=by
 refine aI Tryz.func286 rfl rfl (by rw[Tryz.ntmps286];simp) fun bl=> ?_
 rw[Tryz.ntmps286,Tryz.results286]
 refine aE ?_
 simp
 refine aE ?_
 simp
 refine⟨fun h1=> ?_,fun h1=> ?_⟩
 ·have h1':(lim b).length=1:=by omega
  obtain⟨b1,b2,b3⟩:=Uv h1'
  simp[bA b 0 (by omega),b1]
  refine aD (At a b (by omega) b3 b2) ?_
  have hr:a % b<b:=Nat.mod_lt _ b3
  obtain⟨r,hr2⟩: ∃r,r=a % b:=⟨_,rfl⟩
  rw[←hr2] at hr ⊢
  simp
  refine aD (gE r (by omega)) ?_
  simp
  exact aK [.sl (iv (lim (a / b))),.sl (iv (lim r))] 1 (by simp) rfl (Sub.refl _)
 have hbz:(lim b).length≠0:=fun h0=>by have:=eN.1 (List.length_eq_zero_iff.1 h0);omega
 obtain⟨n,hn⟩: ∃n,(lim b).length=n+1:=⟨(lim b).length - 1,by omega⟩
 have w0:IntKind.i64.wrap (((lim a).length:Int) - 1)=((lim a).length:Int) - 1:=i64_in (by omega) (by omega)
 refine aC ?_
 simp
 refine⟨by omega,by unfold maxLen;omega,fun g8 hg8 hb8 g9 hg9 h98 hb9=> ?_⟩
 have er:List.replicate ((lim a).length) [V.int IntKind.i64 0]=iv (List.replicate ((lim a).length) 0):=by simp[iv]
 simp[er,w0]
 have aPG:bl g8=none:=by simpa using hb8
 refine cW 1 9 (.sl (iv (lim 0))) (upd bl g8 (some ⟨1,iv (List.replicate (lim a).length 0)⟩)) (by simp[h98,hb9]) ?_ ?_
 ·rw[aW]
  exact dD hg9 (by simp[h98,hb9]) (by simp;rfl) rfl rfl
 refine aJ (fun p:SL=> [(0,.sl (iv (lim a))),(1,.sl (iv (lim b))),(8,.lsl g8 1 0 (lim a).length),(9,.sl (iv (lim p.r.toNat))),(10,.int .i64 ((p.i:Int) - 1))]) (fun p=>upd bl g8 (some ⟨1,iv (List.replicate p.i 0++p.Q)⟩))
  (fun p=>qF a b p.i p.Q p.r.toNat) (fun p=>p.i) _ ⟨(lim a).length,[],0⟩ (qF.start a b hb0) ⟨rfl,by simp,sub_eq (by simp)⟩ ?_
 rintro⟨i,Q,r⟩ hI
 simp only at hI
 have hr:=hI.rlt
 have hle:=hI.le
 have hql:=hI.len
 generalize r.toNat=r at *
 refine aC ?_
 simp
 refine⟨fun h1=> ?_,fun h1=> ?_⟩
 ·obtain⟨m,rfl⟩: ∃m,i=m+1:=⟨i - 1,by omega⟩
  have hm:m<(lim a).length:=by omega
  have hd:=eP a m
  obtain⟨z,hz⟩: ∃z,z=r*1000000000+dg a m:=⟨_,rfl⟩
  have hN:=hI.next (q:=z / b) (r':=z % b) (by rw[hz]) (by rw[hz])
  have e1:((m+1:Nat):Int) - 1=m:=by omega
  have er1:List.range 1= [0]:=rfl
  have hrl:(lim r).length≤200000:=kO (Nat.le_of_lt hr) hbl
  simp[e1,bA _ _ hm]
  refine⟨by omega,?_⟩
  intro g2 hg2 h28 hb2
  have bI:((iv (lim r)).all fun c=>c.length==1 && c.all V.one)=true:=by simp[iv]
  simp[h28,Ne.symm h28,appV,elsV,Int.not_lt.2 hg2,bI,er1]
  refine⟨by omega,fun g3 hg3 hb3=> ?_⟩
  have fZ:g3≠g8∧bl g3=none:=by grind
  have hv:val ((dg a m:Int)::lim r)=z:=by
   have hLB:LB=1000000000:=rfl
   rw[val,eY,hLB,hz];simp;omega
  have hD:Dig ((dg a m:Int)::lim r):=fun d hd2=>by
   rcases List.mem_cons.1 hd2 with rfl | hd2
   ·omega
   ·exact gK r d hd2
  refine gD 1 (upd bl g8 (some ⟨1,iv (List.replicate (m+1) 0++Q)⟩)) _ ?_ (mO (ns:=(dg a m:Int)::lim r) hg3 (by simp[fZ.1,fZ.2]) (by simp[iv]) (by simp)) (gV _ hD (by simp;omega)) ?_
  ·intro u y hu
   simp only[aA,aF] at hu ⊢
   grind
  rw[hv]
  have hzr:(lim z).length≤200001:=by rw[hz];exact Jh hrl hd
  simp
  refine aD (lO z b (by omega) (by omega)) ?_
  have w3:IntKind.i64.wrap ((m:Int) - 1)=(m:Int) - 1:=i64_in (by omega) (by omega)
  simp[Gq]
  refine⟨fun h5=> ?_,fun h5=> ?_⟩
  ·rw[Nat.div_eq_of_lt h5,Nat.mod_eq_of_lt h5] at hN
   simp[w3]
   rw[aB]
   refine⟨⟨m,0::Q,z⟩,by simpa using hN,by simp only;omega,rfl,by simp,sub_eq ?_⟩
   rw[←Jr]
  ·have hzb:z<LB*b:=by
    have hLB:LB=1000000000:=rfl
    rw[hLB,hz];omega
   refine aD (Ay z b n hn h5 hzb (by omega)) ?_
   have q5:(iv (List.replicate (m+1) 0++Q))[m]? =some [.int .i64 0]:=by rw[eK _ _ (by simp;omega)];simp
   have hqq:z / b≤999999999:=by
    have:z / b<LB:=by rw[Nat.div_lt_iff_lt_mul hb0];exact hzb
    have hLB:LB=1000000000:=rfl
    omega
   obtain⟨q,hq⟩: ∃q,q=z / b:=⟨_,rfl⟩
   have aVS:z - b*q=z % b:=by rw[hq];have:=Nat.div_add_mod z b;omega
   have aEC:b*q≤z:=by rw[hq];exact Nat.mul_div_le z b
   rw[←hq] at hqq hN ⊢
   simp[q5,hm]
   refine aD (gE q (by omega)) ?_
   simp
   have lq:(lim q).length≤3:=uW (by omega)
   refine aD (fP b q (by omega) (by omega)) ?_
   simp
   refine aD (wP z (b*q) aEC (by omega)) ?_
   rw[aVS]
   simp[w3]
   rw[aB]
   refine⟨⟨m,(q:Int)::Q,(z % b:Nat)⟩,by simp only[Int.toNat_natCast];exact hN,by simp only;omega,rfl,by simp only[Int.toNat_natCast];simp,sub_eq ?_⟩
   rw[←qS m _ 0 Q,←fG]
 ·have e:i=0:=by omega
  subst e
  obtain⟨h2,h3⟩:=hI.done
  refine gD 1 bl _ (by simp[aPG]) (mO (ns:=Q) hg8 aPG (by simp) (by simp[hql])) (gV _ hI.dig (by omega)) ?_
  rw[h2,h3]
  simp
  exact aK [.sl (iv (lim (a / b))),.sl (iv (lim (a % b)))] 1 (by simp) rfl (by simp)
theorem rL {bl bl0:Int→Option Blk} {g:Int} {ns:List Int} (h0:0≤g∨ns= []) (hg:bl0 g=none) (hb:bl g=some ⟨1,iv ns⟩):frz (dropB bl bl0) 1 (.lsl g 1 0 ns.length)=some (.sl (iv ns)):=by
 rcases Int.lt_or_le g 0 with h | h
 ·have:ns= []:=by rcases h0 with h0 | h0;omega;exact h0
  subst this
  unfold frz
  rw[if_pos h];rfl
 ·exact dD h hg hb (by simp) (nZ ns)
theorem O5 (a b:Nat) (ha:(lim a).length≤200000) (hb:(lim b).length≤200000):RO Tryz.prog 263 [.sl (iv (lim a)),.sl (iv (lim b))] (.sl (iv (lim (Nat.gcd a b)))):=by
 have bI: ∀n:Nat,((iv (lim n)).all fun c=>c.length==1 && c.all V.one)=true:=fun n=>by simp[iv]
 have aOR: ∀n:Nat,iv (lim n)= []→lim n= []:=fun n h=>by simpa [iv] using h
 refine aI Tryz.func263 rfl rfl (by rw[Tryz.ntmps263];simp) fun bl=> ?_
 rw[Tryz.ntmps263,Tryz.results263]
 refine aC ?_
 simp
 intro g0 hg0 hb0
 simp[appV,elsV,bI,Int.not_lt.2 hg0]
 refine⟨by omega,fun g1 hg1 hb1 g2 hg2 n21 hb2=> ?_⟩
 have Az:bl g2=none:=by grind
 have aUU:bl g1=none:=by grind
 try simp[appV,elsV,bI,Int.not_lt.2 hg2]
 refine⟨by omega,fun g3 hg3 hb3=> ?_⟩
 have n31:g3≠g1:=by grind
 have fZ:bl g3=none:=by grind
 refine cW 1 5 (.sl (iv (lim a))) (upd bl g3 (some ⟨1,iv (lim b)⟩)) ?_ ?_ ?_
 ·intro u y hu
  simp only[aA,aF] at hu ⊢
  grind
 ·exact rL (hg1.imp id (aOR a)) (by simp[Ne.symm n31,aUU]) (by simp[n21,Ne.symm n21,n31,Ne.symm n31])
 refine cW 1 6 (.sl (iv (lim b))) bl (by simp[fZ]) ?_ ?_
 ·exact rL (hg3.imp id (aOR b)) fZ (by simp)
 refine aJ (fun p:Nat×Nat=> [(5,.sl (iv (lim p.1))),(6,.sl (iv (lim p.2)))]) (fun _=>bl) (fun p=>Nat.gcd p.1 p.2=Nat.gcd a b∧(lim p.1).length≤200000∧(lim p.2).length≤200000) (fun p=>p.2) _ (a,b) ⟨rfl,ha,hb⟩ ⟨rfl,by simp,Sub.refl _⟩ ?_
 rintro⟨x,y⟩ ⟨hg,hx,hy⟩
 simp only at hg hx hy
 refine aC ?_
 simp
 refine⟨fun h=> ?_,fun h=> ?_⟩
 ·have hy0:0<y:=(qG y).1 (by simpa using h)
  refine bD [(5,.sl (iv (lim x))),(6,.sl (iv (lim y)))] _ bl 29 (.bool (decide ((lim x).length<3)&& decide ((lim y).length<3))) ⟨rfl,by simp,Sub.refl _⟩ rfl ?_ ?_
  ·simp
   refine⟨fun h3=> ?_,fun h3 h4=>by omega⟩
   rw[Bool.eq_iff_iff];simp;omega
  simp
  refine⟨fun h1 h2=> ?_,fun h1=> ?_⟩
  ·have bx:x≤9223372036854775807:=by
    have:=aL.1 (show(lim x).length≤2 by omega)
    have e:LB^2=1000000000000000000:=by decide+kernel
    omega
   have by':y≤9223372036854775807:=by
    have:=aL.1 (show(lim y).length≤2 by omega)
    have e:LB^2=1000000000000000000:=by decide+kernel
    omega
   refine aD (xG x bx) ?_
   simp
   refine aD (xG y by') ?_
   simp
   refine aD (Bm x y bx by') ?_
   rw[hg]
   simp
   exact aP (by simp) rfl rfl
  ·refine aD (wM x y hy0 hx hy) ?_
   simp
   rw[aB]
   have hlt:=Nat.mod_lt x hy0
   refine⟨(y,x % y),⟨?_,hy,?_⟩,hlt,rfl,by simp,Sub.refl _⟩
   ·rw[←hg,Nat.gcd_comm x y,Nat.gcd_rec y x,Nat.gcd_comm]
   ·exact Nat.le_trans (cD (Nat.le_of_lt hlt)) hy
 ·have h0:y=0:=eN.1 (by simpa using h)
  subst h0
  rw[Nat.gcd_zero_right] at hg
  rw[←hg]
  exact aP (by simp) rfl rfl

theorem Y2 {bl bl0:Int→Option Blk} {g:Int} {ns:List Int} {b:Bool} (h0:0≤g∨ns= []) (hg:bl0 g=none) (hb:bl g=some ⟨1,iv ns⟩):frz (dropB bl bl0) 2 (.agg [.bool b,.lsl g 1 0 ns.length])=some (.agg [.bool b,.sl (iv ns)]):=by
 have h1:=rL h0 hg hb
 have h2:frz (dropB bl bl0) 1 (.bool b)=some (.bool b):=by simp[frz]
 rw[oM]
 simp only[List.mapM_cons,List.mapM_nil,h1,h2]
 rfl
theorem eJ (neg:Bool) (m:Nat) (hm:(lim m).length≤60):RO Tryz.prog 254 [.bool neg,.sl (iv (lim m))] (.agg (biC (sg neg m))):=by
 have bI:((iv (lim m)).all fun c=>c.length==1 && c.all V.one)=true:=by simp[iv]
 refine aI Tryz.func254 rfl rfl (by rw[Tryz.ntmps254];simp) fun bl=> ?_
 rw[Tryz.ntmps254,Tryz.results254]
 refine aC ?_
 simp
 intro g hg0 hg
 refine aD (Kn (lim m) (gK m) (by omega)) ?_
 rw[eY,if_pos hm]
 simp
 cases neg
 all_goals
  refine wH (vV ?_)
  simp
  intro g1 hg1 h1g hb1
  simp[h1g,Ne.symm h1g,appV,elsV,Int.not_lt.2 hg1,bI]
  refine⟨by omega,fun g2 hg2 hb2=> ?_⟩
  have h2g:g2≠g:=by grind
  have Az:bl g2=none:=by grind
  have hnn:0≤g2∨lim m= []:=hg2.imp id (fun h=>by simpa [iv] using h)
  simp[h1g,Ne.symm h1g,h2g,Ne.symm h2g]
 ·refine aK [.agg [.bool false,.lsl g2 1 0 (lim m).length]] 2 (by simp[h1g,Ne.symm h1g,h2g,Ne.symm h2g]) ?_ (by simp[hg,hb1,Az,h1g,h2g])
  rw[T0]
  exact Y2 hnn Az (by simp[h2g])
 ·refine aK [.agg [.bool (decide (0<(lim m).length)),.lsl g2 1 0 (lim m).length]] 2 (by simp[h1g,Ne.symm h1g,h2g,Ne.symm h2g]) ?_ (by simp[hg,hb1,Az,h1g,h2g])
  rw[T0]
  exact Y2 hnn Az (by simp[h2g])
theorem Jw (x y:Int) (hx:(lim x.natAbs).length≤1048576) (hy:(lim y.natAbs).length≤1048576):RO Tryz.prog 294 [.agg (biC x),.agg (biC y)] (.int .i64 (iM x y)):=by
 refine aI Tryz.func294 rfl rfl (by rw[Tryz.ntmps294];simp) fun bl=> ?_
 rw[Tryz.ntmps294,Tryz.results294]
 refine aE ?_
 rw[show biC x= [.bool (decide (x<0)),.sl (iv (lim x.natAbs))] from rfl,show biC y= [.bool (decide (y<0)),.sl (iv (lim y.natAbs))] from rfl]
 simp
 intro g hg0 hg g2 hg2 h2g hb2
 refine aC ?_
 simp[h2g,Ne.symm h2g]
 by_cases h1:x<0<;>by_cases h2:y<0
 ·refine bS [(2,.loc g 2 0 0),(3,.loc g2 2 0 0)] _ (upd (upd bl g (some ⟨2,[[.bool (decide (x<0)),.sl (iv (lim x.natAbs))]]⟩)) g2 (some ⟨2,[[.bool (decide (y<0)),.sl (iv (lim y.natAbs))]]⟩)) 5 (.bool false) (upd (upd bl g (some ⟨2,[[.bool (decide (x<0)),.sl (iv (lim x.natAbs))]]⟩)) g2 (some ⟨2,[[.bool (decide (y<0)),.sl (iv (lim y.natAbs))]]⟩)) ⟨rfl,by simp,Sub.refl _⟩ rfl (by simp[h1,h2,h2g,Ne.symm h2g]) ?_
  simp[h1,h2,h2g,Ne.symm h2g]
  refine bS [(2,.loc g 2 0 0),(3,.loc g2 2 0 0)] _ (upd (upd bl g (some ⟨2,[[.bool (decide (x<0)),.sl (iv (lim x.natAbs))]]⟩)) g2 (some ⟨2,[[.bool (decide (y<0)),.sl (iv (lim y.natAbs))]]⟩)) 13 (.bool false) (upd (upd bl g (some ⟨2,[[.bool (decide (x<0)),.sl (iv (lim x.natAbs))]]⟩)) g2 (some ⟨2,[[.bool (decide (y<0)),.sl (iv (lim y.natAbs))]]⟩)) ⟨rfl,by simp,sub_eq (by simp[h1,h2])⟩ rfl (by simp[h1,h2,h2g,Ne.symm h2g]) ?_
  simp[h1,h2,h2g,Ne.symm h2g]
  refine aD (lO _ _ hy hx) ?_
  simp
  refine aK [.int .i64 (iM x y)] 0 ?_ (by simp[frz]) (by simp[hg,hb2])
  have:jD y.natAbs x.natAbs=iM x y:=by unfold jD iM;split<;>split<;>(try split)<;>(try split)<;>omega
  simp[this]
 ·refine bS [(2,.loc g 2 0 0),(3,.loc g2 2 0 0)] _ (upd (upd bl g (some ⟨2,[[.bool (decide (x<0)),.sl (iv (lim x.natAbs))]]⟩)) g2 (some ⟨2,[[.bool (decide (y<0)),.sl (iv (lim y.natAbs))]]⟩)) 5 (.bool true) (upd (upd bl g (some ⟨2,[[.bool (decide (x<0)),.sl (iv (lim x.natAbs))]]⟩)) g2 (some ⟨2,[[.bool (decide (y<0)),.sl (iv (lim y.natAbs))]]⟩)) ⟨rfl,by simp,Sub.refl _⟩ rfl (by simp[h1,h2,h2g,Ne.symm h2g]) ?_
  simp[h1,h2,h2g,Ne.symm h2g]
  have:iM x y= -1:=by unfold iM;rw[if_pos (by omega)]
  exact aK [.int .i64 (-1)] 0 (by simp) (by simp[frz,this]) (by simp[hg,hb2])
 ·refine bS [(2,.loc g 2 0 0),(3,.loc g2 2 0 0)] _ (upd (upd bl g (some ⟨2,[[.bool (decide (x<0)),.sl (iv (lim x.natAbs))]]⟩)) g2 (some ⟨2,[[.bool (decide (y<0)),.sl (iv (lim y.natAbs))]]⟩)) 5 (.bool false) (upd (upd bl g (some ⟨2,[[.bool (decide (x<0)),.sl (iv (lim x.natAbs))]]⟩)) g2 (some ⟨2,[[.bool (decide (y<0)),.sl (iv (lim y.natAbs))]]⟩)) ⟨rfl,by simp,Sub.refl _⟩ rfl (by simp[h1,h2,h2g,Ne.symm h2g]) ?_
  simp[h1,h2,h2g,Ne.symm h2g]
  refine bS [(2,.loc g 2 0 0),(3,.loc g2 2 0 0)] _ (upd (upd bl g (some ⟨2,[[.bool (decide (x<0)),.sl (iv (lim x.natAbs))]]⟩)) g2 (some ⟨2,[[.bool (decide (y<0)),.sl (iv (lim y.natAbs))]]⟩)) 13 (.bool true) (upd (upd bl g (some ⟨2,[[.bool (decide (x<0)),.sl (iv (lim x.natAbs))]]⟩)) g2 (some ⟨2,[[.bool (decide (y<0)),.sl (iv (lim y.natAbs))]]⟩)) ⟨rfl,by simp,sub_eq (by simp[h1,h2])⟩ rfl (by simp[h1,h2,h2g,Ne.symm h2g]) ?_
  simp[h1,h2,h2g,Ne.symm h2g]
  have:iM x y=1:=by unfold iM;rw[if_neg (by omega),if_neg (by omega)]
  exact aK [.int .i64 1] 0 (by simp) (by simp[frz,this]) (by simp[hg,hb2])
 ·refine bS [(2,.loc g 2 0 0),(3,.loc g2 2 0 0)] _ (upd (upd bl g (some ⟨2,[[.bool (decide (x<0)),.sl (iv (lim x.natAbs))]]⟩)) g2 (some ⟨2,[[.bool (decide (y<0)),.sl (iv (lim y.natAbs))]]⟩)) 5 (.bool false) (upd (upd bl g (some ⟨2,[[.bool (decide (x<0)),.sl (iv (lim x.natAbs))]]⟩)) g2 (some ⟨2,[[.bool (decide (y<0)),.sl (iv (lim y.natAbs))]]⟩)) ⟨rfl,by simp,Sub.refl _⟩ rfl (by simp[h1,h2,h2g,Ne.symm h2g]) ?_
  simp[h1,h2,h2g,Ne.symm h2g]
  refine bS [(2,.loc g 2 0 0),(3,.loc g2 2 0 0)] _ (upd (upd bl g (some ⟨2,[[.bool (decide (x<0)),.sl (iv (lim x.natAbs))]]⟩)) g2 (some ⟨2,[[.bool (decide (y<0)),.sl (iv (lim y.natAbs))]]⟩)) 13 (.bool false) (upd (upd bl g (some ⟨2,[[.bool (decide (x<0)),.sl (iv (lim x.natAbs))]]⟩)) g2 (some ⟨2,[[.bool (decide (y<0)),.sl (iv (lim y.natAbs))]]⟩)) ⟨rfl,by simp,sub_eq (by simp[h1,h2])⟩ rfl (by simp[h1,h2,h2g,Ne.symm h2g]) ?_
  simp[h1,h2,h2g,Ne.symm h2g]
  refine aD (lO _ _ hx hy) ?_
  simp
  refine aK [.int .i64 (iM x y)] 0 ?_ (by simp[frz]) (by simp[hg,hb2])
  have:jD x.natAbs y.natAbs=iM x y:=by unfold jD iM;split<;>split<;>(try split)<;>(try split)<;>omega
  simp[this]
theorem nO (n:Nat):RO Tryz.prog 262 [.sl (iv (lim n))] (.bool (decide (n=1))):=by
 refine aI Tryz.func262 rfl rfl (by rw[Tryz.ntmps262];simp) fun bl=> ?_
 rw[Tryz.ntmps262,Tryz.results262]
 refine aC ?_
 simp
 refine bD [(0,.sl (iv (lim n)))] _ bl 2 (.bool (decide (n=1))) ⟨rfl,by simp,Sub.refl _⟩ rfl ?_ ?_
 ·simp
  by_cases h:(lim n).length=1
  ·obtain⟨k1,k2,k3⟩:=Uv h
   simp[h,bA n 0 (by omega),k1,vU]
   rw[gP (by omega),k1]
   omega
  ·have hn:n≠1:=fun e=>h (by rw[e,Ek];rfl)
   have h2: ¬ ((lim n).length:Int)=1:=by omega
   simp[h,h2,hn]
 simp
 exact aP (by simp) rfl rfl
theorem Jq (a b:Rat) (ha:fits a) (hb:fits b):RO Tryz.prog 278 [.agg (rq a).c,.agg (rq b).c] (.int .i64 (J5 a b)):=by
 obtain⟨a1,a2⟩:=ha
 obtain⟨b1,b2⟩:=hb
 have n1:=fU a1 b2
 have n2:=fU b1 a2
 have e1:sg (decide (a.num<0)) (a.num.natAbs*b.den)=a.num*b.den:=by
  have:=sU a.num b.den
  have h0:decide (((b.den:Nat):Int)<0)=false:=decide_eq_false (by omega)
  rw[h0,Bool.bne_false,Int.natAbs_natCast] at this
  exact this
 have e2:sg (decide (b.num<0)) (b.num.natAbs*a.den)=b.num*a.den:=by
  have:=sU b.num a.den
  have h0:decide (((a.den:Nat):Int)<0)=false:=decide_eq_false (by omega)
  rw[h0,Bool.bne_false,Int.natAbs_natCast] at this
  exact this
 refine aI Tryz.func278 rfl rfl (by rw[Tryz.ntmps278];simp) fun bl=> ?_
 rw[Tryz.ntmps278,Tryz.results278]
 refine aE ?_
 rw[gW,gW]
 simp
 intro g hg0 hg g2 hg2 h2g hb2
 refine aC ?_
 simp
 refine bW aM (by kernel_rfl) ?_
 simp[h2g,Ne.symm h2g]
 refine aO (fP _ _ (by omega) (by omega)) ?_
 simp
 refine aO (eJ _ _ (by omega)) ?_
 rw[e1]
 simp[h2g,Ne.symm h2g]
 refine aO (fP _ _ (by omega) (by omega)) ?_
 simp
 refine aO (eJ _ _ (by omega)) ?_
 rw[e2]
 simp
 refine aO (Jw _ _ (by rw[←e1,qU];omega) (by rw[←e2,qU];omega)) ?_
 simp
 exact aK [.int .i64 (J5 a b)] 0 (by simp[J5]) (by simp[frz]) (by simp[hg,hb2])
theorem eC (r:RT) (hm:r.m.length≤140737488351232) (hd:r.d.length≤140737488351232):RO Tryz.prog 213 [.agg r.c] (.bool (decide r.ok)):=by
 refine aI Tryz.func213 rfl rfl (by rw[Tryz.ntmps213];simp) fun bl=> ?_
 rw[Tryz.ntmps213,Tryz.results213]
 refine aC ?_
 simp[RT.c]
 intro g hg0 hg
 refine bS [(1,.loc g 3 0 0)] _ (upd bl g (some ⟨3,[[.bool r.neg,.sl (iv r.m),.sl (iv r.d)]]⟩)) 31 (.bool r.bad) (upd bl g (some ⟨3,[[.bool r.neg,.sl (iv r.m),.sl (iv r.d)]]⟩)) ⟨rfl,by simp,Sub.refl _⟩ rfl ?_ ?_
 ·simp
  refine aD (wJ r.neg r.m hm) ?_
  simp[RT.bad]
  refine⟨fun h=>by simp[h],fun h=> ?_⟩
  refine aD (nF r.d hd) ?_
  simp[h]
  refine⟨fun a=>by simp[a],fun a=>⟨fun b=>by simp[b],fun b=>⟨fun c=> .inr (by omega),fun c=> ?_⟩⟩⟩
  have c2: ¬ 24<r.d.length:=by omega
  simp[a,b,c2]
  omega
 simp
 refine⟨fun h=> ?_,fun h=> ?_⟩
 ·refine aK [.bool false] 0 (by simp) ?_ (by simp[hg])
  have: ¬ r.ok:=fun hk=>by have:=(RT.Sp.1 hk).1;rw[h] at this;cases this
  simp[frz,this]
 ·obtain⟨l1,l2,l3,l4⟩:=RT.aTC h
  rw[l1,l2]
  refine aD (O5 (val r.m) (val r.d) (by rw[←l1];omega) (by rw[←l2];omega)) ?_
  simp
  refine aD (nO _) ?_
  simp
  refine aK [.bool (decide (Nat.gcd (val r.m) (val r.d)=1))] 0 (by simp) ?_ (by simp[hg])
  simp[frz,RT.Sp,h]
def sgq (x:Option Rat):Int:=match x with | some q=>q.num.sign | none=>0
theorem Fh (r:RT) (hm:r.m.length≤140737488351232) (hd:r.d.length≤140737488351232):RO Tryz.prog 191 [.agg r.c] (.int .i64 (sgq (rd r))):=by
 have key:(decide r.ok=false∨r.m= []→sgq (rd r)=0)∧(r.ok→r.m≠ []→sgq (rd r)=if r.neg then -1 else 1):=by
  have Up: ¬ r.ok→rd r=none:=fun h=>by unfold rd;rw[if_neg h]
  constructor
  ·rintro(h | h)
   ·rw[Up (by simpa using h)];rfl
   ·cases hq:rd r with
    | none => rfl
    | some q =>
      obtain⟨hr,_⟩:=rd_some hq
      have:q.num=0:=by
       have:lim q.num.natAbs= []:=by rw[←h,hr];rfl
       have:=eN.1 this;omega
      simp[sgq,this]
  ·intro h hm
   obtain⟨q,hq⟩: ∃q,rd r=some q:=⟨_,by unfold rd;rw[if_pos h]⟩
   obtain⟨hr,_⟩:=rd_some hq
   rw[hq]
   have h1:q.num≠0:=fun h0=>hm (by rw[hr];show lim q.num.natAbs= [];rw[h0];exact aW)
   have h2:r.neg=decide (q.num<0):=by rw[hr];rfl
   rw[h2]
   by_cases h3:q.num<0
   ·simp[sgq,h3,Int.sign_eq_neg_one_of_neg h3]
   ·simp[sgq,h3,Int.sign_eq_one_of_pos (show 0<q.num by omega)]
 refine aI Tryz.func191 rfl rfl (by rw[Tryz.ntmps191];simp) fun bl=> ?_
 rw[Tryz.ntmps191,Tryz.results191]
 refine aC ?_
 simp[RT.c]
 intro g hg0 hg
 refine bS [(1,.loc g 3 0 0)] _ (upd bl g (some ⟨3,[[.bool r.neg,.sl (iv r.m),.sl (iv r.d)]]⟩)) 3 (.bool (!decide r.ok || decide (r.m= []))) (upd bl g (some ⟨3,[[.bool r.neg,.sl (iv r.m),.sl (iv r.d)]]⟩)) ⟨rfl,by simp,Sub.refl _⟩ rfl ?_ ?_
 ·simp
  refine aD (eC r hm hd) ?_
  simp[Wp]
  by_cases h:r.ok<;>simp[h]
 simp
 refine⟨fun h=> ?_,fun h1 h2=>⟨fun h3=> ?_,fun h3=> ?_⟩⟩
 ·exact aK [.int .i64 0] 0 (by simp) (by rw[key.1 (by simpa using h)];simp[frz]) (by simp[hg])
 ·exact aK [.int .i64 (-1)] 0 (by simp) (by rw[key.2 h1 h2,h3];simp[frz]) (by simp[hg])
 ·exact aK [.int .i64 1] 0 (by simp) (by rw[key.2 h1 h2,h3];simp[frz]) (by simp[hg])

structure SP where
 lo:RT
 hi:RT
 nl:Bool
 nh:Bool
def SP.c (s:SP):List V:= [.bool s.lo.neg,.sl (iv s.lo.m),.sl (iv s.lo.d),.bool s.hi.neg,.sl (iv s.hi.m),.sl (iv s.hi.d),.bool s.nl,.bool s.nh]
def RT.le (r:RT) (k:Nat):Prop:=r.m.length≤k∧r.d.length≤k
def SP.le (s:SP) (k:Nat):Prop:=s.lo.le k∧s.hi.le k
def aNL (s:SP):Bool:=match rd s.lo,rd s.hi with
 | some a, some b => (s.nl && decide (a.num.sign ≠ 0)) || (s.nh && decide (b.num.sign ≠ 0))
 | _, _ => true
def aA3 (s:SP):Bool:=match rd s.lo,rd s.hi with
 | some a, some b => (s.nl || s.nh) || decide (J5 a b ≤ 0)
 | _, _ => false
def aVM (s:SP):Bool:= !aNL s && aA3 s

theorem L1 (x y:Int) (hx:(lim x.natAbs).length≤59) (hy:(lim y.natAbs).length≤59):RO Tryz.prog 264 [.agg (biC x),.agg (biC y)] (.agg (biC (x+y))):=by
 have hb:=uN hx hy
 refine aI Tryz.func264 rfl rfl (by rw[Tryz.ntmps264];simp) fun bl=> ?_
 rw[Tryz.ntmps264,Tryz.results264]
 refine aE ?_
 rw[bQ x,bQ y]
 simp
 intro g hg0 hg g2 hg2 h2g hb2 g3 hg3 h32 h3g hb3
 refine aC ?_
 simp[h2g,Ne.symm h2g,h32,Ne.symm h32,h3g,Ne.symm h3g]
 refine⟨fun hs=> ?_,fun hs=> ?_⟩
 ·refine aY aM (upd (upd bl g (some ⟨2,[[.bool (decide (x<0)),.sl (iv (lim x.natAbs))]]⟩)) g2 (some ⟨2,[[.bool (decide (y<0)),.sl (iv (lim y.natAbs))]]⟩)) (by simp[h32,h3g,hb3]) [0,1,2,3,4,5,6,7] 1 (by kernel_rfl) ?_
  simp[h2g,Ne.symm h2g,h32,Ne.symm h32,h3g,Ne.symm h3g]
  refine aO (Lk _ _ (by omega) (by omega)) ?_
  simp[h2g,Ne.symm h2g,h32,Ne.symm h32,h3g,Ne.symm h3g]
  refine aO (eJ _ _ (by omega)) ?_
  simp[h2g,Ne.symm h2g,h32,Ne.symm h32,h3g,Ne.symm h3g]
  refine Dz 8 ?_
  simp[h2g,Ne.symm h2g,h32,Ne.symm h32,h3g,Ne.symm h3g]
  refine⟨by simp[h32,h3g,hb3],Dy ?_⟩
  rw[xL hs]
  simp[h2g,Ne.symm h2g,h32,Ne.symm h32,h3g,Ne.symm h3g]
  exact aK [.agg (biC (x+y))] 1 (by simp[biC,h2g,Ne.symm h2g,h32,Ne.symm h32,h3g,Ne.symm h3g]) kU (by simp[hg,hb2,hb3])
 refine aD (lO _ _ (by omega) (by omega)) ?_
 simp[h2g,Ne.symm h2g,h32,Ne.symm h32,h3g,Ne.symm h3g,Gx]
 refine⟨fun hle=> ?_,fun hle=> ?_⟩
 ·refine aY aM (upd (upd bl g (some ⟨2,[[.bool (decide (x<0)),.sl (iv (lim x.natAbs))]]⟩)) g2 (some ⟨2,[[.bool (decide (y<0)),.sl (iv (lim y.natAbs))]]⟩)) (by simp[h32,h3g,hb3]) [0,1,2,3,4,5,6,7] 1 (by kernel_rfl) ?_
  simp[h2g,Ne.symm h2g,h32,Ne.symm h32,h3g,Ne.symm h3g]
  refine aO (wP _ _ hle (by omega)) ?_
  simp[h2g,Ne.symm h2g,h32,Ne.symm h32,h3g,Ne.symm h3g]
  refine aO (eJ _ _ (kO (Nat.sub_le _ _) (by omega))) ?_
  simp[h2g,Ne.symm h2g,h32,Ne.symm h32,h3g,Ne.symm h3g]
  refine Dz 8 ?_
  simp[h2g,Ne.symm h2g,h32,Ne.symm h32,h3g,Ne.symm h3g]
  refine⟨by simp[h32,h3g,hb3],Dy ?_⟩
  rw[mL hs hle]
  simp[h2g,Ne.symm h2g,h32,Ne.symm h32,h3g,Ne.symm h3g]
  exact aK [.agg (biC (x+y))] 1 (by simp[biC,h2g,Ne.symm h2g,h32,Ne.symm h32,h3g,Ne.symm h3g]) kU (by simp[hg,hb2,hb3])
 ·refine aY aM (upd (upd bl g (some ⟨2,[[.bool (decide (x<0)),.sl (iv (lim x.natAbs))]]⟩)) g2 (some ⟨2,[[.bool (decide (y<0)),.sl (iv (lim y.natAbs))]]⟩)) (by simp[h32,h3g,hb3]) [0,1,2,3,4,5,6,7] 1 (by kernel_rfl) ?_
  simp[h2g,Ne.symm h2g,h32,Ne.symm h32,h3g,Ne.symm h3g]
  refine aO (wP _ _ (by omega) (by omega)) ?_
  simp[h2g,Ne.symm h2g,h32,Ne.symm h32,h3g,Ne.symm h3g]
  refine aO (eJ _ _ (kO (Nat.sub_le _ _) (by omega))) ?_
  simp[h2g,Ne.symm h2g,h32,Ne.symm h32,h3g,Ne.symm h3g]
  refine Dz 8 ?_
  simp[h2g,Ne.symm h2g,h32,Ne.symm h32,h3g,Ne.symm h3g]
  refine⟨by simp[h32,h3g,hb3],Dy ?_⟩
  rw[mL (x:=y) (y:=x) (fun hh=>hs ⟨hh.2,hh.1⟩) (by omega),Int.add_comm y x]
  simp[h2g,Ne.symm h2g,h32,Ne.symm h32,h3g,Ne.symm h3g]
  exact aK [.agg (biC (x+y))] 1 (by simp[biC,h2g,Ne.symm h2g,h32,Ne.symm h32,h3g,Ne.symm h3g]) kU (by simp[hg,hb2,hb3])
def D5 (neg:Bool) (a b:Nat):Option Rat:=if b=0 then none else fit (mkRat (sg neg a) b)
theorem zG {bl bl0:Int→Option Blk} {g:Int} {ns ms:List Int} {b:Bool} (h0:0≤g∨ns= []) (hg:bl0 g=none) (hb:bl g=some ⟨1,iv ns⟩):frz (dropB bl bl0) 2 (.agg [.bool b,.sl (iv ms),.lsl g 1 0 ns.length])=some (.agg [.bool b,.sl (iv ms),.sl (iv ns)]):=by
 have h1:=rL h0 hg hb
 have h2:frz (dropB bl bl0) 1 (.bool b)=some (.bool b):=by simp[frz]
 have h3:frz (dropB bl bl0) 1 (.sl (iv ms))=some (.sl (iv ms)):=by simp[frz]
 rw[oM]
 simp only[List.mapM_cons,List.mapM_nil,h1,h2,h3]
 rfl
theorem aEA (neg:Bool) (a b:Nat) (hb:b≠0):(rq (mkRat (sg neg a) b)).c=biC (sg neg (a / Nat.gcd a b))++ [.sl (iv (lim (b / Nat.gcd a b)))]:=by
 have hg:0<Nat.gcd a b:=Nat.gcd_pos_of_pos_right _ (by omega)
 rw[Hp _ hb,RT.c,qU,bQ,qU]
 simp only[List.cons_append,List.nil_append]
 rw[Fx,Fx]
 have:(0<a / Nat.gcd a b) ↔ 0<a:=by
  constructor
  ·intro h;rcases Nat.eq_zero_or_pos a with h0 | h0
   ·rw[h0] at h;simp at h
   ·exact h0
  ·intro h;exact Nat.div_pos (Nat.gcd_le_left _ h) hg
 rw[decide_eq_decide.2 this]
theorem rS (neg:Bool) (a b:Nat) (ha:(lim a).length≤60) (hb:(lim b).length≤60):RO Tryz.prog 265 [.bool neg,.sl (iv (lim a)),.sl (iv (lim b))] (.agg (ro (D5 neg a b)).c):=by
 have bI: ∀m,((iv (lim m)).all fun c=>c.length==1 && c.all V.one)=true:=fun m=>by simp[iv]
 refine aI Tryz.func265 rfl rfl (by rw[Tryz.ntmps265];simp) fun bl=> ?_
 rw[Tryz.ntmps265,Tryz.results265]
 refine aE ?_
 simp
 intro g hg0 hg
 refine aE ?_
 simp
 refine aD (gV (lim a) (gK a) (by omega)) ?_
 rw[eY]
 simp
 refine aE ?_
 simp
 refine aD (gV (lim b) (gK b) (by omega)) ?_
 rw[eY]
 simp
 refine aE ?_
 simp
 refine⟨fun h=> ?_,fun h=> ?_⟩
 ·have hb0:b=0:=by simpa [eN] using h
  exact aK [.agg [.bool false,.nils,.nils]] 1 (by simp) (by simp[frz,D5,hb0,ro,rz,RT.c,V.cl,iv]) (by simp[hg])
 have hb0:b≠0:=fun e=>h (by rw[e,aW])
 have hg1:=Nat.gcd_pos_of_pos_right a (show 0<b by omega)
 refine gH (fun _:Unit=> [(0,.bool neg),(6,.loc g 3 0 0),(7,.sl (iv (lim (a / Nat.gcd a b)))),(8,.sl (iv (lim (b / Nat.gcd a b))))]) (fun _=>upd bl g (some ⟨3,[[.bool false,.nils,.nils]]⟩)) (fun _=>True) 55 ?_ ?_
 ·refine aC ?_
  simp
  refine aD (nO _) ?_
  simp
  refine⟨fun h1=> ?_,fun h1=> ?_⟩
  ·refine aD (O5 _ _ (by omega) (by omega)) ?_
   simp
   refine aD (nO _) ?_
   simp
   refine⟨fun h2=> ?_,fun h2=> ?_⟩
   ·have hgl:=Ik ha hb
    refine aD (wM a (Nat.gcd a b) hg1 (by omega) (by omega)) ?_
    simp
    refine aD (wM b (Nat.gcd a b) hg1 (by omega) (by omega)) ?_
    simp[aH]
    exact⟨rfl,by simp,Sub.refl _⟩
   ·simp[aH]
    exact⟨rfl,by simp[h2],Sub.refl _⟩
  ·have h2:Nat.gcd a b=1:=by rw[h1];exact Nat.gcd_one_right a
   simp[aH]
   exact⟨rfl,by simp[h2],Sub.refl _⟩
 intro _ _
 have e2:=aEA neg a b hb0
 have hx:(lim (a / Nat.gcd a b)).length≤60:=kO (Nat.div_le_self _ _) ha
 have hy:(lim (b / Nat.gcd a b)).length≤60:=kO (Nat.div_le_self _ _) hb
 have hr:ro (D5 neg a b)=if(lim (a / Nat.gcd a b)).length≤24∧(lim (b / Nat.gcd a b)).length≤24 then rq (mkRat (sg neg a) b) else rz:=by
  have e3:=Hp (sg neg a) hb0
  have e4:fits (mkRat (sg neg a) b) ↔ (lim (a / Nat.gcd a b)).length≤24∧(lim (b / Nat.gcd a b)).length≤24:=by
   have e5:=congrArg RT.m e3
   have e6:=congrArg RT.d e3
   simp only[rq,qU] at e5 e6
   unfold fits
   rw[e5,e6]
  unfold D5 fit
  rw[if_neg hb0]
  by_cases hf:fits (mkRat (sg neg a) b)
  ·rw[if_pos hf,if_pos (e4.1 hf)];rfl
  ·rw[if_neg hf,if_neg (fun h=>hf (e4.2 h))];rfl
 obtain⟨x,ex⟩: ∃x,a / Nat.gcd a b=x:=⟨_,rfl⟩
 obtain⟨y,ey⟩: ∃y,b / Nat.gcd a b=y:=⟨_,rfl⟩
 rw[ex,ey] at hr e2
 rw[ex] at hx
 rw[ey] at hy
 rw[ex,ey,hr]
 refine aC ?_
 simp
 refine bS [(0,.bool neg),(6,.loc g 3 0 0),(7,.sl (iv (lim x))),(8,.sl (iv (lim y)))] _ _ 46 (.bool (!decide ((lim x).length≤24∧(lim y).length≤24))) (upd bl g (some ⟨3,[[.bool false,.nils,.nils]]⟩)) ⟨rfl,by simp,Sub.refl _⟩ rfl ?_ ?_
 ·simp
  refine⟨fun h=> ?_,fun h=> ?_⟩
  ·omega
  ·rw[Bool.eq_iff_iff]
   simp
   omega
 by_cases hc:(lim x).length≤24∧(lim y).length≤24
 ·simp only[hc,and_self,decide_true,Bool.not_true,if_true]
  simp
  refine aD (eJ neg x (by omega)) ?_
  simp
  intro g1 hg1 h1g hb1
  simp[h1g,Ne.symm h1g,appV,elsV,Int.not_lt.2 hg1,bI]
  refine⟨by omega,fun g2 hg2 hb2=> ?_⟩
  have h2g:g2≠g:=by grind
  have Az:bl g2=none:=by grind
  have hnn:0≤g2∨lim y= []:=hg2.imp id (fun h=>by simpa [iv] using h)
  simp[h1g,Ne.symm h1g,h2g,Ne.symm h2g,bQ,qU]
  refine aK [.agg [.bool (decide (sg neg x<0)),.sl (iv (lim x)),.lsl g2 1 0 (lim y).length]] 2 (by simp[h1g,Ne.symm h1g,h2g,Ne.symm h2g]) ?_ (by simp[hg,hb1,Az,h1g,h2g])
  rw[e2,bQ,qU]
  exact zG hnn Az (by simp[h2g])
 ·simp only[hc,decide_false,Bool.not_false,if_false]
  simp
  exact aK [.agg [.bool false,.nils,.nils]] 1 (by simp) (by simp[frz,rz,RT.c,V.cl,iv]) (by simp[hg])
def nm (x:Option Rat):Int:=match x with | some q=>q.num | none=>0
def dn (x:Option Rat):Nat:=match x with | some q=>q.den | none=>0
theorem nE (x:Option Rat):(ro x).c= [.bool (decide (nm x<0)),.sl (iv (lim (nm x).natAbs)),.sl (iv (lim (dn x)))]:=by
 cases x
 ·show rz.c=_
  rw[show nm none=0 from rfl,show dn none=0 from rfl,Int.natAbs_zero,aW];rfl
 ·rfl
theorem uC {x:Option Rat} (h:okQ x):(lim (nm x).natAbs).length≤24∧(lim (dn x)).length≤24:=by
 cases x with
 | none => rw [show nm none = 0 from rfl, show dn none = 0 from rfl, Int.natAbs_zero, aW]; simp
 | some q => exact h q rfl
theorem pS {x:Option Rat} (h:okQ x):okQ (x.map (- ·)):=by
 intro q hq
 cases x with
 | none => cases hq
 | some a =>
   cases hq
   have:=h a rfl
   unfold fits at this ⊢
   rw[show(-a).num= -a.num from rfl,show(-a).den=a.den from rfl,Int.natAbs_neg];exact this
theorem aDA (x:Option Rat):nm (x.map (- ·))= - nm x:=by cases x with | none=>rfl | some q=>rfl
theorem aDG (x:Option Rat):dn (x.map (- ·))=dn x:=by cases x with | none=>rfl | some q=>rfl
theorem xA (x:Option Rat) (hx:okQ x):RO Tryz.prog 202 [.agg (ro x).c] (.agg (ro (x.map (- ·))).c):=by
 obtain⟨hm,hd⟩:=uC hx
 have bI: ∀m,((iv (lim m)).all fun c=>c.length==1 && c.all V.one)=true:=fun m=>by simp[iv]
 refine aI Tryz.func202 rfl rfl (by rw[Tryz.ntmps202];simp) fun bl=> ?_
 rw[Tryz.ntmps202,Tryz.results202]
 refine aE ?_
 rw[nE x]
 simp
 intro g hg0 hg g2 hg2 h2g hb2
 refine aC ?_
 simp
 refine aY aM (upd bl g (some ⟨3,[[.bool (decide (nm x<0)),.sl (iv (lim (nm x).natAbs)),.sl (iv (lim (dn x)))]]⟩)) (by simp[h2g,hb2]) [0,1,2,3,4,5,6,7,9,10] 4 (by kernel_rfl) ?_
 simp[h2g,Ne.symm h2g]
 refine aO (eJ _ _ (by omega)) ?_
 rw[Qp]
 simp[h2g,Ne.symm h2g]
 refine Dz 8 ?_
 simp[h2g,Ne.symm h2g]
 intro g3 hg3 h32 h3g hb3
 refine⟨by simp[h2g,Ne.symm h2g,hb2,h3g,h32,hb3],Dz 11 ?_⟩
 simp[h2g,Ne.symm h2g,h3g,Ne.symm h3g,h32,Ne.symm h32,appV,elsV,Int.not_lt.2 hg3,bI]
 refine⟨by omega,fun g4 hg4 hb4=> ?_⟩
 have h4g:g4≠g:=by grind
 have h42:g4≠g2:=by grind
 have iW:bl g4=none:=by grind
 have hnn:0≤g4∨lim (dn x)= []:=hg4.imp id (fun h=>by simpa [iv] using h)
 refine⟨by simp[h2g,Ne.symm h2g,hb2,h3g,h32,hb3,h4g,h42,iW],Dz 12 ?_⟩
 simp[h2g,Ne.symm h2g,h3g,Ne.symm h3g,h32,Ne.symm h32,h4g,Ne.symm h4g,h42,Ne.symm h42,bQ]
 refine⟨by simp[h2g,Ne.symm h2g,hb2,h3g,h32,hb3,h4g,h42,iW],Dz 13 ?_⟩
 simp[h2g,Ne.symm h2g,h3g,Ne.symm h3g,h32,Ne.symm h32,h4g,Ne.symm h4g,h42,Ne.symm h42]
 refine⟨by simp[h2g,Ne.symm h2g,hb2,h3g,h32,hb3,h4g,h42,iW],Dy ?_⟩
 simp
 refine aK [.agg [.bool (decide (-nm x<0)),.sl (iv (lim (nm x).natAbs)),.lsl g4 1 0 (lim (dn x)).length]] 2 (by simp[h2g,Ne.symm h2g,h4g,Ne.symm h4g,h42,Ne.symm h42]) ?_ (by simp[hg,hb2,hb3,iW,h2g,h4g,h42])
 rw[nE,aDA,aDG,Int.natAbs_neg]
 exact zG hnn iW (by simp[h4g,h42])
theorem Km (x y:Option Rat) (hx:okQ x) (hy:okQ y):RO Tryz.prog 279 [.agg (ro x).c,.agg (ro y).c] (.agg (ro (op2 (· * ·) x y)).c):=by
 obtain⟨hm,hd⟩:=uC hx
 obtain⟨hm2,hd2⟩:=uC hy
 have n1:=fU hm hm2
 have n2:=fU hd hd2
 have e:D5 (decide (nm x<0) !=decide (nm y<0)) ((nm x).natAbs*(nm y).natAbs) (dn x*dn y)=op2 (· * ·) x y:=by
  unfold D5 op2
  rw[sU]
  cases x with
  | none => simp [dn]
  | some a =>
    cases y with
    | none=>simp[dn]
    | some b=>
      rw[if_neg (show ¬ dn (some a)*dn (some b)=0 from Nat.mul_ne_zero a.den_nz b.den_nz)]
      simp only[nm,dn]
      rw[←Rat.mul_def']
 refine aI Tryz.func279 rfl rfl (by rw[Tryz.ntmps279];simp) fun bl=> ?_
 rw[Tryz.ntmps279,Tryz.results279]
 refine aE ?_
 rw[nE x,nE y]
 simp
 intro g hg0 hg g2 hg2 h2g hb2 g3 hg3 h32 h3g hb3
 refine aC ?_
 simp
 refine aY aM (upd (upd bl g (some ⟨3,[[.bool (decide (nm x<0)),.sl (iv (lim (nm x).natAbs)),.sl (iv (lim (dn x)))]]⟩)) g2 (some ⟨3,[[.bool (decide (nm y<0)),.sl (iv (lim (nm y).natAbs)),.sl (iv (lim (dn y)))]]⟩)) (by simp[h32,h3g,hb3]) [0,1,2,3,4,5,6,7,8,9,10,11,12,13,14,15,16,17,18,19] 1 (by kernel_rfl) ?_
 simp[h2g,Ne.symm h2g,h32,Ne.symm h32,h3g,Ne.symm h3g]
 refine aO (fP _ _ (by omega) (by omega)) ?_
 simp[h2g,Ne.symm h2g,h32,Ne.symm h32,h3g,Ne.symm h3g]
 refine aO (fP _ _ (by omega) (by omega)) ?_
 simp[h2g,Ne.symm h2g,h32,Ne.symm h32,h3g,Ne.symm h3g]
 refine aO (rS _ _ _ (by omega) (by omega)) ?_
 rw[e]
 simp[h2g,Ne.symm h2g,h32,Ne.symm h32,h3g,Ne.symm h3g]
 refine Dz 20 ?_
 rw[nE (op2 _ x y)]
 simp[h2g,Ne.symm h2g,h32,Ne.symm h32,h3g,Ne.symm h3g]
 refine⟨by simp[h32,h3g,hb3],Dy ?_⟩
 simp[h2g,Ne.symm h2g,h32,Ne.symm h32,h3g,Ne.symm h3g]
 exact aK [.agg (ro (op2 (· * ·) x y)).c] 1 (by rw[nE (op2 _ x y)];simp[h2g,Ne.symm h2g,h32,Ne.symm h32,h3g,Ne.symm h3g]) (by rw[nE (op2 _ x y)];simp[frz,V.cl]) (by simp[hg,hb2,hb3])
theorem rQ (x y:Option Rat) (hx:okQ x) (hy:okQ y):RO Tryz.prog 214 [.agg (ro x).c,.agg (ro y).c] (.agg (ro (op2 (· + ·) x y)).c):=by
 obtain⟨hm,hd⟩:=uC hx
 obtain⟨hm2,hd2⟩:=uC hy
 have n1:=fU hm hd2
 have n2:=fU hm2 hd
 have n3:=fU hd hd2
 have e0: ∀(a:Int) (b:Nat),sg (decide (a<0)) (a.natAbs*b)=a*b:=fun a b=>by
  have:=sU a b
  have h0:decide (((b:Nat):Int)<0)=false:=decide_eq_false (by omega)
  rw[h0,Bool.bne_false,Int.natAbs_natCast] at this
  exact this
 have e: ∀n:Int,n=nm x*dn y+nm y*dn x→D5 (decide (n<0)) n.natAbs (dn x*dn y)=op2 (· + ·) x y:=fun n hn=>by
  unfold D5 op2
  rw[Il,hn]
  cases x with
  | none => simp [dn]
  | some a =>
    cases y with
    | none=>simp[dn]
    | some b=>
      rw[if_neg (show ¬ dn (some a)*dn (some b)=0 from Nat.mul_ne_zero a.den_nz b.den_nz)]
      simp only[nm,dn]
      rw[←Rat.add_def']
 have o1:=nO (dn x)
 have o2:=nO (dn y)
 refine aI Tryz.func214 rfl rfl (by rw[Tryz.ntmps214];simp) fun bl=> ?_
 rw[Tryz.ntmps214,Tryz.results214]
 refine aE ?_
 rw[nE x,nE y]
 simp
 intro g hg0 hg g2 hg2 h2g hb2 g3 hg3 h32 h3g hb3
 refine aC ?_
 simp
 refine bS [(2,.loc g 3 0 0),(3,.loc g2 3 0 0),(4,.loc g3 3 0 0)] _ _ 16 (.bool (decide (dn x=1)&& decide (dn y=1))) (upd (upd (upd bl g (some ⟨3,[[.bool (decide (nm x<0)),.sl (iv (lim (nm x).natAbs)),.sl (iv (lim (dn x)))]]⟩)) g2 (some ⟨3,[[.bool (decide (nm y<0)),.sl (iv (lim (nm y).natAbs)),.sl (iv (lim (dn y)))]]⟩)) g3 (some ⟨3,[[.bool false,.nils,.nils]]⟩)) ⟨rfl,by simp,Sub.refl _⟩ rfl ?_ ?_
 ·simp[h2g,Ne.symm h2g,h32,Ne.symm h32,h3g,Ne.symm h3g]
  refine aD o1 ?_
  simp[h2g,Ne.symm h2g,h32,Ne.symm h32,h3g,Ne.symm h3g]
  refine⟨fun h=> ?_,fun h=> ?_⟩
  ·refine aD o2 ?_
   simp[h]
  ·simp[h]
 have w:ro (op2 (· + ·) x y)=ro (op2 (· + ·) x y):=rfl
 by_cases fV:dn x=1∧dn y=1
 ·have e1:=e (nm x+nm y) (by rw[fV.1,fV.2];simp)
  rw[fV.1,fV.2] at e1
  have l1:(lim (nm x+nm y).natAbs).length≤25:=kO (Int.natAbs_add_le _ _) (uN hm hm2)
  simp[fV.1,fV.2,h2g,Ne.symm h2g,h32,Ne.symm h32,h3g,Ne.symm h3g]
  refine aD (L1 (nm x) (nm y) (by omega) (by omega)) ?_
  simp[h2g,Ne.symm h2g,h32,Ne.symm h32,h3g,Ne.symm h3g]
  intro g4 hg4
  intros
  have h4g: ¬ g4=g:=by assumption
  have h42: ¬ g4=g2:=by assumption
  have h43: ¬ g4=g3:=by assumption
  have hb4:bl g4=none:=by assumption
  simp[h2g,Ne.symm h2g,h32,Ne.symm h32,h3g,Ne.symm h3g,h4g,Ne.symm h4g,h42,Ne.symm h42,h43,Ne.symm h43,bQ]
  intro g5 hg5
  intros
  have h5g: ¬ g5=g:=by assumption
  have h52: ¬ g5=g2:=by assumption
  have h53: ¬ g5=g3:=by assumption
  have h54: ¬ g5=g4:=by assumption
  have hb5:bl g5=none:=by assumption
  refine gD 1 (upd (upd (upd (upd bl g (some ⟨3,[[.bool (decide (nm x<0)),.sl (iv (lim (nm x).natAbs)),.sl (iv (lim 1))]]⟩)) g2 (some ⟨3,[[.bool (decide (nm y<0)),.sl (iv (lim (nm y).natAbs)),.sl (iv (lim 1))]]⟩)) g3 (some ⟨3,[[.bool false,.nils,.nils]]⟩)) g4 (some ⟨2,[[.bool (decide (nm x+nm y<0)),.sl (iv (lim (nm x+nm y).natAbs))]]⟩)) [.bool (decide (nm x+nm y<0)),.sl (iv (lim (nm x+nm y).natAbs)),.sl (iv (lim 1))] (by simp[h2g,Ne.symm h2g,h32,Ne.symm h32,h3g,Ne.symm h3g,h4g,Ne.symm h4g,h42,Ne.symm h42,h43,Ne.symm h43,h5g,Ne.symm h5g,h52,Ne.symm h52,h53,Ne.symm h53,h54,Ne.symm h54,hb5]) (by simp[frz,dropB,V.cl,Ek,iv,Int.not_lt.2 hg5,h2g,Ne.symm h2g,h32,Ne.symm h32,h3g,Ne.symm h3g,h4g,Ne.symm h4g,h42,Ne.symm h42,h43,Ne.symm h43,h5g,Ne.symm h5g,h52,Ne.symm h52,h53,Ne.symm h53,h54,Ne.symm h54,hb5]) (rS _ _ 1 (by omega) (by rw[Ek];simp)) ?_
  rw[show D5 (decide (nm x+nm y<0)) (nm x+nm y).natAbs 1=op2 (· + ·) x y from e1,nE (op2 _ x y)]
  simp[h2g,Ne.symm h2g,h32,Ne.symm h32,h3g,Ne.symm h3g,h4g,Ne.symm h4g,h42,Ne.symm h42,h43,Ne.symm h43,h5g,Ne.symm h5g,h52,Ne.symm h52,h53,Ne.symm h53,h54,Ne.symm h54]
  exact aK [.agg (ro (op2 (· + ·) x y)).c] 1 (by rw[nE (op2 _ x y)];simp[h2g,Ne.symm h2g,h32,Ne.symm h32,h3g,Ne.symm h3g,h4g,Ne.symm h4g,h42,Ne.symm h42,h43,Ne.symm h43,h5g,Ne.symm h5g,h52,Ne.symm h52,h53,Ne.symm h53,h54,Ne.symm h54]) (by rw[nE (op2 _ x y)];simp[frz,V.cl]) (by simp[hg,hb2,hb3,hb4,hb5])
 ·have aNH:(decide (dn x=1)&& decide (dn y=1))=false:=by
   rw[Bool.eq_false_iff];simpa using fV
  rw[aNH]
  simp
  refine aY aM (upd (upd (upd bl g (some ⟨3,[[.bool (decide (nm x<0)),.sl (iv (lim (nm x).natAbs)),.sl (iv (lim (dn x)))]]⟩)) g2 (some ⟨3,[[.bool (decide (nm y<0)),.sl (iv (lim (nm y).natAbs)),.sl (iv (lim (dn y)))]]⟩)) g3 (some ⟨3,[[.bool false,.nils,.nils]]⟩)) (Sub.refl _) [0,1,2,3,4,5,6,7,8,9] 2 (by kernel_rfl) ?_
  simp[h2g,Ne.symm h2g,h32,Ne.symm h32,h3g,Ne.symm h3g]
  refine aO (fP _ _ (by omega) (by omega)) ?_
  simp[h2g,Ne.symm h2g,h32,Ne.symm h32,h3g,Ne.symm h3g]
  refine aO (eJ _ _ (by omega)) ?_
  rw[e0]
  simp[h2g,Ne.symm h2g,h32,Ne.symm h32,h3g,Ne.symm h3g]
  refine Dz 10 ?_
  simp[h2g,Ne.symm h2g,h32,Ne.symm h32,h3g,Ne.symm h3g]
  intro g4 hg4
  intros
  have h4g: ¬ g4=g:=by assumption
  have h42: ¬ g4=g2:=by assumption
  have h43: ¬ g4=g3:=by assumption
  have hb4:bl g4=none:=by assumption
  refine⟨by simp[h2g,Ne.symm h2g,h32,Ne.symm h32,h3g,Ne.symm h3g,h4g,Ne.symm h4g,h42,Ne.symm h42,h43,Ne.symm h43,hb2,hb3,hb4],Dz 11 ?_⟩
  simp[h2g,Ne.symm h2g,h32,Ne.symm h32,h3g,Ne.symm h3g,h4g,Ne.symm h4g,h42,Ne.symm h42,h43,Ne.symm h43,bQ]
  refine⟨by simp[h2g,Ne.symm h2g,h32,Ne.symm h32,h3g,Ne.symm h3g,h4g,Ne.symm h4g,h42,Ne.symm h42,h43,Ne.symm h43,hb2,hb3,hb4],Dy ?_⟩
  simp[h2g,Ne.symm h2g,h32,Ne.symm h32,h3g,Ne.symm h3g,h4g,Ne.symm h4g,h42,Ne.symm h42,h43,Ne.symm h43]
  refine aC ?_
  refine aY aM (upd (upd (upd (upd bl g (some ⟨3,[[.bool (decide (nm x<0)),.sl (iv (lim (nm x).natAbs)),.sl (iv (lim (dn x)))]]⟩)) g2 (some ⟨3,[[.bool (decide (nm y<0)),.sl (iv (lim (nm y).natAbs)),.sl (iv (lim (dn y)))]]⟩)) g3 (some ⟨3,[[.bool false,.nils,.nils]]⟩)) g4 (some ⟨2,[[.bool (decide (nm x*dn y<0)),.sl (iv (lim (nm x*dn y).natAbs))]]⟩)) (Sub.refl _) [0,1,2,3,4,5,6,7,8,9] 2 (by kernel_rfl) ?_
  simp[h2g,Ne.symm h2g,h32,Ne.symm h32,h3g,Ne.symm h3g,h4g,Ne.symm h4g,h42,Ne.symm h42,h43,Ne.symm h43]
  refine aO (fP _ _ (by omega) (by omega)) ?_
  simp[h2g,Ne.symm h2g,h32,Ne.symm h32,h3g,Ne.symm h3g,h4g,Ne.symm h4g,h42,Ne.symm h42,h43,Ne.symm h43]
  refine aO (eJ _ _ (by omega)) ?_
  rw[e0]
  simp[h2g,Ne.symm h2g,h32,Ne.symm h32,h3g,Ne.symm h3g,h4g,Ne.symm h4g,h42,Ne.symm h42,h43,Ne.symm h43]
  refine Dz 10 ?_
  simp[h2g,Ne.symm h2g,h32,Ne.symm h32,h3g,Ne.symm h3g,h4g,Ne.symm h4g,h42,Ne.symm h42,h43,Ne.symm h43]
  intro g5 hg5
  intros
  have h5g: ¬ g5=g:=by assumption
  have h52: ¬ g5=g2:=by assumption
  have h53: ¬ g5=g3:=by assumption
  have h54: ¬ g5=g4:=by assumption
  have hb5:bl g5=none:=by assumption
  refine⟨by simp[h2g,Ne.symm h2g,h32,Ne.symm h32,h3g,Ne.symm h3g,h4g,Ne.symm h4g,h42,Ne.symm h42,h43,Ne.symm h43,h5g,Ne.symm h5g,h52,Ne.symm h52,h53,Ne.symm h53,h54,Ne.symm h54,hb2,hb3,hb4,hb5],Dz 11 ?_⟩
  simp[h2g,Ne.symm h2g,h32,Ne.symm h32,h3g,Ne.symm h3g,h4g,Ne.symm h4g,h42,Ne.symm h42,h43,Ne.symm h43,h5g,Ne.symm h5g,h52,Ne.symm h52,h53,Ne.symm h53,h54,Ne.symm h54,bQ]
  refine⟨by simp[h2g,Ne.symm h2g,h32,Ne.symm h32,h3g,Ne.symm h3g,h4g,Ne.symm h4g,h42,Ne.symm h42,h43,Ne.symm h43,h5g,Ne.symm h5g,h52,Ne.symm h52,h53,Ne.symm h53,h54,Ne.symm h54,hb2,hb3,hb4,hb5],Dy ?_⟩
  simp[h2g,Ne.symm h2g,h32,Ne.symm h32,h3g,Ne.symm h3g,h4g,Ne.symm h4g,h42,Ne.symm h42,h43,Ne.symm h43,h5g,Ne.symm h5g,h52,Ne.symm h52,h53,Ne.symm h53,h54,Ne.symm h54]
  refine aD (L1 (nm x*dn y) (nm y*dn x) (by rw[Int.natAbs_mul,Int.natAbs_natCast];omega) (by rw[Int.natAbs_mul,Int.natAbs_natCast];omega)) ?_
  simp[h2g,Ne.symm h2g,h32,Ne.symm h32,h3g,Ne.symm h3g,h4g,Ne.symm h4g,h42,Ne.symm h42,h43,Ne.symm h43,h5g,Ne.symm h5g,h52,Ne.symm h52,h53,Ne.symm h53,h54,Ne.symm h54,bQ]
  intro g6 hg6
  intros
  have h6g: ¬ g6=g:=by assumption
  have h62: ¬ g6=g2:=by assumption
  have h63: ¬ g6=g3:=by assumption
  have h64: ¬ g6=g4:=by assumption
  have h65: ¬ g6=g5:=by assumption
  have hb6:bl g6=none:=by assumption
  try simp[h2g,Ne.symm h2g,h32,Ne.symm h32,h3g,Ne.symm h3g,h4g,Ne.symm h4g,h42,Ne.symm h42,h43,Ne.symm h43,h5g,Ne.symm h5g,h52,Ne.symm h52,h53,Ne.symm h53,h54,Ne.symm h54,h6g,Ne.symm h6g,h62,Ne.symm h62,h63,Ne.symm h63,h64,Ne.symm h64,h65,Ne.symm h65]
  refine aC ?_
  refine aY aM (upd (upd (upd (upd (upd bl g (some ⟨3,[[.bool (decide (nm x<0)),.sl (iv (lim (nm x).natAbs)),.sl (iv (lim (dn x)))]]⟩)) g2 (some ⟨3,[[.bool (decide (nm y<0)),.sl (iv (lim (nm y).natAbs)),.sl (iv (lim (dn y)))]]⟩)) g4 (some ⟨2,[[.bool (decide (nm x*dn y<0)),.sl (iv (lim (nm x*dn y).natAbs))]]⟩)) g5 (some ⟨2,[[.bool (decide (nm y*dn x<0)),.sl (iv (lim (nm y*dn x).natAbs))]]⟩)) g6 (some ⟨2,[[.bool (decide (nm x*dn y+nm y*dn x<0)),.sl (iv (lim (nm x*dn y+nm y*dn x).natAbs))]]⟩)) (by intro z b hz;simp only[aA] at hz ⊢;grind) [0,1,2,3,4,5,6,7,8,9] 1 (by kernel_rfl) ?_
  simp[h2g,Ne.symm h2g,h32,Ne.symm h32,h3g,Ne.symm h3g,h4g,Ne.symm h4g,h42,Ne.symm h42,h43,Ne.symm h43,h5g,Ne.symm h5g,h52,Ne.symm h52,h53,Ne.symm h53,h54,Ne.symm h54,h6g,Ne.symm h6g,h62,Ne.symm h62,h63,Ne.symm h63,h64,Ne.symm h64,h65,Ne.symm h65]
  refine aO (fP _ _ (by omega) (by omega)) ?_
  simp[h2g,Ne.symm h2g,h32,Ne.symm h32,h3g,Ne.symm h3g,h4g,Ne.symm h4g,h42,Ne.symm h42,h43,Ne.symm h43,h5g,Ne.symm h5g,h52,Ne.symm h52,h53,Ne.symm h53,h54,Ne.symm h54,h6g,Ne.symm h6g,h62,Ne.symm h62,h63,Ne.symm h63,h64,Ne.symm h64,h65,Ne.symm h65]
  refine aO (rS _ _ _ ?_ (by omega)) ?_
  ·exact kO (Int.natAbs_add_le _ _) (by rw[Int.natAbs_mul,Int.natAbs_mul,Int.natAbs_natCast,Int.natAbs_natCast];have:=uN n1 n2;omega)
  rw[e _ rfl,nE (op2 _ x y)]
  simp[h2g,Ne.symm h2g,h32,Ne.symm h32,h3g,Ne.symm h3g,h4g,Ne.symm h4g,h42,Ne.symm h42,h43,Ne.symm h43,h5g,Ne.symm h5g,h52,Ne.symm h52,h53,Ne.symm h53,h54,Ne.symm h54,h6g,Ne.symm h6g,h62,Ne.symm h62,h63,Ne.symm h63,h64,Ne.symm h64,h65,Ne.symm h65]
  refine Dz 10 ?_
  simp[h2g,Ne.symm h2g,h32,Ne.symm h32,h3g,Ne.symm h3g,h4g,Ne.symm h4g,h42,Ne.symm h42,h43,Ne.symm h43,h5g,Ne.symm h5g,h52,Ne.symm h52,h53,Ne.symm h53,h54,Ne.symm h54,h6g,Ne.symm h6g,h62,Ne.symm h62,h63,Ne.symm h63,h64,Ne.symm h64,h65,Ne.symm h65]
  refine⟨by intro z b hz;simp only[aA] at hz ⊢;grind,Dy ?_⟩
  simp[h2g,Ne.symm h2g,h32,Ne.symm h32,h3g,Ne.symm h3g,h4g,Ne.symm h4g,h42,Ne.symm h42,h43,Ne.symm h43,h5g,Ne.symm h5g,h52,Ne.symm h52,h53,Ne.symm h53,h54,Ne.symm h54,h6g,Ne.symm h6g,h62,Ne.symm h62,h63,Ne.symm h63,h64,Ne.symm h64,h65,Ne.symm h65]
  exact aK [.agg (ro (op2 (· + ·) x y)).c] 1 (by rw[nE (op2 _ x y)];simp[h2g,Ne.symm h2g,h32,Ne.symm h32,h3g,Ne.symm h3g,h4g,Ne.symm h4g,h42,Ne.symm h42,h43,Ne.symm h43,h5g,Ne.symm h5g,h52,Ne.symm h52,h53,Ne.symm h53,h54,Ne.symm h54,h6g,Ne.symm h6g,h62,Ne.symm h62,h63,Ne.symm h63,h64,Ne.symm h64,h65,Ne.symm h65]) (by rw[nE (op2 _ x y)];simp[frz,V.cl]) (by simp[hg,hb2,hb3,hb4,hb5,hb6])
theorem G8 {x:Option Rat} (h:okQ x):rd (ro x)=x:=by
 cases x with
 | none => exact aJ3
 | some q => exact Ig (h q rfl)
theorem Jg (r s:RT) (hr:r.le 1048576) (hs:s.le 1048576):RO Tryz.prog 139 [.agg r.c,.agg s.c] (.agg (ro (op2 (· - ·) (rd r) (rd s))).c):=by
 have k1:=eC r (by have:=hr.1;omega) (by have:=hr.2;omega)
 have k2:=eC s (by have:=hs.1;omega) (by have:=hs.2;omega)
 refine aI Tryz.func139 rfl rfl (by rw[Tryz.ntmps139];simp) fun bl=> ?_
 rw[Tryz.ntmps139,Tryz.results139]
 refine aE ?_
 rw[nE (op2 _ _ _)]
 simp[RT.c]
 intro g hg0 hg g2 hg2 h2g hb2 g3 hg3 h32 h3g hb3
 refine aC ?_
 simp
 refine bS [(2,.loc g 3 0 0),(3,.loc g2 3 0 0),(4,.loc g3 3 0 0)] _ (upd (upd (upd bl g (some ⟨3,[r.c]⟩)) g2 (some ⟨3,[s.c]⟩)) g3 (some ⟨3,[[.bool false,.nils,.nils]]⟩)) 12 (.bool (!decide r.ok || !decide s.ok)) (upd (upd (upd bl g (some ⟨3,[r.c]⟩)) g2 (some ⟨3,[s.c]⟩)) g3 (some ⟨3,[[.bool false,.nils,.nils]]⟩)) ⟨rfl,by simp,sub_eq (by simp[RT.c])⟩ rfl ?_ ?_
 ·simp[RT.c,h2g,Ne.symm h2g,h32,Ne.symm h32,h3g,Ne.symm h3g]
  refine aD k1 ?_
  simp[h2g,Ne.symm h2g,h32,Ne.symm h32,h3g,Ne.symm h3g]
  refine⟨fun h=> ?_,fun h=> ?_⟩
  ·simp[h]
  ·simp[h,h2g,Ne.symm h2g,h32,Ne.symm h32,h3g,Ne.symm h3g]
   refine aD k2 ?_
   simp[h]
 by_cases h1:r.ok
 ·by_cases h2:s.ok
  ·obtain⟨a,ea⟩: ∃q,rd r=some q:=⟨_,by unfold rd;rw[if_pos h1]⟩
   obtain⟨b,eb⟩: ∃q,rd s=some q:=⟨_,by unfold rd;rw[if_pos h2]⟩
   obtain⟨ra,fa⟩:=rd_some ea
   obtain⟨sb,fb⟩:=rd_some eb
   have oa:okQ (some a):=fun q h=>by cases h;exact fa
   have ob:okQ (some b):=fun q h=>by cases h;exact fb
   have c1:=xA (some b) ob
   have c2:=rQ (some a) (some (-b)) oa (pS ob)
   have er:op2 (· + ·) (some a) (some (-b))=op2 (· - ·) (rd r) (rd s):=by
    rw[ea,eb];unfold op2;simp only;rw[Rat.sub_eq_add_neg]
   rw[er] at c2
   clear er
   generalize op2 (· - ·) (rd r) (rd s)=z at c2 ⊢
   rw[nE z] at c2
   rw[show(ro (some b))=s from sb.symm] at c1
   rw[show(ro (some a))=r from ra.symm] at c2
   simp[h1,h2]
   refine aY aM (upd (upd bl g (some ⟨3,[r.c]⟩)) g2 (some ⟨3,[s.c]⟩)) (by simp[RT.c,h2g,Ne.symm h2g,h32,Ne.symm h32,h3g,Ne.symm h3g,hb3]) [0,1,2,3] 1 (by kernel_rfl) ?_
   simp[h2g,Ne.symm h2g,h32,Ne.symm h32,h3g,Ne.symm h3g,RT.c]
   refine aO c1 ?_
   simp[h2g,Ne.symm h2g,h32,Ne.symm h32,h3g,Ne.symm h3g]
   refine aO c2 ?_
   simp[h2g,Ne.symm h2g,h32,Ne.symm h32,h3g,Ne.symm h3g]
   refine Dz 4 ?_
   simp[h2g,Ne.symm h2g,h32,Ne.symm h32,h3g,Ne.symm h3g]
   refine⟨by simp[h32,h3g,hb3],Dy ?_⟩
   simp[h2g,Ne.symm h2g,h32,Ne.symm h32,h3g,Ne.symm h3g]
   exact aK [.agg [.bool (decide (nm z<0)),.sl (iv (lim (nm z).natAbs)),.sl (iv (lim (dn z)))]] 1 (by simp[h2g,Ne.symm h2g,h32,Ne.symm h32,h3g,Ne.symm h3g]) (by simp[frz,V.cl]) (by simp[hg,hb2,hb3])
  ·have eb:rd s=none:=by unfold rd;rw[if_neg h2]
   have er:op2 (· - ·) (rd r) (rd s)=none:=by rw[eb];cases rd r<;>rfl
   rw[er]
   simp[h1,h2]
   exact aK [.agg [.bool false,.nils,.nils]] 1 (by simp[h2g,Ne.symm h2g,h32,Ne.symm h32,h3g,Ne.symm h3g]) (by simp[frz,nm,dn,V.cl,iv,aW]) (by simp[hg,hb2,hb3])
 ·have eb:rd r=none:=by unfold rd;rw[if_neg h1]
  have er:op2 (· - ·) (rd r) (rd s)=none:=by rw[eb];rfl
  rw[er]
  simp[h1]
  exact aK [.agg [.bool false,.nils,.nils]] 1 (by simp[h2g,Ne.symm h2g,h32,Ne.symm h32,h3g,Ne.symm h3g]) (by simp[frz,nm,dn,V.cl,iv,aW]) (by simp[hg,hb2,hb3])

theorem R8 {n:Int} (h0:0≤n) (h1:n≤18446744073709551615):IntKind.u64.wrap n=n:=IntWalk.u64_in _ ⟨by omega,by omega⟩
theorem tJ (n:Int) (hn: -9223372036854775808≤n∧n≤9223372036854775807):RO Tryz.prog 160 [.int .i64 n] (.agg (biC n)):=by
 refine aI Tryz.func160 rfl rfl (by rw[Tryz.ntmps160];simp) fun bl=> ?_
 rw[Tryz.ntmps160,Tryz.results160]
 refine aC ?_
 simp
 intro g hg0 hg
 refine⟨fun h=> ?_,fun h=> ?_⟩
 ·have e:IntKind.u64.wrap (IntKind.u64.wrap (IntKind.i64.wrap (-IntKind.i64.wrap (n+1)))+1)=(n.natAbs:Int):=by
   have w1:IntKind.i64.wrap (n+1)=n+1:=i64_in (by omega) (by omega)
   have w2:IntKind.i64.wrap (-(n+1))= -(n+1):=i64_in (by omega) (by omega)
   have w3:IntKind.u64.wrap (-(n+1))= -(n+1):=R8 (by omega) (by omega)
   have w4:IntKind.u64.wrap (-(n+1)+1)= -(n+1)+1:=R8 (by omega) (by omega)
   rw[w1,w2,w3,w4]
   omega
  rw[e]
  refine aD (sQ n.natAbs (by omega)) ?_
  simp
  refine aD (gA true n.natAbs) ?_
  have e2:sg true n.natAbs=n:=by unfold sg;simp;omega
  rw[e2,bQ]
  simp
  exact aK [.agg (biC n)] 1 (by simp[bQ]) (by simp[frz,bQ,V.cl]) (by simp[hg])
 ·have e:IntKind.u64.wrap n=(n.natAbs:Int):=by rw[R8 (by omega) (by omega)];omega
  rw[e]
  refine aD (sQ n.natAbs (by omega)) ?_
  simp
  refine aD (gA false n.natAbs) ?_
  have e2:sg false n.natAbs=n:=by unfold sg;simp;omega
  rw[e2,bQ]
  simp
  exact aK [.agg (biC n)] 1 (by simp[bQ]) (by simp[frz,bQ,V.cl]) (by simp[hg])
theorem Ax (n:Int) (hn: -9223372036854775808<n∧n≤9223372036854775807):RO Tryz.prog 215 [.int .i64 n] (.agg (biC n)):=by
 have hl:(lim n.natAbs).length≤60:=aL.2 (Nat.lt_of_le_of_lt (show n.natAbs≤9223372036854775808 by omega) (by decide+kernel))
 refine aI Tryz.func215 rfl rfl (by rw[Tryz.ntmps215];simp) fun bl=> ?_
 rw[Tryz.ntmps215,Tryz.results215]
 refine aC ?_
 simp
 intro g hg0 hg
 have h0: ¬ n= -9223372036854775808:=by omega
 simp[h0]
 refine⟨fun h=> ?_,fun h=> ?_⟩
 ·have e:IntKind.i64.wrap (-n)=(n.natAbs:Int):=by rw[i64_in (by omega) (by omega)];omega
  try rw[e]
  refine aD (gE n.natAbs (by omega)) ?_
  simp
  refine aD (eJ true n.natAbs hl) ?_
  have e2:sg true n.natAbs=n:=by unfold sg;simp;omega
  rw[e2,bQ]
  simp
  exact aK [.agg (biC n)] 1 (by simp[bQ]) (by simp[frz,bQ,V.cl]) (by simp[hg])
 ·have e:n=(n.natAbs:Int):=by omega
  have hN:=gE n.natAbs (by omega)
  rw[←e] at hN
  refine aD hN ?_
  simp
  refine aD (eJ false n.natAbs hl) ?_
  have e2:sg false n.natAbs=n:=by unfold sg;simp;omega
  rw[e2,bQ]
  simp
  exact aK [.agg (biC n)] 1 (by simp[bQ]) (by simp[frz,bQ,V.cl]) (by simp[hg])
theorem Rp (n:Int):(rq (n:Rat)).c= [.bool (decide (n<0)),.sl (iv (lim n.natAbs)),.sl [[.int .i64 1]]]:=by
 rw[gW]
 show [V.bool (decide (n<0)),V.sl (iv (lim n.natAbs)),V.sl (iv (lim 1))]=_
 rw[Ek];rfl
theorem dZ (n:Int) (hn: -9223372036854775808<n∧n≤9223372036854775807):RO Tryz.prog 138 [.int .i64 n] (.agg (ro (some (n:Rat))).c):=by
 refine aI Tryz.func138 rfl rfl (by rw[Tryz.ntmps138];simp) fun bl=> ?_
 rw[Tryz.ntmps138,Tryz.results138]
 refine aC ?_
 rw[show(ro (some (n:Rat))).c=_ from Rp n]
 simp
 intro g hg0 hg
 refine aD (Ax n hn) ?_
 simp[bQ]
 intro g1 hg1 h1g hb1
 simp[h1g,Ne.symm h1g]
 refine aK [.agg [.bool (decide (n<0)),.sl (iv (lim n.natAbs)),.lsl g1 1 0 1]] 2 (by simp[h1g,Ne.symm h1g]) ?_ (by simp[hg,hb1])
 exact zG (ns:= [1]) (.inl hg1) hb1 (by simp[h1g,iv])
theorem D0 (n:Int) (hn: -9223372036854775808≤n∧n≤9223372036854775807):RO Tryz.prog 83 [.int .i64 n] (fv (some (n:Rat))):=by
 refine aI Tryz.func83 rfl rfl (by rw[Tryz.ntmps83];simp) fun bl=> ?_
 rw[Tryz.ntmps83,Tryz.results83]
 refine aC ?_
 rw[show fv (some (n:Rat))= .ptr (rq (n:Rat)).c from rfl,Rp n]
 simp
 refine aD (tJ n hn) ?_
 simp[bQ]
 intro g1 hg1 hb1 g2 hg2 h21 hb2
 refine aK [.loc g2 3 0 0] 2 (by simp[h21,Ne.symm h21]) ?_ (by simp[hb1,hb2])
 have h1:=zG (bl0:=bl) (ms:=lim n.natAbs) (b:=decide (n<0)) (ns:= [1]) (g:=g1) (.inl hg1) hb1 (bl:=upd (upd bl g1 (some ⟨1,iv [1]⟩)) g2 (some ⟨3,[[.bool (decide (n<0)),.sl (iv (lim n.natAbs)),.lsl g1 1 0 1]]⟩)) (by simp[h21,Ne.symm h21])
 rw[oM] at h1
 show frz _ 2 (.loc g2 3 0 0)=_
 rw[rA (e:= [.bool (decide (n<0)),.sl (iv (lim n.natAbs)),.lsl g1 1 0 1]) (by simp[dropB,hb2])]
 obtain⟨e',he,h2⟩:=Option.map_eq_some_iff.1 h1
 cases h2
 exact(congrArg (Option.map V.ptr) he).trans rfl
theorem Mp (r s:RT) (hr:r.le 1048576) (hs:s.le 1048576):RO Tryz.prog 137 [.agg r.c,.agg s.c] (.agg (ro (op2 (· + ·) (rd r) (rd s))).c):=by
 have k1:=eC r (by have:=hr.1;omega) (by have:=hr.2;omega)
 have k2:=eC s (by have:=hs.1;omega) (by have:=hs.2;omega)
 refine aI Tryz.func137 rfl rfl (by rw[Tryz.ntmps137];simp) fun bl=> ?_
 rw[Tryz.ntmps137,Tryz.results137]
 refine aE ?_
 rw[nE (op2 _ _ _)]
 simp[RT.c]
 intro g hg0 hg g2 hg2 h2g hb2 g3 hg3 h32 h3g hb3
 refine aC ?_
 simp
 refine bS [(2,.loc g 3 0 0),(3,.loc g2 3 0 0),(4,.loc g3 3 0 0)] _ (upd (upd (upd bl g (some ⟨3,[r.c]⟩)) g2 (some ⟨3,[s.c]⟩)) g3 (some ⟨3,[[.bool false,.nils,.nils]]⟩)) 12 (.bool (!decide r.ok || !decide s.ok)) (upd (upd (upd bl g (some ⟨3,[r.c]⟩)) g2 (some ⟨3,[s.c]⟩)) g3 (some ⟨3,[[.bool false,.nils,.nils]]⟩)) ⟨rfl,by simp,sub_eq (by simp[RT.c])⟩ rfl ?_ ?_
 ·simp[RT.c,h2g,Ne.symm h2g,h32,Ne.symm h32,h3g,Ne.symm h3g]
  refine aD k1 ?_
  simp[h2g,Ne.symm h2g,h32,Ne.symm h32,h3g,Ne.symm h3g]
  refine⟨fun h=> ?_,fun h=> ?_⟩
  ·simp[h]
  ·simp[h,h2g,Ne.symm h2g,h32,Ne.symm h32,h3g,Ne.symm h3g]
   refine aD k2 ?_
   simp[h]
 by_cases h1:r.ok
 ·by_cases h2:s.ok
  ·obtain⟨a,ea⟩: ∃q,rd r=some q:=⟨_,by unfold rd;rw[if_pos h1]⟩
   obtain⟨b,eb⟩: ∃q,rd s=some q:=⟨_,by unfold rd;rw[if_pos h2]⟩
   obtain⟨ra,fa⟩:=rd_some ea
   obtain⟨sb,fb⟩:=rd_some eb
   have oa:okQ (some a):=fun q h=>by cases h;exact fa
   have ob:okQ (some b):=fun q h=>by cases h;exact fb
   have c2:=rQ (some a) (some b) oa ob
   rw[←ea,←eb] at c2
   generalize op2 (· + ·) (rd r) (rd s)=z at c2 ⊢
   rw[nE z] at c2
   rw[ea,eb,show(ro (some a))=r from ra.symm,show(ro (some b))=s from sb.symm] at c2
   simp[h1,h2,RT.c,h2g,Ne.symm h2g,h32,Ne.symm h32,h3g,Ne.symm h3g]
   refine aD c2 ?_
   simp[h2g,Ne.symm h2g,h32,Ne.symm h32,h3g,Ne.symm h3g]
   exact aK [.agg [.bool (decide (nm z<0)),.sl (iv (lim (nm z).natAbs)),.sl (iv (lim (dn z)))]] 1 (by simp[h2g,Ne.symm h2g,h32,Ne.symm h32,h3g,Ne.symm h3g]) (by simp[frz,V.cl]) (by simp[hg,hb2,hb3])
  ·have eb:rd s=none:=by unfold rd;rw[if_neg h2]
   have er:op2 (· + ·) (rd r) (rd s)=none:=by rw[eb];cases rd r<;>rfl
   rw[er]
   simp[h1,h2]
   exact aK [.agg [.bool false,.nils,.nils]] 1 (by simp[h2g,Ne.symm h2g,h32,Ne.symm h32,h3g,Ne.symm h3g]) (by simp[frz,nm,dn,V.cl,iv,aW]) (by simp[hg,hb2,hb3])
 ·have eb:rd r=none:=by unfold rd;rw[if_neg h1]
  have er:op2 (· + ·) (rd r) (rd s)=none:=by rw[eb];rfl
  rw[er]
  simp[h1]
  exact aK [.agg [.bool false,.nils,.nils]] 1 (by simp[h2g,Ne.symm h2g,h32,Ne.symm h32,h3g,Ne.symm h3g]) (by simp[frz,nm,dn,V.cl,iv,aW]) (by simp[hg,hb2,hb3])

theorem Ah :Tryz.prog.cellsOf 3=1:=by kernel_rfl
theorem K6 :Tryz.prog.cellsOf 4=1:=by kernel_rfl
theorem yF :Tryz.prog.cellsOf 9=1:=by kernel_rfl
theorem Fw :Tryz.prog.cellsOf 207=4:=by kernel_rfl
theorem aU2 {cs:List V} (h:cs.length=2): ∃a b,cs= [a,b]:=by
 match cs,h with
 | [a, b], _ => exact ⟨a, b, rfl⟩
theorem aVQ {cs:List V} (h:cs.length=3): ∃a b c,cs= [a,b,c]:=by
 match cs,h with
 | [a, b, c], _ => exact ⟨a, b, c, rfl⟩
theorem aS5 {cs:List V} (h:cs.length=4): ∃a b c d,cs= [a,b,c,d]:=by
 match cs,h with
 | [a, b, c, d], _ => exact ⟨a, b, c, d, rfl⟩
theorem Us {cs:List V} (h:CO Tryz.prog 207 cs): ∃j:J,cs=j.c∧j.fit:=by
 obtain⟨hl,hf⟩:=wF Tryz.underlying207 h
 rw[Fw] at hl
 obtain⟨a,b,c,d,rfl⟩:=aS5 hl
 simp[Ah,K6,yF] at hf
 obtain⟨h0,h1,h2,h3⟩:=hf
 obtain⟨s,h0,hs⟩:=aAM Tryz.underlying9 h0
 obtain⟨x,h1,hx⟩:=tL Tryz.underlying3 h1
 obtain⟨y,h2,hy⟩:=tL Tryz.underlying3 h2
 obtain⟨f,h3⟩:=Iq Tryz.underlying4 h3
 cases h0;cases h1;cases h2;cases h3
 exact⟨⟨s,x,y,f⟩,rfl,hs,wf_i64 hx,wf_i64 hy⟩
theorem Jb :Tryz.prog.bytesOf 3=8:=by kernel_rfl
theorem Qa {cs:List V} (h:CO Tryz.prog 27 cs): ∃ns:List Int,cs= [.sl (iv ns)]∧ns.length≤17592186043904∧ ∀n,n∈ns→ -9223372036854775808≤n∧n≤9223372036854775807:=by
 obtain⟨xs,rfl,hx,hl⟩:=H3 Tryz.underlying27 h
 rw[Jb] at hl
 have: ∃ns:List Int,xs=iv ns∧ ∀n,n∈ns→ -9223372036854775808≤n∧n≤9223372036854775807:=by
  clear hl h
  induction xs with
  | nil => exact ⟨[], rfl, fun n hn => by cases hn⟩
  | cons x xs ih =>
    obtain⟨ns,rfl,hns⟩:=ih fun y hy=>hx y (List.mem_cons_of_mem _ hy)
    obtain⟨n,rfl,hn⟩:=tL Tryz.underlying3 (hx x List.mem_cons_self)
    refine⟨n::ns,rfl,fun m hm=> ?_⟩
    rcases List.mem_cons.1 hm with rfl | hm
    ·exact wf_i64 hn
    ·exact hns m hm
 obtain⟨ns,rfl,hns⟩:=this
 exact⟨ns,rfl,by simp at hl;omega,hns⟩

theorem Bt :Tryz.prog.cellsOf 217=3:=by kernel_rfl
theorem D4 :Tryz.prog.cellsOf 71=2:=by kernel_rfl
theorem Ak :Tryz.prog.cellsOf 68=1:=by kernel_rfl
theorem S7 :Tryz.prog.cellsOf 69=1:=by kernel_rfl
theorem Br :1≤Tryz.prog.bytesOf 207:=by
 have:Tryz.prog.bytesOf 207=40:=by kernel_rfl
 omega
theorem T9 :1≤Tryz.prog.bytesOf 217:=by
 have:Tryz.prog.bytesOf 217=24:=by kernel_rfl
 omega
def aCC (n:Int):Prop:= -9223372036854775808≤n∧n≤9223372036854775807
structure Mb.fit (m : Mb) : Prop where
 a:aCC m.a
 b:aCC m.b
 kind:aCC m.kind
structure Str.fit (s : Str) : Prop where
 js:s.js.length≤140737488351232
 ms:s.ms.length≤140737488351232
 names: ∀j,j∈s.js→j.name.size≤140737488351232
 aT6: ∀j,j∈s.js→j.fit
 members: ∀m,m∈s.ms→m.fit
theorem Vd {cs:List V} (h:CO Tryz.prog 217 cs): ∃m:Mb,cs=m.c∧m.fit:=by
 obtain⟨hl,hf⟩:=wF Tryz.underlying217 h
 rw[Bt] at hl
 obtain⟨a,b,c,rfl⟩:=aVQ hl
 simp[Ah,K6,yF] at hf
 obtain⟨h0,h1,h2⟩:=hf
 obtain⟨x,h0,hx⟩:=tL Tryz.underlying3 h0
 obtain⟨y,h1,hy⟩:=tL Tryz.underlying3 h1
 obtain⟨z,h2,hz⟩:=tL Tryz.underlying3 h2
 cases h0;cases h1;cases h2
 exact⟨⟨x,y,z⟩,rfl,wf_i64 hx,wf_i64 hy,wf_i64 hz⟩
theorem aJI {xs:List (List V)} (hx: ∀x,x∈xs→CO Tryz.prog 207 x): ∃js:List J,xs=jv js∧ ∀j,j∈js→j.fit:=by
 induction xs with
 | nil => exact ⟨[], rfl, fun n hn => by cases hn⟩
 | cons x xs ih =>
   obtain⟨ns,rfl,hns⟩:=ih fun y hy=>hx y (List.mem_cons_of_mem _ hy)
   obtain⟨n,rfl,hn⟩:=Us (hx x List.mem_cons_self)
   refine⟨n::ns,rfl,fun m hm=> ?_⟩
   rcases List.mem_cons.1 hm with rfl | hm
   ·exact hn
   ·exact hns m hm
theorem aNC {xs:List (List V)} (hx: ∀x,x∈xs→CO Tryz.prog 217 x): ∃js:List Mb,xs=mv js∧ ∀j,j∈js→j.fit:=by
 induction xs with
 | nil => exact ⟨[], rfl, fun n hn => by cases hn⟩
 | cons x xs ih =>
   obtain⟨ns,rfl,hns⟩:=ih fun y hy=>hx y (List.mem_cons_of_mem _ hy)
   obtain⟨n,rfl,hn⟩:=Vd (hx x List.mem_cons_self)
   refine⟨n::ns,rfl,fun m hm=> ?_⟩
   rcases List.mem_cons.1 hm with rfl | hm
   ·exact hn
   ·exact hns m hm
theorem Mt {xs:List (List V)} {b n:Nat} (hl:xs.length*b≤n) (hb:1≤b):xs.length≤n:=Nat.le_trans (Nat.le_mul_of_pos_right _ hb) hl
theorem Ju {cs:List V} (h:CO Tryz.prog 71 cs): ∃s:Str,cs=s.c∧s.fit:=by
 obtain⟨hl,hf⟩:=wF Tryz.underlying71 h
 rw[D4] at hl
 obtain⟨a,b,rfl⟩:=aU2 hl
 simp[Ak,S7] at hf
 obtain⟨h0,h1⟩:=hf
 obtain⟨x,h0,hx,hlx⟩:=H3 Tryz.underlying68 h0
 obtain⟨y,h1,hy,hly⟩:=H3 Tryz.underlying69 h1
 cases h0;cases h1
 obtain⟨js,rfl,hjs⟩:=aJI hx
 obtain⟨ms,rfl,hms⟩:=aNC hy
 exact⟨⟨js,ms⟩,rfl,by simpa using Mt hlx Br,by simpa using Mt hly T9,fun j hj=>(hjs j hj).1,hjs,hms⟩

def szR (r:RT) (left:Int):Int:=if less left r.m.length<0 then -1 else less (less left r.m.length) r.d.length
def aXO (s:SP) (left:Int):Int:=if szR s.lo left<0 then -1 else szR s.hi (szR s.lo left)
theorem Cm (neg:Bool) (m:List Int) (hm:m.length≤140737488351232):RO Tryz.prog 207 [.agg [.bool neg,.sl (iv m)],.agg [.bool neg,.sl (iv m)]] (.bool true):=by
 refine aI Tryz.func207 rfl rfl (by rw[Tryz.ntmps207];simp) fun bl=> ?_
 rw[Tryz.ntmps207,Tryz.results207]
 refine aC ?_
 simp
 intro g1 hg1 hb1 g2 hg2 h21 hb2
 try simp[h21,Ne.symm h21]
 refine aD (wD m m hm) ?_
 simp
 exact aK [.bool true] 0 (by simp) rfl (by simp[hb1,hb2])
theorem Rh (r:RT) (hr:r.le 140737488351232):RO Tryz.prog 130 [.agg r.c,.agg r.c] (.bool true):=by
 refine aI Tryz.func130 rfl rfl (by rw[Tryz.ntmps130];simp) fun bl=> ?_
 rw[Tryz.ntmps130,Tryz.results130]
 refine aC ?_
 simp[RT.c]
 intro g1 hg1 hb1 g2 hg2 h21 hb2
 try simp[h21,Ne.symm h21]
 refine aD (Cm r.neg r.m hr.1) ?_
 simp[h21,Ne.symm h21]
 refine aD (wD r.d r.d hr.2) ?_
 simp
 exact aK [.bool true] 0 (by simp) rfl (by simp[hb1,hb2])

def dB (neg:Bool) (m:List Int):List D:= [.c (.bool neg),fl 1 (iv m)]
def dR (r:RT):List D:= [.c (.bool r.neg),fl 1 (iv r.m),fl 1 (iv r.d)]
theorem Ou {bl:Int→Option Blk} {neg:Bool} {m:List Int} {v:V} {gs:List Int} :OwnD bl (.a (dB neg m)) v gs ↔ ∃vm,v= .agg [.bool neg,vm]∧OwnD bl (fl 1 (iv m)) vm gs:=by
 rw[OwnD];unfold dB
 constructor
 ·rintro⟨vs,rfl,h⟩
  rw[OwnL] at h
  obtain⟨v,vs',g1,g2,rfl,rfl,_,h1,h2⟩:=h
  rw[OwnD] at h1
  obtain⟨rfl,_,rfl⟩:=h1
  obtain⟨w,rfl⟩: ∃w,vs'= [w]:=by
   have:=h2.length
   match vs',this with
   | [w], _ => exact ⟨w, rfl⟩
  exact⟨w,rfl,oL.1 h2⟩
 ·rintro⟨vm,rfl,h⟩
  exact⟨_,rfl,iU (D3 _) (oL.2 h) (fun x hx=>by cases hx)⟩
theorem vD {bl:Int→Option Blk} {r:RT} {vs:List V} {gs:List Int} :OwnL bl (dR r) vs gs ↔ ∃vm vd gm gd,vs= [.bool r.neg,vm,vd]∧gs=gm++gd∧(∀g,g∈gm→g∉gd)∧OwnD bl (fl 1 (iv r.m)) vm gm∧OwnD bl (fl 1 (iv r.d)) vd gd:=by
 unfold dR
 constructor
 ·intro h
  rw[OwnL] at h
  obtain⟨v,vs',g1,g2,rfl,rfl,_,h1,h2⟩:=h
  rw[OwnD] at h1
  obtain⟨rfl,_,rfl⟩:=h1
  obtain⟨vm,vd,gm,gd,rfl,rfl,hd,h3,h4⟩:=gS.1 h2
  exact⟨vm,vd,gm,gd,rfl,rfl,hd,h3,h4⟩
 ·rintro⟨vm,vd,gm,gd,rfl,rfl,hd,h3,h4⟩
  exact iU (g1:= []) (g2:=gm++gd) (D3 _) (gS.2 ⟨vm,vd,gm,gd,rfl,rfl,hd,h3,h4⟩) (fun x hx=>by cases hx)
theorem Qn {bl:Int→Option Blk} {r:RT} {v:V} {gs:List Int} :OwnD bl (.a (dR r)) v gs ↔ ∃vm vd gm gd,v= .agg [.bool r.neg,vm,vd]∧gs=gm++gd∧(∀g,g∈gm→g∉gd)∧OwnD bl (fl 1 (iv r.m)) vm gm∧OwnD bl (fl 1 (iv r.d)) vd gd:=by
 rw[OwnD]
 constructor
 ·rintro⟨vs,rfl,h⟩
  obtain⟨vm,vd,gm,gd,rfl,h2⟩:=vD.1 h
  exact⟨vm,vd,gm,gd,rfl,h2⟩
 ·rintro⟨vm,vd,gm,gd,rfl,h2⟩
  exact⟨_,rfl,vD.2 ⟨vm,vd,gm,gd,rfl,h2⟩⟩
theorem aL8 (r:RT):D.fzL (dR r)=r.c:=by simp[dR,D.fzL,D.fz,RT.c]
theorem aDH (r:RT) (n:Nat):D.depL (n+1) (dR r):=by simp[dR,D.depL,D.dep,kV]
theorem aJH (r:RT):D.scL (dR r)=true:=by simp[dR,D.scL,D.sc,V.ow,aH3]
theorem Ya {bl:Int→Option Blk} {g:Int} (hg:bl g=none) (b:Option Blk): ∀x y,bl x=some y→upd bl g b x=some y:=fun x y hx=>by rw[aA,if_neg (fun e=>by rw[e,hg] at hx;cases hx)];exact hx
def mkR (k:Nat) (r:RT):RT:=⟨r.neg,marks k r.m.length,marks (k+r.m.length:Nat) r.d.length⟩
def aME (k:Nat) (r:RT):Nat:=k+r.m.length+r.d.length
def dS (s:SP):List D:=dR s.lo++(dR s.hi++ [.c (.bool s.nl),.c (.bool s.nh)])
def aX0 (k:Nat) (s:SP):Nat:=aME (aME k s.lo) s.hi

theorem SP.Hj {s:SP} {k l:Nat} (h:s.le k) (hkl:k≤l):s.le l:=⟨⟨by have:=h.1.1;omega,by have:=h.1.2;omega⟩,by have:=h.2.1;omega,by have:=h.2.2;omega⟩
theorem RT.Hj {s:RT} {k l:Nat} (h:s.le k) (hkl:k≤l):s.le l:=⟨by have:=h.1;omega,by have:=h.2;omega⟩

def rv (rs:List RT):List (List V):=rs.map RT.c
@[simp] theorem Mi (rs : List RT) : (rv rs).length = rs.length := by simp [rv]
@[simp] theorem aQO (rs : List RT) (i : Nat) (h : i < (rv rs).length) : (rv rs)[i] = (rs[i]'(by simpa using h)).c := by simp [rv]
def dRs (rs:List RT):D:= .s 3 (rs.map dR)
theorem Ph (rs:List RT):(dRs rs).fz= .sl (rv rs):=by
 unfold dRs rv
 rw[D.fz,yZ,List.map_map]
 congr 1
 refine List.map_congr_left fun r _=> ?_
 show List.map D.fz (dR r)=r.c
 rw[←tY,aL8]
theorem Io (rs:List RT) (n:Nat):(dRs rs).dep (n+2):=by
 unfold dRs
 rw[D.dep]
 refine⟨by omega,?_⟩
 induction rs with
 | nil => simp [D.depR]
 | cons r rs ih => simp only [List.map_cons, D.depR]; exact ⟨aDH r _, ih⟩
theorem aBL (rs:List RT):(dRs rs).sc=true:=by
 unfold dRs
 rw[D.sc]
 induction rs with
 | nil => simp [D.scR]
 | cons r rs ih => simp only [List.map_cons, D.scR, aJH, ih]; rfl
theorem U6 {bl:Int→Option Blk} {rs:List RT} {v:V} {gs:List Int} (h:OwnD bl (dRs rs) v gs) (n:Nat):frz bl (n+2) v=some (.sl (rv rs)):=by
 rw[h.frz (Io rs n),Ph]
theorem vZ {bl:Int→Option Blk} {rs:List RT} {v:V} {gs:List Int} :OwnD bl (dRs rs) v gs ↔ (rs= []∧v= .nils∧gs= [])∨ ∃g els gs',v= .lsl g 3 0 rs.length∧gs=g::gs'∧g∉gs'∧bl g=some ⟨3,els⟩∧(g<0→els= [])∧OwnR bl 3 (rs.map dR) els gs':=by
 unfold dRs
 rw[OwnD]
 constructor
 ·rintro(⟨h1,h2,h3⟩| ⟨g,els,gs',h1,h2,h3,h4,h5,h6⟩)
  ·exact .inl ⟨by simpa using h1,h2,h3⟩
  ·exact .inr ⟨g,els,gs',by simpa using h1,h2,h3,h4,h5,h6⟩
 ·rintro(⟨h1,h2,h3⟩| ⟨g,els,gs',h1,h2,h3,h4,h5,h6⟩)
  ·exact .inl ⟨by simpa using h1,h2,h3⟩
  ·exact .inr ⟨g,els,gs',by simpa using h1,h2,h3,h4,h5,h6⟩
theorem Xk {bl:Int→Option Blk} {rs:List RT} {v:V} {gs:List Int} (h:OwnD bl (dRs rs) v gs):v.one=true∧v.cells= [v]:=by
 rcases vZ.1 h with ⟨_,rfl,_⟩| ⟨g,els,gs',rfl,_⟩<;>exact⟨rfl,rfl⟩
def szTo :List RT→Int→Int
 | [], left => left
 | r :: rs, left => if szR r left < 0 then -1 else szTo rs (szR r left)
def aXN (rs:List RT) (left:Int):Int:=if less left rs.length<0 then -1 else szTo rs (less left rs.length)
def Ee (rs:List RT) (k:Nat):Prop:=rs.length≤k∧ ∀r,r∈rs→r.le k
def wZ (rs:List RT):Nat:=(rs.map fun r=>r.m.length+r.d.length).sum
theorem Mj (rs:List RT) (hq:Ee rs 1048576):RO Tryz.prog 61 [.sl (rv rs),.sl (rv rs)] (.bool true):=by
 have hw:=hq.1
 refine aI Tryz.func61 rfl rfl (by rw[Tryz.ntmps61];simp) fun bl=> ?_
 rw[Tryz.ntmps61,Tryz.results61]
 refine aC ?_
 simp
 refine aJ (fun i:Nat=> [(0,.sl (rv rs)),(1,.sl (rv rs)),(5,.int .i64 i)]) (fun _=>bl) (fun i=>i≤rs.length) (fun i=>rs.length - i) _ 0 (Nat.zero_le _) ⟨rfl,by simp,Sub.refl _⟩ ?_
 intro i hi
 refine aC ?_
 simp
 refine⟨fun h1=> ?_,fun h1=> ?_⟩
 ·refine bW aM (by kernel_rfl) ?_
  simp[h1,RT.c]
  refine aO (Rh rs[i] (RT.Hj (hq.2 _ (List.getElem_mem h1)) (by omega))) ?_
  simp (disch:=omega) [i64_in,aB]
  exact⟨i+1,by omega,by omega,rfl,by simp,Sub.refl _⟩
 ·exact aP (by simp) rfl rfl
def mkQ (k:Nat) (r:RT):RT:=⟨(k:Int).tmod 3==0,marks (k+1:Nat) r.m.length,marks (k+1+r.m.length:Nat) r.d.length⟩
def yK (k:Nat) (r:RT):Nat:=k+1+r.m.length+r.d.length
def mkQs :Nat→List RT→List RT
 | _, [] => []
 | k, r :: rs => mkQ k r :: mkQs (yK k r) rs
def fL (k:Nat) (rs:List RT):Nat:=rs.foldl yK k
@[simp] theorem yH : ∀ (k : Nat) (rs : List RT), (mkQs k rs).length = rs.length
 | _, [] => rfl
 | k, r :: rs => by rw [mkQs, List.length_cons, List.length_cons, yH]
theorem pW (k:Nat) (rs:List RT) (i:Nat) (h:i<rs.length):fL k (rs.take (i+1))=yK (fL k (rs.take i)) rs[i]:=by
 unfold fL
 rw[List.take_add_one,List.getElem?_eq_getElem h,Option.toList_some,List.foldl_append];rfl
theorem R0 : ∀(k:Nat) (rs:List RT) (i:Nat) (h:i<rs.length),(mkQs k rs)[i]'(by rw[yH];exact h)=mkQ (fL k (rs.take i)) rs[i]
 | k, r :: rs, 0, h => rfl
 | k, r :: rs, i + 1, h => by
   simp only[mkQs,List.getElem_cons_succ]
   rw[R0 (yK k r) rs i (by simpa using h)]
   rfl
theorem lQ : ∀(k:Nat) (rs:List RT),fL k rs=k+rs.length+wZ rs
 | k, [] => by simp [fL, wZ]
 | k, r :: rs => by
   have:=lQ (yK k r) rs
   have e:fL k (r::rs)=fL (yK k r) rs:=rfl
   have e2:wZ (r::rs)=(r.m.length+r.d.length)+wZ rs:=by unfold wZ;rw[List.map_cons,List.sum_cons]
   rw[e,this,e2,List.length_cons]
   unfold yK
   omega
theorem tA (k:Nat) (rs:List RT) (i:Nat):fL k (rs.take i)≤fL k rs:=by
 rw[lQ,lQ]
 have h1:(rs.take i).length≤rs.length:=List.length_take_le' i rs
 have h2:wZ rs=wZ (rs.take i)+wZ (rs.drop i):=by
  unfold wZ
  rw[←List.sum_append,←List.map_append,List.take_append_drop]
 omega
structure Mk where
 i:Nat
 els:List (List V)
 b:Int→Option Blk
theorem Kb (k:Nat) (rs:List RT) (i:Nat) (h:i<rs.length):((mkQs k rs).take (i+1)++rs.drop (i+1)).map dR=(((mkQs k rs).take i++rs.drop i).map dR).set i (dR (mkQ (fL k (rs.take i)) rs[i])):=by
 have h2:i<(mkQs k rs).length:=by simpa using h
 rw[List.take_add_one,List.getElem?_eq_getElem h2,R0 k rs i h,Option.toList_some,List.drop_eq_getElem_cons h]
 simp only[List.map_append,List.map_cons,List.map_nil]
 rw[List.set_append_right _ _ (by simp;omega)]
 simp[show min i rs.length=i by omega]
theorem Cj {bl:Int→Option Blk} {K:V→(Int→Option Blk)→Prop} (rs:List RT) (k:Nat) (v:V) (gs:List Int) (h:OwnD bl (dRs rs) v gs) (hk:fL k rs≤4611686018427387000)
  (hK: ∀bl',OwnD bl' (dRs (mkQs k rs)) v gs→(∀g,g∉gs→ ∀b,bl g=some b→bl' g=some b)→K (.int .i64 (fL k rs:Nat)) bl'):bU Tryz.prog 62 [v,.int .i64 k] bl K:=by
 refine cA Tryz.func62 rfl rfl (by rw[Tryz.ntmps62];simp) ?_
 rw[Tryz.ntmps62,Tryz.results62]
 refine aC ?_
 rcases vZ.1 h with ⟨rfl,rfl,rfl⟩| ⟨g,els,gs',rfl,rfl,hg,hb,cK,ho⟩
 ·simp
  refine aJ (fun _:Unit=> [(0,.nils),(1,.int .i64 k),(5,.int .i64 0)]) (fun _=>bl) (fun _=>True) (fun _=>0) _ () trivial ⟨rfl,by simp,Sub.refl _⟩ ?_
  intro _ _
  refine aC ?_
  simp
  rw[bV]
  refine⟨[.int .i64 k],by simp,?_⟩
  exact hK bl (vZ.2 (.inl ⟨rfl,rfl,rfl⟩)) (fun _ _ _ h=>h)
 ·have hlen:=OwnR.length ho
  simp at hlen
  simp
  refine aJ (fun p:Mk=> [(0,.lsl g 3 0 rs.length),(1,.int .i64 (fL k (rs.take p.i):Nat)),(5,.int .i64 p.i)]) (fun p=>p.b)
   (fun p=>p.i≤rs.length∧p.els.length=rs.length∧p.b g=some ⟨3,p.els⟩∧OwnR p.b 3 (((mkQs k rs).take p.i++rs.drop p.i).map dR) p.els gs'∧(∀x,x∉g::gs'→ ∀y,bl x=some y→p.b x=some y))
   (fun p=>rs.length - p.i) 38 ⟨0,els,bl⟩ ⟨Nat.zero_le _,hlen,hb,by simpa using ho,fun x _ y h=>h⟩ ⟨rfl,by simp[fL],Sub.refl _⟩ ?_
  rintro⟨i,els,b⟩ ⟨hi,hel,hbg,hor,hfr⟩
  simp only at hi hel hbg hor hfr
  refine aC ?_
  simp
  have hle:=tA k rs i
  have hsm:=lQ k rs
  refine⟨fun h1=> ?_,fun h1=> ?_⟩
  ·have hge:0≤g:=by
    rcases Int.lt_or_le g 0 with hlt | hge
    ·have h2:=cK hlt;subst h2;simp at hlen;omega
    ·exact hge
   have hrl:((mkQs k rs).take i++rs.drop i).length=rs.length:=by simp;omega
   have hri:((mkQs k rs).take i++rs.drop i)[i]'(by omega)=rs[i]:=by
    rw[List.getElem_append_right (by simp;omega)]
    simp[show min i rs.length=i by omega]
   obtain⟨e,gi,a1,a2,a3,a4,a5,a6⟩:=hor.at i (by simpa using (by omega:i<((mkQs k rs).take i++rs.drop i).length))
   rw[List.getElem_map,hri] at a2
   obtain⟨vm,vd,gm,gd,rfl,rfl,hd,om,od⟩:=vD.1 a2
   have c1:=om.one.1
   have d1:=od.one.1
   have hs:=pW k rs i h1
   have aEC:=tA k rs (i+1)
   have hst:=Kb k rs i h1
   generalize fL k (rs.take i)=q at *
   have hr:rs[i].m.length+rs[i].d.length+q<4611686018427387904:=by unfold yK at hs;omega
   have hil:i<els.length:=by omega
   have ea:els[i]= [.bool rs[i].neg,vm,vd]:=by
    rw[List.getElem?_eq_getElem hil] at a1;exact Option.some.inj a1
   have gi1:g∉gm:=fun hh=>hg (a5 g (List.mem_append_left _ hh))
   have gi2:g∉gd:=fun hh=>hg (a5 g (List.mem_append_right _ hh))
   simp[h1,hbg,hil,ea,c1,d1]
   simp (disch:=omega) [i64_in]
   obtain⟨m3,hm3⟩: ∃m3,((q:Int).tmod 3==0)=m3:=⟨_,rfl⟩
   rw[hm3,show(q:Int)+1=(q+1:Nat) by simp]
   have aUA:q+1+rs[i].m.length+rs[i].d.length≤fL k rs:=by unfold yK at hs;omega
   obtain⟨Lr,he2⟩: ∃e,els.set i [.bool m3,vm,vd]=e:=⟨_,rfl⟩
   have ei2:Lr[i]? =some [.bool m3,vm,vd]:=by rw[←he2,List.getElem?_set_self hil]
   have el2:Lr.length=rs.length:=by rw[←he2,List.length_set,hel]
   have es2:Lr.set i [.bool m3,vm,vd]=Lr:=by rw[←he2,List.set_set]
   rw[he2]
   refine qK rs[i].m (q+1:Nat) vm gm (om.frame fun x hx=>by simp[show x≠g from fun e=>gi1 (e▸hx)]) (by omega) fun b1 om1 k1=> ?_
   have eb1:b1 g=some ⟨3,Lr⟩:=by rw[k1 g gi1];simp
   simp[h1,eb1,ei2]
   rw[show(q:Int)+1+rs[i].m.length=(q+1+rs[i].m.length:Nat) by simp]
   refine qK rs[i].d (q+1+rs[i].m.length:Nat) vd gd (od.frame fun x hx=>by
    rw[k1 x (fun hh=>hd x hh hx)]
    simp[show x≠g from fun e=>gi2 (e▸hx)]) (by omega) fun b2 od2 k2=> ?_
   simp (disch:=omega) [i64_in,aB]
   refine⟨⟨i+1,Lr,b2⟩,⟨by simp only;omega,el2,by simp only;rw[k2 g gi2];exact eb1,?_,fun x hx1 hx2 y hy=> ?_⟩,by simp only;omega,rfl,by simp[hs,yK],Sub.refl _⟩
   ·have:=a6 b2 (dR (mkQ q rs[i])) [.bool m3,vm,vd] (vD.2 ⟨vm,vd,gm,gd,by simp[mkQ,hm3],rfl,hd,om1.frame fun x hx=>k2 x (hd x hx),od2⟩) rfl (by simp[c1,d1]) (fun x hx hn y hy=>by
     simp at hn
     rw[k2 x hn.2,k1 x hn.1,aA,if_neg (fun e:x=g=>hg (e▸hx))];exact hy)
    rw[he2,←hst] at this
    simpa using this
   ·show b2 x=some y
    rw[k2 x (fun h=>hx2 (a5 x (List.mem_append_right _ h))),k1 x (fun h=>hx2 (a5 x (List.mem_append_left _ h))),aA,if_neg hx1]
    exact hfr x (by simp[hx1,hx2]) y hy
  ·have:i=rs.length:=by omega
   subst this
   rw[bV]
   refine⟨[.int .i64 (fL k rs:Nat)],by simp,?_⟩
   have ht:(mkQs k rs).take rs.length=mkQs k rs:=List.take_of_length_le (by simp)
   simp only[ht,List.drop_length,List.append_nil] at hor
   exact hK _ (vZ.2 (.inr ⟨g,els,gs',by simp,rfl,hg,hbg,fun hn=>by have:=cK hn;subst this;simp at hlen;exact List.eq_nil_of_length_eq_zero (by omega),hor⟩)) hfr
theorem X6 (rs:List RT) (k:Nat) (hk:fL k rs≤4611686018427387000):RO Tryz.prog 63 [.sl (rv (mkQs k rs)),.int .i64 k] (.int .i64 (fL k rs:Nat)):=by
 refine aI Tryz.func63 rfl rfl (by rw[Tryz.ntmps63];simp) fun bl=> ?_
 rw[Tryz.ntmps63,Tryz.results63]
 refine aC ?_
 simp
 refine aJ (fun i:Nat=> [(0,.sl (rv (mkQs k rs))),(1,.int .i64 (fL k (rs.take i):Nat)),(5,.int .i64 i)]) (fun _=>bl) (fun i=>i≤rs.length) (fun i=>rs.length - i) _ 0 (Nat.zero_le _) ⟨rfl,by simp[fL],Sub.refl _⟩ ?_
 intro i hi
 refine aC ?_
 simp
 refine⟨fun h1=> ?_,fun h1=> ?_⟩
 ·have hsm:=lQ k rs
  have hs:=pW k rs i h1
  have aEC:=tA k rs (i+1)
  have hat:=R0 k rs i h1
  generalize fL k (rs.take i)=q at *
  have aUA:q+1+rs[i].m.length+rs[i].d.length≤fL k rs:=by unfold yK at hs;omega
  simp[h1,hat,mkQ,RT.c]
  simp (disch:=omega) [i64_in]
  refine aD (yE rs[i].m.length ((q:Int)+1) (by omega)) ?_
  simp[h1,hat,mkQ,RT.c]
  refine⟨fun h=>by omega,fun h=> ?_⟩
  refine aD (yE rs[i].d.length ((q:Int)+1+rs[i].m.length) (by omega)) ?_
  simp[h1,hat,mkQ,RT.c]
  refine⟨fun h=>by omega,fun h=> ?_⟩
  simp (disch:=omega) [i64_in,aB]
  refine⟨i+1,by omega,by omega,rfl,by simp[hs,yK],Sub.refl _⟩
 ·have:i=rs.length:=by omega
  subst this
  exact aP (by simp) rfl rfl
theorem Q5 {bl:Int→Option Blk} {K:V→(Int→Option Blk)→Prop} (xs:List Int) (k:Nat) (v:V) (gs:List Int) (h:OwnD bl (fl 1 (iv xs)) v gs) (hk:k+xs.length≤4611686018427387000)
  (hK: ∀bl',OwnD bl' (fl 1 (iv (marks k xs.length))) v gs→(∀g,g∉gs→ ∀b,bl g=some b→bl' g=some b)→K (.int .i64 (k+xs.length:Nat)) bl'):bU Tryz.prog 57 [v,.int .i64 k] bl K:=
 qK xs k v gs h (by omega) fun bl' o q=>by
  have:=hK bl' o fun g hg b hb=>by rw[q g hg];exact hb
  simpa using this

theorem Nv (n:Int) (hn:(lim n.natAbs).length≤60):NW Tryz.prog 173 [.agg (biC n)] (.a (dB (decide (n<0)) (lim n.natAbs))):=by
 refine iD Tryz.func173 rfl rfl (by rw[Tryz.ntmps173];simp) fun bl=> ?_
 rw[Tryz.ntmps173,Tryz.results173]
 refine aC ?_
 rw[bQ]
 simp
 intro g1 hg1 hb1 g2 hg2 h21 hb2
 try simp[h21,Ne.symm h21]
 refine⟨fun h=>by omega,fun h=> ?_⟩
 try simp[h21,Ne.symm h21]
 refine aY aM (upd bl g1 (some ⟨2,[[.bool (decide (n<0)),.sl (iv (lim n.natAbs))]]⟩)) (by simp[h21,hb2]) [0,1,2,3] 3 (by kernel_rfl) ?_
 simp[h21,Ne.symm h21]
 refine Dz 4 ?_
 simp[h21,Ne.symm h21]
 refine cQ (nK (lim n.natAbs) (by omega)) fun v gs b o f fr=> ?_
 obtain⟨c1,c2⟩:=o.one
 have e1: ∀x,x∈gs→x≠g1∧x≠g2∧bl x=none:=fun x hx=>by have:=f x hx;simp[aA] at this;grind
 have n1:b g1=_:=fr g1 fun h=>(e1 g1 h).1 rfl
 have n2:b g2=_:=fr g2 fun h=>(e1 g2 h).2.1 rfl
 simp[h21,Ne.symm h21] at n1 n2
 have hs:Sub bl b:=fun x y hy=>by
  have z1:x≠g1:=fun h=>by rw[h,hb1] at hy;cases hy
  have z2:x≠g2:=fun h=>by rw[h,hb2] at hy;cases hy
  exact bJ f fr (by simp[aA,z1,z2,hy])
 have hs1:Sub (upd bl g1 (some ⟨2,[[.bool (decide (n<0)),.sl (iv (lim n.natAbs))]]⟩)) b:=fun x y hy=>by
  rw[aA] at hy
  split at hy
  ·rename_i h;subst h;rw[n1];exact hy
  ·exact hs x y hy
 refine⟨hs1,Dz 5 ?_⟩
 simp[h21,Ne.symm h21,n1,n2,c1,c2]
 refine⟨hs1,Dz 6 ?_⟩
 simp[h21,Ne.symm h21,n1,n2,c1,c2]
 refine⟨hs1.upd (by simp[h21,hb2]) _,Dy ?_⟩
 simp[h21,Ne.symm h21,n1,n2,c1,c2]
 refine fH [.agg [.bool (decide (n<0)),v]] gs (by simp[c1,n1,n2]) ?_ (fun x hx=>(e1 x hx).2.2) (hs.upd hb2 _)
 exact Ou.2 ⟨v,rfl,o.frame fun x hx=>by simp[aA,(e1 x hx).2.1]⟩
theorem Qv (x:Option Rat) (hx:okQ x):NW Tryz.prog 95 [fv x] (.a (dR (ro x))):=by
 cases x with
 | none =>
   refine iD Tryz.func95 rfl rfl (by rw[Tryz.ntmps95];simp) fun bl=> ?_
   rw[Tryz.ntmps95,Tryz.results95]
   refine aC ?_
   simp[fv]
   intro g2 hg2 hb2
   refine fH [.agg [.bool false,.nils,.nils]] [] (by simp) ?_ (by simp) (by simp[hb2])
   exact Qn.2 ⟨.nils,.nils,[],[],rfl,rfl,by simp,dI.2 (.inl ⟨rfl,rfl,rfl⟩),dI.2 (.inl ⟨rfl,rfl,rfl⟩)⟩
 | some q =>
   have hf:=hx q rfl
   have hl:=hf.1
   have hl2:=hf.2
   refine iD Tryz.func95 rfl rfl (by rw[Tryz.ntmps95];simp) fun bl=> ?_
   rw[Tryz.ntmps95,Tryz.results95]
   refine aC ?_
   rw[show fv (some q)= .ptr (rq q).c from rfl,gW]
   simp
   intro g2 hg2 hb2
   refine aY aM bl (by simp[hb2]) [0,1,2,3,5,6,7,8] 4 (by kernel_rfl) ?_
   simp
   refine Dz 4 ?_
   simp
   have hfw:=Nv q.num (by omega)
   rw[bQ] at hfw
   refine cQ hfw fun v gs b o f fr=> ?_
   obtain⟨vm,rfl,om⟩:=Ou.1 o
   obtain⟨c1,c2⟩:=om.one
   have e1: ∀x,x∈gs→x≠g2∧bl x=none:=fun x hx=>by have:=f x hx;simp[aA] at this;exact this
   have n2:b g2=_:=fr g2 fun h=>(e1 g2 h).1 rfl
   simp at n2
   have hs:Sub bl b:=fun x y hy=>by
    have z2:x≠g2:=fun h=>by rw[h,hb2] at hy;cases hy
    exact bJ f fr (by simp[aA,z2,hy])
   refine⟨hs,Dz 9 ?_⟩
   simp
   refine cQ (nK (lim q.den) (by omega)) fun w gw b2 ow f2 fr2=> ?_
   obtain⟨d1,d2⟩:=ow.one
   have m2:b2 g2=_:=bJ f2 fr2 n2
   have hs2:Sub bl b2:=fun x y hy=>bJ f2 fr2 (hs x y hy)
   have e3: ∀x,x∈gw→x≠g2:=fun x hx h=>by have:=f2 x hx;rw[h,n2] at this;cases this
   have e4: ∀x,x∈gs→x∉gw:=fun x hx h=>by
    obtain⟨y,hy⟩:=om.has x hx
    rw[f2 x h] at hy;cases hy
   refine⟨hs2,Dz 10 ?_⟩
   simp[m2,c1,c2,d1,d2]
   refine⟨hs2,Dz 11 ?_⟩
   simp[m2,c1,c2,d1,d2]
   refine⟨hs2.upd hb2 _,Dy ?_⟩
   simp[m2,c1,c2,d1,d2]
   refine fH [.agg [.bool (decide (q.num<0)),vm,w]] (gs++gw) (by simp[c1,d1,m2]) ?_ (fun x hx=> ?_) (hs2.upd hb2 _)
   ·refine Qn.2 ⟨vm,w,gs,gw,rfl,rfl,e4,om.frame fun x hx=> ?_,ow.frame fun x hx=> ?_⟩
    ·simp only[aA];rw[if_neg (e1 x hx).1];exact fr2 x (e4 x hx)
    ·simp only[aA];rw[if_neg (e3 x hx)]
   ·rcases List.mem_append.1 hx with hx | hx
    ·exact(e1 x hx).2
    ·exact aR hs (f2 x hx)
def dT (r:RT) (b:Bool):D:= .t [.a (dR r),.c (.bool b)]
def aYH (s:SP):Option Rat:=if aVM s && !s.nl && !s.nh then op2 (· - ·) (rd s.hi) (rd s.lo) else none
theorem ro_le {x:Option Rat} (h:okQ x):(ro x).m.length≤24∧(ro x).d.length≤24:=by
 cases x with
 | none => simp [ro, rz]
 | some q => exact h q rfl

def fvs (xs:List (Option Rat)):List (List V):=xs.map fun x=> [fv x]
@[simp] theorem aD4 (xs : List (Option Rat)) : (fvs xs).length = xs.length := by simp [fvs]
@[simp] theorem aJX (xs : List (Option Rat)) (i : Nat) (h : i < (fvs xs).length) : (fvs xs)[i] = [fv (xs[i]'(by simpa using h))] := by simp [fvs]
@[simp] theorem aWD (x : Option Rat) : (fv x).cl = true := by cases x <;> rfl
@[simp] theorem aT2 (x : Option Rat) : (fv x).one = true := by cases x <;> rfl
@[simp] theorem aOQ (x : Option Rat) : (fv x).cells = [fv x] := by cases x <;> rfl
theorem aBW (xs:List (Option Rat)):(fvs xs).all (fun r=>r.all V.cl)=true:=by simp[fvs]
def okL (xs:List (Option Rat)):Prop:= ∀x,x∈xs→okQ x
def dL (xs:List (Option Rat)) (b:Bool):D:= .t [fl 1 (fvs xs),.c (.bool b)]
theorem P8 {bl:Int→Option Blk} {d:D} {b:Bool} {v:V} {gs:List Int} :OwnD bl (.t [d,.c (.bool b)]) v gs ↔ ∃w,v= .tup [w,.bool b]∧OwnD bl d w gs:=by
 rw[OwnD]
 constructor
 ·rintro⟨vs,rfl,h⟩
  obtain⟨v,w,g1,g2,rfl,rfl,hd,h1,h2⟩:=gS.1 h
  rw[OwnD] at h2
  obtain⟨rfl,_,rfl⟩:=h2
  exact⟨v,rfl,by simpa using h1⟩
 ·rintro⟨w,rfl,h⟩
  exact⟨_,rfl,gS.2 ⟨w,.bool b,gs,[],rfl,by simp,fun x hx h=>(by cases h),h,D3 b⟩⟩
def lZ (rs:List RT):Bool:=rs.all fun r=>(rd r).isSome
def cO (rs:List RT):List (Option Rat):=rs.map rd
@[simp] theorem Ws (rs : List RT) : (cO rs).length = rs.length := by simp [cO]
theorem Af (rs:List RT):okL (cO rs):=by
 intro x hx
 obtain⟨r,_,rfl⟩:=List.mem_map.1 hx
 exact aD6 r
def Rl (rs:List RT):Bool:=decide (rs.length≤24)&& lZ rs
def cP (xs:List (Option Rat)):Bool:=xs.all Option.isSome
def cJ (xs:List (Option Rat)):List RT:=xs.map ro
@[simp] theorem Xd (xs : List (Option Rat)) : (cJ xs).length = xs.length := by simp [cJ]
def stQ (xs:List (Option Rat)):List RT:=if cP xs=true then cJ xs else []
def dV (rs:List RT) (b:Bool):D:= .t [dRs rs,.c (.bool b)]
theorem aA2 (rs:List RT) (b:Bool) (n:Nat):(dV rs b).dep (n+3):=by
 unfold dV;rw[D.dep];exact⟨by omega,by simp[D.depL,D.dep,Io]⟩
theorem aM1 (rs:List RT) (b:Bool):(dV rs b).fz= .tup [.sl (rv rs),.bool b]:=by simp[dV,D.fz,D.fzL,Ph]
theorem aLK (rs:List RT) (b:Bool):(dV rs b).sc=true:=by simp[dV,D.sc,D.scL,aBL,V.ow]
theorem No {bl:Int→Option Blk} {rs:List RT} {b:Bool} {v:V} {gs:List Int} (h:OwnD bl (dV rs b) v gs): ∃w,v= .tup [w,.bool b]∧OwnD bl (dRs rs) w gs∧w.one=true∧w.cells= [w]:=by
 obtain⟨w,rfl,o⟩:=P8.1 h
 exact⟨w,rfl,o,Xk o⟩
theorem zF {bl:Int→Option Blk} (b:Bool):OwnD bl (dV [] b) (.tup [.nils,.bool b]) []:=P8.2 ⟨.nils,rfl,vZ.2 (.inl ⟨rfl,rfl,rfl⟩)⟩
theorem Kd (xs:List (Option Rat)) (hx:okL xs) (hw:xs.length≤1048576):NW Tryz.prog 73 [.sl (fvs xs)] (dV (stQ xs) (cP xs)):=by
 refine iD Tryz.func73 rfl rfl (by rw[Tryz.ntmps73];simp) fun bl=> ?_
 rw[Tryz.ntmps73,Tryz.results73]
 refine aC ?_
 simp
 refine⟨by omega,by unfold maxLen;omega,fun g hg0 hg=> ?_⟩
 refine aJ (fun p:aU0=> [(4,.lsl g 3 0 xs.length),(10,.sl (fvs xs)),(11,.int .i64 xs.length),(12,.int .i64 p.els.length)]) (fun p=>p.b)
  (fun p=>p.els.length≤xs.length∧(∀x,x∈xs.take p.els.length→x.isSome=true)∧p.b g=some ⟨3,p.els++List.replicate (xs.length - p.els.length) [.bool false,.nils,.nils]⟩∧OwnR p.b 3 (((cJ xs).map dR).take p.els.length) p.els p.gs∧g∉p.gs∧(∀x,x∈p.gs→bl x=none)∧Sub bl p.b)
  (fun p=>xs.length - p.els.length) 26 ⟨[],[],upd bl g (some ⟨3,List.replicate xs.length [.bool false,.nils,.nils]⟩)⟩ ⟨Nat.zero_le _,by simp,by simp,by simp[OwnR],by simp,by simp,by simp[hg]⟩ ⟨rfl,by simp,by simp⟩ ?_
 rintro⟨els,gs,b⟩ ⟨hi,bI,hb,ho,hn,hf,hs⟩
 simp only at hi bI hb ho hn hf hs
 refine aC ?_
 simp
 refine⟨fun h=> ?_,fun h=> ?_⟩
 ·rcases ex:xs[els.length] with _ | q
  ·have hno:cP xs=false:=by
    rw[Bool.eq_false_iff]
    intro hh
    have:=List.all_eq_true.1 hh xs[els.length] (List.getElem_mem h)
    rw[ex] at this;cases this
   have hst:stQ xs= []:=by unfold stQ;rw[hno];rfl
   simp[h,ex,fv]
   rw[hno,hst]
   refine fH [.nils,.bool false] [] (by simp) (zF _) (by simp) hs
  ·simp[h,ex,fv]
   have hq0:okQ (some q):=by rw[←ex];exact hx _ (List.getElem_mem h)
   have Rj:=Qv (some q) hq0
   rw[show fv (some q)= .ptr (rq q).c from rfl] at Rj
   refine cQ Rj fun v gv b' o f fr=> ?_
   rw[OwnD] at o
   obtain⟨vs,rfl,o⟩:=o
   obtain⟨vm,vd,_,_,rfl,_,_,om,od⟩:=vD.1 o
   have c1:=om.one.1
   have d1:=od.one.1
   have hb':b' g=_:=bJ f fr hb
   have hgv:g∉gv:=fun hh=>by have:=f g hh;rw[hb] at this;cases this
   simp[h,hb',Rx els [.bool false,.nils,.nils] xs.length h,c1,d1]
   simp (disch:=omega) [i64_in,aB]
   have gg:=Kl els [.bool false,.nils,.nils] [.bool (ro (some q)).neg,vm,vd] xs.length h
   refine⟨⟨els++ [[.bool (ro (some q)).neg,vm,vd]],gs++gv,upd b' g (some ⟨3,(els++ [[.bool (ro (some q)).neg,vm,vd]])++List.replicate (xs.length - (els++ [[V.bool (ro (some q)).neg,vm,vd]]).length) [.bool false,.nils,.nils]⟩)⟩,⟨by simp;omega,?_,by simp,?_,?_,?_,?_⟩,by simp;omega,rfl,by simp,sub_eq ?_⟩
   ·intro x hx
    simp only[List.length_append,List.length_singleton] at hx
    rw[List.take_add_one,List.getElem?_eq_getElem h] at hx
    rcases List.mem_append.1 hx with hx | hx
    ·exact bI x hx
    ·obtain rfl:x=xs[els.length]:=by simpa using hx
     rw[ex];rfl
   ·have h2:els.length<(cJ xs).length:=by simpa using h
    have ht:((cJ xs).map dR).take (els++ [[V.bool (ro (some q)).neg,vm,vd]]).length=((cJ xs).map dR).take els.length++ [dR (ro (some q))]:=by
     rw[List.length_append,List.length_singleton,List.take_add_one,List.getElem?_map,List.getElem?_eq_getElem h2];simp[cJ,ex]
    simp only
    rw[ht]
    refine OwnR.snoc (o.frame fun x hx=>by simp[show x≠g from fun e=>hgv (e▸hx)]) rfl (by simp[c1,d1]) (ho.cU fun x hx y hy=> ?_) fun x hx hx2=> ?_
    ·rw[aA,if_neg (fun e=>hn (by rw[←e];exact hx))];exact bJ f fr hy
    ·exact ho.not (f x hx2) hx
   ·simp only[List.mem_append];rintro(h | h)
    ·exact hn h
    ·exact hgv h
   ·intro x hx
    rcases List.mem_append.1 hx with hx | hx
    ·exact hf x hx
    ·exact aR hs (f x hx)
   ·exact Qh hg fun x y hy=>bJ f fr (hs x y hy)
   ·exact congrArg (fun e=>upd b' g (some (Blk.mk 3 e))) gg
 ·have hl:els.length=xs.length:=by omega
  have Nz:cP xs=true:=List.all_eq_true.2 fun x hx=>bI x (by rw[hl,List.take_length];exact hx)
  have hst:stQ xs=cJ xs:=by unfold stQ;rw[Nz];rfl
  rw[Nz,hst]
  refine fH [.lsl g 3 0 xs.length,.bool true] (g::gs) (by simp) ?_ (by simpa [hg] using hf) hs
  refine P8.2 ⟨_,rfl,vZ.2 (.inr ⟨g,els,gs,by simp,rfl,hn,?_,by omega,?_⟩)⟩
  ·show b g=_
   rw[hb,hl];simp
  ·rw[hl] at ho
   rw[List.take_of_length_le (by simp)] at ho
   exact ho
theorem Pu {bl:Int→Option Blk} {n:Nat} {x y:V} {b:Bool} (h:frz bl n x=some y):frz bl (n+1) (.tup [x,.bool b])=some (.tup [y,.bool b]):=by
 rw[P1]
 simp only[List.mapM_cons,List.mapM_nil,h,show frz bl n (.bool b)=some (.bool b) by cases n<;>simp[frz]]
 rfl
theorem Za (rs:List RT):(rv rs).all (fun r=>r.all V.cl)=true:=by simp[rv,RT.c,V.cl]
theorem La (a b:List RT):rv (a++b)=rv a++rv b:=by simp[rv]
theorem Xj {zs:List (Option Rat)} (h:okL zs) (hl:zs.length≤1048576):Ee (stQ zs) 1048576∧wZ (stQ zs)≤100000000:=by
 have hle: ∀r,r∈stQ zs→r.m.length≤24∧r.d.length≤24:=by
  intro r hr
  unfold stQ at hr
  split at hr
  ·obtain⟨x,hx,rfl⟩:=List.mem_map.1 hr
   exact ro_le (h x hx)
  ·cases hr
 have hn:(stQ zs).length≤zs.length:=by
  unfold stQ;split
  ·simp
  ·simp
 have hs:wZ (stQ zs)≤48*(stQ zs).length:=by
  generalize stQ zs=rs at hle
  clear hn h hl
  unfold wZ
  induction rs with
  | nil => simp
  | cons r rs ih =>
    rw[List.map_cons,List.sum_cons,List.length_cons]
    have h1:=hle r List.mem_cons_self
    have h2:=ih fun x hx=>hle x (List.mem_cons_of_mem _ hx)
    omega
 exact⟨⟨by omega,fun r hr=>⟨by have:=(hle r hr).1;omega,by have:=(hle r hr).2;omega⟩⟩,by omega⟩
theorem uO :okL [none]:=by
 intro x hx
 obtain rfl:x=none:=by simpa using hx
 intro q h;cases h
end Go.Proofs.YticmgmemnpcbbaaGreat.Vm
