import Derived.Test.YticmgmemnpcbbaaGreatQCFnExactExtremeOf6

namespace Go.Proofs.YticmgmemnpcbbaaGreat.Vm
open Go Go.Proofs
set_option linter.unusedSimpArgs false
set_option linter.unusedVariables false
theorem yA (rs:List RT) (hq:Ee rs 1048576):RO Tryz.prog 211 [.sl (rv rs)] (.bool (lZ rs)):=by
 have hw:=hq.1
 refine aI Tryz.func211 rfl rfl (by rw[Tryz.ntmps211];simp) fun bl=> ?_
 rw[Tryz.ntmps211,Tryz.results211]
 refine aC ?_
 simp
 refine aJ (fun i:Nat=> [(5,.sl (rv rs)),(6,.int .i64 rs.length),(7,.int .i64 i)]) (fun _=>bl) (fun i=>i≤rs.length∧ ∀r,r∈rs.take i→(rd r).isSome=true) (fun i=>rs.length - i) _ 0 ⟨Nat.zero_le _,by simp⟩ ⟨rfl,by simp,Sub.refl _⟩ ?_
 rintro i ⟨hi,bI⟩
 refine aC ?_
 simp
 refine⟨fun h=> ?_,fun h=> ?_⟩
 ·simp[h,RT.c]
  intro g2 hg2 hb2
  have hr:=hq.2 _ (List.getElem_mem h)
  refine aD (eC rs[i] (by have:=hr.1;omega) (by have:=hr.2;omega)) ?_
  simp
  refine⟨fun hok=> ?_,fun hok=> ?_⟩
  ·have hno:lZ rs=false:=by
    rw[Bool.eq_false_iff]
    intro hh
    have:=List.all_eq_true.1 hh rs[i] (List.getElem_mem h)
    rw[Gt] at this;exact hok this
   exact aK [.bool false] 0 (by simp) (by simp[frz,hno]) (by simp[hb2])
  ·simp (disch:=omega) [i64_in,aB]
   refine⟨i+1,⟨by omega,fun r hr=> ?_⟩,by omega,rfl,by simp,by simp[hb2]⟩
   rw[List.take_add_one,List.getElem?_eq_getElem h] at hr
   rcases List.mem_append.1 hr with hr | hr
   ·exact bI r hr
   ·obtain rfl:r=rs[i]:=by simpa using hr
    exact Gt.2 hok
 ·have hi2:i=rs.length:=by omega
  have Nz:lZ rs=true:=List.all_eq_true.2 fun r hr=>bI r (by rw[hi2,List.take_length];exact hr)
  exact aP (by simp[Nz]) rfl rfl
def Ii (s:Str) (q:List RT):Bool:=(sOk s && decide (q.length=s.ms.length))&& lZ q
def Nt (m:Mb) (x:Option Rat):Bool:=(decide (m.kind=1)&& decide (sgq x<0))|| (decide (m.kind=2)&& decide (0<sgq x))
def aT1 (ms:List Mb) (q:List RT) (n:Nat):Prop:= ∀k (h1:k<ms.length) (h2:k<q.length),k<n→Nt ms[k] (rd q[k])=false
def aWS (s:Str) (q:List RT):Bool:=Ii s q && (List.zip s.ms q).all fun p=> !Nt p.1 (rd p.2)

def pTo (e:Mb→Int) (s:Str) (q:List (Option Rat)) (j:Int):Nat→Option Rat
 | 0 => some 0
 | n + 1 => if j = (mat s n).a ∨ j = (mat s n).b then op2 (· + ·) (pTo e s q j n) (op2 (· * ·) (q.getD n none) (some (e (mat s n) : Rat))) else pTo e s q j n
def pX (s:Str) (q:List (Option Rat)) (j:Int):Option Rat:=pTo (eqX s j) s q j s.ms.length
def pY (s:Str) (q:List (Option Rat)) (j:Int):Option Rat:=pTo (eqY s j) s q j s.ms.length
theorem Jx :((0:Int):Rat)=0:=rfl

def aC6 (s:Str) (q:List RT) (j:Int):Bool:=Ii s q && (decide (0≤j)&& decide (j<s.js.length))
def pqs (s:Str) (q:List RT) (j:Int):List (Option Rat):=if aC6 s q j=true then [pX s (cO q) j,pY s (cO q) j] else [none]
theorem aUP (x y:Option Rat) (hx:okQ x) (hy:okQ y):RO Tryz.prog 137 [.agg (ro x).c,.agg (ro y).c] (.agg (ro (op2 (· + ·) x y)).c):=by
 have h1:=ro_le hx
 have h2:=ro_le hy
 have:=Mp (ro x) (ro y) ⟨by omega,by omega⟩ ⟨by omega,by omega⟩
 rwa [G8 hx,G8 hy] at this

def lN (l:List Int) (k:Nat):Int:=l.getD k 0
def fX (s:Str) (l:List Int) (q:List (Option Rat)) (i:Nat):Option Rat:=op2 (· + ·) (pX s q i) (some (lN l (2*i):Rat))
def fY (s:Str) (l:List Int) (q:List (Option Rat)) (i:Nat):Option Rat:=op2 (· + ·) (pY s q i) (some (lN l (2*i+1):Rat))
def isZ (x:Option Rat):Bool:=x.isSome && decide (sgq x=0)
def aU9 (s:Str) (l:List Int) (q:List (Option Rat)) (i:Nat):Bool:=isZ (fX s l q i)&& isZ (fY s l q i)
def aWB (s:Str) (l:List Int) (q:List RT):Bool:=(Ii s q && mR s.js l)&& (aQ s.js).all fun j=>aU9 s l (cO q) j.toNat
def aXH (s:Str) (l:List Int) (q:List RT) (i:Nat):List RT:=if cP [pX s (cO q) i,pY s (cO q) i]=true then [ro (fX s l (cO q) i),ro (fY s l (cO q) i)] else []
def aWW (s:Str) (l:List Int) (q:List RT) (i:Nat):Bool:=cP [fX s l (cO q) i,fY s l (cO q) i]

theorem aBM (x:Option Rat):RO Tryz.prog 103 [fv x] (fv (x.map (- ·))):=by
 cases x with
 | none =>
   refine aI Tryz.func103 rfl rfl (by rw[Tryz.ntmps103];simp) fun bl=> ?_
   rw[Tryz.ntmps103,Tryz.results103]
   refine aC ?_
   simp[fv]
   exact aP (by simp) rfl rfl
 | some q =>
   have hop:=mS q.num
   rw[bQ,bQ,Int.natAbs_neg] at hop
   refine aI Tryz.func103 rfl rfl (by rw[Tryz.ntmps103];simp) fun bl=> ?_
   rw[Tryz.ntmps103,Tryz.results103]
   refine aC ?_
   rw[show fv (some q)= .ptr (rq q).c from rfl,gW,show fv ((some q).map (- ·))= .ptr [.bool (decide (-q.num<0)),.sl (iv (lim q.num.natAbs)),.sl (iv (lim q.den))] by
    show V.ptr (rq (-q)).c=_
    rw[gW]
    show V.ptr [.bool (decide (-q.num<0)),.sl (iv (lim (-q.num).natAbs)),.sl (iv (lim q.den))]=_
    rw[Int.natAbs_neg]]
   simp
   refine aY aM bl (Sub.refl _) [0,1,2,3,4,5,6,7,8] 3 (by kernel_rfl) ?_
   simp
   refine aO hop ?_
   simp
   refine Dz 9 ?_
   simp
   refine Dz 10 ?_
   simp
   intro g hg0 hg
   refine⟨by simp[hg],Dz 11 ?_⟩
   simp
   refine⟨by simp[hg],Dy ?_⟩
   simp
   refine aK [.loc g 3 0 0] 1 (by simp) ?_ (by simp[hg])
   show frz _ 1 (.loc g 3 0 0)=_
   rw[rA (e:= [.bool (decide (0<q.num)),.sl (iv (lim q.num.natAbs)),.sl (iv (lim q.den))]) (by simp[dropB,hg])]
   rfl
def aUC (s:Str) (l:List Int) (q:List RT) (j:Int):Bool:=(Ii s q && mR s.js l)&& ((decide (0≤j)&& decide (j<s.js.length))&& (s.js.getD j.toNat default).fixed)
def aXR (s:Str) (l:List Int) (q:List RT) (j:Int):List (Option Rat):=if aUC s l q j=true then [(fX s l (cO q) j.toNat).map (- ·),(fY s l (cO q) j.toNat).map (- ·)] else [none]

def idx (js:List J) (i:Nat):Nat:=(bZ js i).length
def fxd (js:List J) (i:Nat):Bool:=(js.getD i default).fixed
def dAt (js:List J) (d:List (Option Rat)) (t p:Nat):Option Rat:=if fxd js (p / 2)=true then some 0 else if idx js (p / 2)<t then d.getD (2*idx js (p / 2)+p % 2) none else some 0
def dsp (js:List J) (d:List (Option Rat)) (t:Nat):List (Option Rat):=(List.range (2*js.length)).map (dAt js d t)
def aYD (js:List J) (d:List (Option Rat)):List (Option Rat):=dsp js d (aQ js).length
def dX (js:List J) (d:List (Option Rat)) (i:Nat):Option Rat:=if fxd js i=true then some 0 else d.getD (2*idx js i) none
def dY (js:List J) (d:List (Option Rat)) (i:Nat):Option Rat:=if fxd js i=true then some 0 else d.getD (2*idx js i+1) none
theorem tR {d:List (Option Rat)} (hd:okL d) (i:Nat):okQ (d.getD i none):=by
 rcases Nat.lt_or_ge i d.length with h | h
 ·rw[gY _ _ _ h];exact hd _ (List.getElem_mem h)
 ·rw[List.getD_eq_getElem?_getD,List.getElem?_eq_none h];exact fun _ e=>by cases e
theorem Qx :okQ (some 0):=fun x h=>by cases h;exact Ll
def Zt (s:Str) (d:List RT):Bool:=(sOk s && decide (d.length=2*(aQ s.js).length))&& lZ d

def vsg (p:Int) (x:Option Rat):Option Rat:=if p<0 then x.map (- ·) else x
def stI (acc:List (Option Rat)) (p:Int×Int) (x:Option Rat):List (Option Rat):=
 acc.set p.1.toNat (if(acc.getD p.1.toNat none).isSome=true then op2 (· + ·) (acc.getD p.1.toNat none) (vsg p.2 x) else vsg p.2 x)
def stS (acc:List (Option Rat)) (p:Int×Int) (x:Option Rat):List (Option Rat):=
 acc.set p.1.toNat (if 0<p.2 then op2 (· + ·) (acc.getD p.1.toNat none) x else op2 (· - ·) (acc.getD p.1.toNat none) x)
def hH (ms:List Mb) (d:List (Option Rat)) (t:Nat):List (Option Rat):=(List.range t).foldl (fun acc j=>stI acc ((aS ms).getD j (0,0)) (d.getD j none)) (List.replicate ms.length none)
def jX (ms:List Mb) (d:List (Option Rat)) (t:Nat):List (Option Rat):=(List.range t).foldl (fun acc j=>stS acc ((aS ms).getD j (0,0)) (d.getD j none)) (List.replicate ms.length (some 0))
theorem kK (ms:List Mb) (d:List (Option Rat)) (t:Nat):hH ms d (t+1)=stI (hH ms d t) ((aS ms).getD t (0,0)) (d.getD t none):=by
 unfold hH;rw[List.range_succ,List.foldl_append];rfl
theorem kG (ms:List Mb) (d:List (Option Rat)) (t:Nat):jX ms d (t+1)=stS (jX ms d t) ((aS ms).getD t (0,0)) (d.getD t none):=by
 unfold jX;rw[List.range_succ,List.foldl_append];rfl
theorem fA (ms:List Mb) (d:List (Option Rat)): ∀t,(hH ms d t).length=ms.length
 | 0 => by simp [hH]
 | t + 1 => by rw [kK, stI, List.length_set, fA ms d t]
theorem mU (ms:List Mb) (d:List (Option Rat)): ∀t,(jX ms d t).length=ms.length
 | 0 => by simp [jX]
 | t + 1 => by rw [kG, stS, List.length_set, mU ms d t]
theorem Mu :okQ none:=fun _ e=>by cases e
theorem aAT {p:Int} {x:Option Rat} (h:okQ x):okQ (vsg p x):=by
 unfold vsg;split
 ·exact pS h
 ·exact h
theorem Hv {xs:List (Option Rat)} (h:okL xs) (i:Nat) {x:Option Rat} (hx:okQ x):okL (xs.set i x):=fun y hy=>by
 rcases List.mem_or_eq_of_mem_set hy with h1 | h1
 ·exact h y h1
 ·rw[h1];exact hx
theorem zI (ms:List Mb) {d:List (Option Rat)} (hd:okL d): ∀t,okL (hH ms d t)
 | 0 => fun y hy => by
   have:y∈List.replicate ms.length (none:Option Rat):=hy
   rw[List.mem_replicate] at this
   rw[this.2];exact Mu
 | t + 1 => by
   rw[kK,stI]
   refine Hv (zI ms hd t) _ ?_
   split
   ·exact U0 _ _ _
   ·exact aAT (tR hd _)
theorem Iw (ms:List Mb) (d:List (Option Rat)): ∀t,okL (jX ms d t)
 | 0 => fun y hy => by
   have:y∈List.replicate ms.length (some 0:Option Rat):=hy
   rw[List.mem_replicate] at this
   rw[this.2];exact Qx
 | t + 1 => by
   rw[kG,stS]
   refine Hv (Iw ms d t) _ ?_
   split
   ·exact U0 _ _ _
   ·exact U0 _ _ _
theorem Im {ms:List Mb} {p:Int×Int} : ∀n,n≤ms.length→p∈aT ms n→ ∃k:Nat,p.1=k∧k<ms.length∧(p.2=1∨p.2= -1):=by
 intro n
 induction n with
 | zero => intro _ h; simp [aT] at h
 | succ n ih =>
   intro hn h
   rw[jI] at h
   rcases List.mem_append.1 h with h | h
   ·exact ih (by omega) h
   ·refine⟨n,?_⟩
    unfold oC at h
    rcases List.mem_append.1 h with h | h
    ·split at h
     ·cases h
     ·obtain rfl:p=_:=by simpa using h
      exact⟨rfl,by omega,.inl rfl⟩
    ·split at h
     ·cases h
     ·obtain rfl:p=_:=by simpa using h
      exact⟨rfl,by omega,.inr rfl⟩
theorem Dp (ms:List Mb) (n:Nat) (j:Nat) (hj:j<(aT ms n).length): ∀N,n≤N→(aT ms N).getD j (0,0)=(aT ms n).getD j (0,0)∧(aT ms n).length≤(aT ms N).length:=by
 intro N hN
 induction N with
 | zero => obtain rfl : n = 0 := by omega
           exact⟨rfl,Nat.le_refl _⟩
 | succ N ih =>
   rcases Nat.lt_or_ge n (N+1) with h | h
   ·obtain⟨h1,h2⟩:=ih (by omega)
    rw[jI]
    refine⟨?_,by rw[List.length_append];omega⟩
    rw[←h1,List.getD_eq_getElem?_getD,List.getElem?_append_left (by omega)]
    exact(List.getD_eq_getElem?_getD ..).symm
   ·obtain rfl:n=N+1:=by omega
    exact⟨rfl,Nat.le_refl _⟩
theorem fQ {xs:List (Option Rat)} {i:Nat} (h:i<xs.length) (x:Option Rat):(xs.set i x).getD i none=x:=by
 rw[List.getD_eq_getElem?_getD,List.getElem?_set_self h];rfl
theorem getD_set_ne {xs:List (Option Rat)} {i k:Nat} (h:i≠k) (x:Option Rat):(xs.set i x).getD k none=xs.getD k none:=by
 rw[List.getD_eq_getElem?_getD,List.getElem?_set_ne h,List.getD_eq_getElem?_getD]
theorem uS {x:Option Rat} (h:okQ x):op2 (· + ·) (some 0) x=x:=by
 cases x with
 | none => rfl
 | some q =>
   show fit (0+q)=some q
   rw[Rat.zero_add];unfold fit;rw[if_pos (h q rfl)]
theorem V4 {x:Option Rat} (h:okQ x):op2 (· - ·) (some 0) x=x.map (- ·):=by
 have hn:=pS h
 cases x with
 | none => rfl
 | some q =>
   show fit (0 - q)=some (-q)
   rw[Rat.sub_eq_add_neg,Rat.zero_add];unfold fit;rw[if_pos (hn (-q) rfl)]
theorem X8 (x y:Option Rat):op2 (· + ·) x (y.map (- ·))=op2 (· - ·) x y:=by
 cases x with
 | none => rfl
 | some a =>
   cases y with
   | none=>rfl
   | some b=>show fit (a+ -b)=fit (a - b);rw[Rat.sub_eq_add_neg]
def wQ (ms:List Mb) (A B:List (Option Rat)) (n:Nat):Prop:= ∀k,k<ms.length→(k<n→A.getD k none=B.getD k none)∧(n≤k→A.getD k none=none∧B.getD k none=some 0)
theorem Oe (ms:List Mb) (d:List (Option Rat)) (hd:okL d) (hs: ∀j,j<(aS ms).length→(d.getD j none).isSome=true) (hk: ∀m,m∈ms→1≤m.kind∧m.kind≤3): ∀n,n≤ms.length→wQ ms (hH ms d (aT ms n).length) (jX ms d (aT ms n).length) n:=by
 intro n
 induction n with
 | zero =>
   intro _ k hk
   refine⟨fun h=>by omega,fun _=> ?_⟩
   simp[aT,hH,jX,hk]
 | succ n ih =>
   intro hn
   have H:=ih (by omega)
   have hA:=fA ms d (aT ms n).length
   have hB:=mU ms d (aT ms n).length
   have hmn:ms.getD n default=ms[n]:=gY _ _ _ (by omega)
   have hkk:=hk _ (List.getElem_mem (show n<ms.length by omega))
   have hcs:=jI ms n
   rw[hmn] at hcs
   have U5: ∀i,i<(oC ms[n] n).length→(aS ms).getD ((aT ms n).length+i) (0,0)=(oC ms[n] n).getD i (0,0)∧(aT ms n).length+i<(aS ms).length:=by
    intro i hi
    have h1:=Dp ms (n+1) ((aT ms n).length+i) (by rw[hcs,List.length_append];omega) ms.length (by omega)
    refine⟨?_,?_⟩
    ·rw[show aS ms=aT ms ms.length from rfl,h1.1,hcs,List.getD_eq_getElem?_getD,List.getD_eq_getElem?_getD,List.getElem?_append_right (by omega)]
     simp
    ·have h2:=h1.2
     rw[hcs,List.length_append] at h2
     show _<(aT ms ms.length).length
     omega
   clear ih
   obtain⟨L,hL⟩: ∃L,(aT ms n).length=L:=⟨_,rfl⟩
   rw[hL] at hA hB H U5
   have hAn:=(H n (by omega)).2 (Nat.le_refl _)
   have one: ∀A B:List (Option Rat),∀x,A.length=ms.length→B.length=ms.length→(∀k,k<ms.length→k≠n→A.getD k none=(hH ms d L).getD k none∧B.getD k none=(jX ms d L).getD k none)→A.getD n none=x→B.getD n none=x→wQ ms A B (n+1):=by
    intro A B x lA lB hne hx hy k hk
    by_cases e:k=n
    ·subst e
     exact⟨fun _=>by rw[hx,hy],fun h=>by omega⟩
    ·obtain⟨e1,e2⟩:=hne k hk e
     have:=H k hk
     rw[e1,e2]
     exact⟨fun h=>this.1 (by omega),fun h=>this.2 (by omega)⟩
   rw[hcs,List.length_append,hL]
   by_cases k1:ms[n].kind=1
   ·have ec:oC ms[n] n= [((n:Int),1)]:=by unfold oC;rw[k1];rfl
    have g0:=U5 0 (by rw[ec];simp)
    rw[ec] at g0 ⊢
    have s0:=hs _ g0.2
    have o0:=tR hd (L+0)
    simp only[Nat.add_zero] at g0 s0 o0
    show wQ ms (hH ms d (L+1)) (jX ms d (L+1)) (n+1)
    rw[kK,kG,g0.1]
    generalize d.getD L none=x at *
    refine one _ _ x (by simp[stI,hA]) (by simp[stS,hB]) (fun k _ hk=> ?_) ?_ ?_
    ·unfold stI stS;simp only[List.getD_cons_zero,Int.toNat_natCast]
     rw[getD_set_ne (Ne.symm hk),getD_set_ne (Ne.symm hk)];exact⟨rfl,rfl⟩
    ·unfold stI;simp only[List.getD_cons_zero,Int.toNat_natCast]
     rw[fQ (by omega),hAn.1];rfl
    ·unfold stS;simp only[List.getD_cons_zero,Int.toNat_natCast]
     rw[fQ (by omega),hAn.2,if_pos (by omega)];exact uS o0
   by_cases k2:ms[n].kind=2
   ·have ec:oC ms[n] n= [((n:Int), -1)]:=by unfold oC;rw[k2];rfl
    have g0:=U5 0 (by rw[ec];simp)
    rw[ec] at g0 ⊢
    have s0:=hs _ g0.2
    have o0:=tR hd (L+0)
    simp only[Nat.add_zero] at g0 s0 o0
    show wQ ms (hH ms d (L+1)) (jX ms d (L+1)) (n+1)
    rw[kK,kG,g0.1]
    generalize d.getD L none=x at *
    refine one _ _ (x.map (- ·)) (by simp[stI,hA]) (by simp[stS,hB]) (fun k _ hk=> ?_) ?_ ?_
    ·unfold stI stS;simp only[List.getD_cons_zero,Int.toNat_natCast]
     rw[getD_set_ne (Ne.symm hk),getD_set_ne (Ne.symm hk)];exact⟨rfl,rfl⟩
    ·unfold stI;simp only[List.getD_cons_zero,Int.toNat_natCast]
     rw[fQ (by omega),hAn.1];rfl
    ·unfold stS;simp only[List.getD_cons_zero,Int.toNat_natCast]
     rw[fQ (by omega),hAn.2,if_neg (by omega)];exact V4 o0
   have ec:oC ms[n] n= [((n:Int),1),((n:Int), -1)]:=by unfold oC;rw[if_neg k2,if_neg k1];rfl
   have g0:=U5 0 (by rw[ec];simp)
   have g1:=U5 1 (by rw[ec];simp)
   rw[ec] at g0 g1 ⊢
   have s0:=hs _ g0.2
   have s1:=hs _ g1.2
   have o0:=tR hd (L+0)
   have o1:=tR hd (L+1)
   simp only[Nat.add_zero] at g0 s0 o0
   show wQ ms (hH ms d (L+1+1)) (jX ms d (L+1+1)) (n+1)
   rw[kK,kG,kK,kG,g0.1,g1.1]
   generalize d.getD L none=x at *
   generalize d.getD (L+1) none=y at *
   have eI:(stI (hH ms d L) ((n:Int),1) x).getD n none=x:=by
    unfold stI;simp only[Int.toNat_natCast]
    rw[fQ (by omega),hAn.1];rfl
   have eS:(stS (jX ms d L) ((n:Int),1) x).getD n none=x:=by
    unfold stS;simp only[Int.toNat_natCast]
    rw[fQ (by omega),hAn.2,if_pos (by omega)];exact uS o0
   have lI:(stI (hH ms d L) ((n:Int),1) x).length=ms.length:=by simp[stI,hA]
   have lS:(stS (jX ms d L) ((n:Int),1) x).length=ms.length:=by simp[stS,hB]
   refine one _ _ (op2 (· - ·) x y) (by simp[stI,hA]) (by simp[stS,hB]) (fun k _ hk=> ?_) ?_ ?_
   ·unfold stI stS;simp only[List.getD_cons_zero,List.getD_cons_succ,Int.toNat_natCast]
    rw[getD_set_ne (Ne.symm hk),getD_set_ne (Ne.symm hk),getD_set_ne (Ne.symm hk),getD_set_ne (Ne.symm hk)];exact⟨rfl,rfl⟩
   ·show(stI (stI (hH ms d L) ((n:Int),1) x) ((n:Int), -1) y).getD n none=_
    generalize stI (hH ms d L) ((n:Int),1) x=A1 at *
    unfold stI;simp only[Int.toNat_natCast]
    rw[fQ (by omega),eI,if_pos s0,vsg,if_pos (by omega)];exact X8 x y
   ·show(stS (stS (jX ms d L) ((n:Int),1) x) ((n:Int), -1) y).getD n none=_
    generalize stS (jX ms d L) ((n:Int),1) x=B1 at *
    unfold stS;simp only[Int.toNat_natCast]
    rw[fQ (by omega),eS,if_neg (by omega)]
theorem run_eq (ms:List Mb) (d:List (Option Rat)) (hd:okL d) (hs: ∀j,j<(aS ms).length→(d.getD j none).isSome=true) (hk: ∀m,m∈ms→1≤m.kind∧m.kind≤3):hH ms d (aS ms).length=jX ms d (aS ms).length:=by
 have H:=Oe ms d hd hs hk ms.length (Nat.le_refl _)
 change wQ ms (hH ms d (aS ms).length) (jX ms d (aS ms).length) ms.length at H
 apply List.ext_getElem (by rw[fA,mU])
 intro k h1 h2
 have h3:=(H k (by rwa [fA] at h1)).1 (by rwa [fA] at h1)
 rw[gY _ _ _ h1,gY _ _ _ h2] at h3
 exact h3

end Go.Proofs.YticmgmemnpcbbaaGreat.Vm

namespace Go.Proofs.YticmgmemnpcbbaaGreat.Vm
open Go Go.Proofs
set_option linter.unusedSimpArgs false
set_option linter.unusedVariables false
def apX (s:Str) (d:List (Option Rat)) (m:Mb):Option Rat:=op2 (· - ·) (dX s.js d m.b.toNat) (dX s.js d m.a.toNat)
def apY (s:Str) (d:List (Option Rat)) (m:Mb):Option Rat:=op2 (· - ·) (dY s.js d m.b.toNat) (dY s.js d m.a.toNat)
def aDN (s:Str) (d:List (Option Rat)) (k:Nat):Option Rat:=op2 (· + ·) (op2 (· * ·) (some (vx s (mat s k):Rat)) (apX s d (mat s k))) (op2 (· * ·) (some (vy s (mat s k):Rat)) (apY s d (mat s k)))
def aLY (s:Str) (k:Int) (d:List RT):Bool:=Zt s d && (decide (0≤k)&& decide (k<s.ms.length))
def aXK (s:Str) (k:Int) (d:List RT):Option Rat:=if aLY s k d=true then aDN s (cO d) k.toNat else none

def aWC (rs:List RT):Bool:=rs.all fun r=> !decide (r.d= [])
def aD0 (a b:List RT):Bool:=(Rl a && Rl b)&& decide (a.length=b.length)
def aWH (a b:List RT):List (Option Rat):=if aD0 a b=true then List.zipWith (op2 (· + ·)) (cO a) (cO b) else [none]
theorem Sk {rs:List RT} (h:lZ rs=true) (i:Nat) (hi:i<rs.length): ∃q,rd rs[i]=some q∧rs[i]=ro (some q)∧okQ (some q):=by
 have:=List.all_eq_true.1 h rs[i] (List.getElem_mem hi)
 obtain⟨q,hq⟩:=Option.isSome_iff_exists.1 this
 obtain⟨h1,h2⟩:=rd_some hq
 exact⟨q,hq,h1,fun x hx=>by cases hx;exact h2⟩
def aV7 (r:RT) (q:List RT):List (Option Rat):=if(r.ok∧Rl q=true) then(cO q).map (op2 (· * ·) (rd r)) else [none]

def atW (s:Str) (i:Nat):Int:=if fxd s.js i=true then -1 else(idx s.js i:Int)
theorem aLR {rs:List RT} (h:lZ rs=true) (i:Nat) (hi:i<rs.length):ro (rd rs[i])=rs[i]:=by
 obtain⟨q,e1,e2,_⟩:=Sk h i hi
 rw[e1];exact e2.symm

theorem aUX (x y:Option Rat) (hx:okQ x) (hy:okQ y):RO Tryz.prog 139 [.agg (ro x).c,.agg (ro y).c] (.agg (ro (op2 (· - ·) x y)).c):=by
 have h1:=ro_le hx
 have h2:=ro_le hy
 have:=Jg (ro x) (ro y) ⟨by omega,by omega⟩ ⟨by omega,by omega⟩
 rwa [G8 hx,G8 hy] at this
def aUH (bl:Int→Option Blk) (g6:Int) (p:Int×Int):Prop:=0≤p.1∧0≤p.2∧ ¬ p.1=p.2∧ ¬ p.1=g6∧ ¬ p.2=g6∧bl p.1=none∧bl p.2=none

def Ni (m:Mb) (x:Option Rat):Bool:=(!x.isSome || (decide (m.kind≠2)&& decide (0<sgq x)))|| (decide (m.kind≠1)&& decide (sgq x<0))
def aC9 (s:Str) (d:List (Option Rat)):Bool:=(List.range s.ms.length).all fun k=> !Ni (mat s k) (aDN s d k)
def aUS (s:Str) (d:List (Option Rat)) (n:Nat):Prop:= ∀k:Nat,k<n→Ni (mat s k) (aDN s d k)=false
def wkTo (s:Str) (l:List Int) (d:List (Option Rat)):Nat→Option Rat
 | 0 => some 0
 | t + 1 => op2 (· + ·) (op2 (· + ·) (wkTo s l d t) (op2 (· * ·) (some (lN l (2 * ((aQ s.js).getD t 0).toNat) : Rat)) (d.getD (2 * t) none))) (op2 (· * ·) (some (lN l (2 * ((aQ s.js).getD t 0).toNat + 1) : Rat)) (d.getD (2 * t + 1) none))
def wkW (s:Str) (l:List Int) (d:List (Option Rat)):Option Rat:=wkTo s l d (aQ s.js).length
def aYO (s:Str) (l:List Int) (d:List RT):Bool:=(Zt s d && mR s.js l)&& (aC9 s (cO d)&& decide (0<sgq (wkW s l (cO d))))

theorem zB (cs:List (Int×Int)) (i:Nat) (h:i<(cv cs).length):(cv cs)[i]= [.int .i64 (cs[i]'(by simpa using h)).1,.int .i64 (cs[i]'(by simpa using h)).2]:=by simp[cv]
theorem zH (xs:List (Option Rat)) (i:Nat) (x:Option Rat):(fvs xs).set i [fv x]=fvs (xs.set i x):=by simp[fvs,List.map_set]
theorem Xl (s:Str) (D:List (Option Rat)) (hm:s.ms.length≤8) (hD:okL D) (hl:D.length=(aS s.ms).length):RO Tryz.prog 147 [.ptr s.c,.sl (fvs D)] (.sl (fvs (hH s.ms D (aS s.ms).length))):=by
 have hcl:=jJ s.ms s.ms.length
 change(aS s.ms).length≤2*s.ms.length at hcl
 refine aI Tryz.func147 rfl rfl (by rw[Tryz.ntmps147];simp) fun bl=> ?_
 rw[Tryz.ntmps147,Tryz.results147]
 refine aC ?_
 simp[Str.c]
 refine⟨by omega,by unfold maxLen;omega,fun g hg0 hg=> ?_⟩
 refine aD (pQ s hm) ?_
 simp
 refine aJ (fun j:Nat=> [(1,.sl (fvs D)),(5,.lsl g 1 0 s.ms.length),(16,.sl (cv (aS s.ms))),(17,.int .i64 (aS s.ms).length),(18,.int .i64 j)]) (fun j=>upd bl g (some ⟨1,fvs (hH s.ms D j)⟩)) (fun j=>j≤(aS s.ms).length) (fun j=>(aS s.ms).length - j) _ 0 (Nat.zero_le _) ⟨rfl,by simp,sub_eq (by simp[hH,fvs,fv])⟩ ?_
 intro j hj
 have wj:IntKind.i64.wrap ((j:Int)+1)=(j:Int)+1:=i64_in (by omega) (by omega)
 refine aC ?_
 simp
 refine⟨fun h=> ?_,fun h=> ?_⟩
 ·have tM:(aS s.ms)[j]∈aS s.ms:=List.getElem_mem h
  obtain⟨k,e1,hk,hsg⟩:=Im s.ms.length (Nat.le_refl _) tM
  have h2:j<D.length:=by omega
  have hrl:=fA s.ms D j
  have hkA:k<(hH s.ms D j).length:=by omega
  have oj:=hD _ (List.getElem_mem h2)
  have okk:=zI s.ms hD j _ (List.getElem_mem hkA)
  have hst:=kK s.ms D j
  rw[gY _ _ _ h,gY _ _ _ h2,stI,e1,Int.toNat_natCast,gY _ _ _ hkA] at hst
  have hns:=aBM D[j]
  have hA1:=Oa (hH s.ms D j)[k] D[j] okk oj
  have hA2:=Oa (hH s.ms D j)[k] (D[j].map (- ·)) okk (pS oj)
  rcases hsg with e2 | e2
  ·rcases eA:(hH s.ms D j)[k] with _ | a
   ·rw[eA,if_neg (by simp),e2,vsg,if_neg (by omega)] at hst
    simp[h,zB,e1,e2]
    intro g7 hg7 h7g hb7
    simp[h7g,Ne.symm h7g,h2]
    simp[h7g,Ne.symm h7g,hrl,hk,hkA,eA,show fv none= .nilp from rfl,show∀a,fv (some a)= .ptr (rq a).c from fun _=>rfl]
    simp[wj,aB,zH]
    exact⟨j+1,by omega,by omega,rfl,by simp,by rw[hst];intro z b hz;simp only[aA] at hz ⊢;grind⟩
   ·rw[eA,if_pos (by rfl),←eA,e2,vsg,if_neg (by omega)] at hst
    simp[h,zB,e1,e2]
    intro g7 hg7 h7g hb7
    simp[h7g,Ne.symm h7g,h2]
    simp[h7g,Ne.symm h7g,hrl,hk,hkA,eA,show fv none= .nilp from rfl,show∀a,fv (some a)= .ptr (rq a).c from fun _=>rfl]
    refine dK aM [0,1,2,3,4,5,6,7,8,9,10] 1 11 (by kernel_rfl) ?_
    simp[h7g,Ne.symm h7g,hrl,hk,hkA]
    refine aO hA1 ?_
    simp[h7g,Ne.symm h7g,hrl,hk,hkA]
    refine dM (i:=11) (by kernel_rfl) rfl rfl rfl ?_
    simp[h7g,Ne.symm h7g,hrl,hk,hkA]
    refine Dy ?_
    try simp
    simp[wj,aB,zH]
    exact⟨j+1,by omega,by omega,rfl,by simp,by rw[hst];intro z b hz;simp only[aA] at hz ⊢;grind⟩
  ·rcases eA:(hH s.ms D j)[k] with _ | a
   ·rw[eA,if_neg (by simp),e2,vsg,if_pos (by omega)] at hst
    simp[h,zB,e1,e2]
    intro g7 hg7 h7g hb7
    simp[h7g,Ne.symm h7g,h2]
    refine aD hns ?_
    simp[h7g,Ne.symm h7g,h2]
    simp[h7g,Ne.symm h7g,hrl,hk,hkA,eA,show fv none= .nilp from rfl,show∀a,fv (some a)= .ptr (rq a).c from fun _=>rfl]
    simp[wj,aB,zH]
    exact⟨j+1,by omega,by omega,rfl,by simp,by rw[hst];intro z b hz;simp only[aA] at hz ⊢;grind⟩
   ·rw[eA,if_pos (by rfl),←eA,e2,vsg,if_pos (by omega)] at hst
    simp[h,zB,e1,e2]
    intro g7 hg7 h7g hb7
    simp[h7g,Ne.symm h7g,h2]
    refine aD hns ?_
    simp[h7g,Ne.symm h7g,h2]
    simp[h7g,Ne.symm h7g,hrl,hk,hkA,eA,show fv none= .nilp from rfl,show∀a,fv (some a)= .ptr (rq a).c from fun _=>rfl]
    refine dK aM [0,1,2,3,4,5,6,7,8,9,10] 1 11 (by kernel_rfl) ?_
    simp[h7g,Ne.symm h7g,hrl,hk,hkA]
    refine aO hA2 ?_
    simp[h7g,Ne.symm h7g,hrl,hk,hkA]
    refine dM (i:=11) (by kernel_rfl) rfl rfl rfl ?_
    simp[h7g,Ne.symm h7g,hrl,hk,hkA]
    refine Dy ?_
    try simp
    simp[wj,aB,zH]
    exact⟨j+1,by omega,by omega,rfl,by simp,by rw[hst];intro z b hz;simp only[aA] at hz ⊢;grind⟩
 ·have hj2:j=(aS s.ms).length:=by omega
  subst hj2
  have hrl:=fA s.ms D (aS s.ms).length
  exact aK [.lsl g 1 0 s.ms.length] 1 (by simp) (dD (sz:=1) (n:=s.ms.length) hg0 hg (els:=fvs (hH s.ms D (aS s.ms).length)) (by simp) (by simpa using hrl) (aBW _)) (by simp[hg])
def sD (s:Str) (d:List RT):Bool:=sOk s && (decide (d.length=(aS s.ms).length)&& lZ d)
def uU (s:Str) (d:List RT):List (Option Rat):=if sD s d=true then hH s.ms (cO d) (aS s.ms).length else [none]
theorem Ad {s:Str} {d:List RT} (h:sD s d=true):SOk s∧d.length=(aS s.ms).length∧lZ d=true:=by
 unfold sD at h
 simp only[Bool.and_eq_true,decide_eq_true_eq] at h
 exact⟨R1 h.1,h.2.1,h.2.2⟩
theorem R6 (s:Str) (d:List RT):okL (uU s d)∧(uU s d).length≤24:=by
 unfold uU;split
 ·rename_i h
  obtain⟨hs,_,_⟩:=Ad h
  have:=hs.nm
  exact⟨zI s.ms (Af d) _,by rw[fA];omega⟩
 ·exact⟨uO,by simp⟩
theorem Fz :RO Tryz.prog 283 [] (.agg (ro (some 0)).c):=by
 have w0:=dZ 0 (by omega)
 rw[Jx] at w0
 refine aI Tryz.func283 rfl rfl (by rw[Tryz.ntmps283];simp) fun bl=> ?_
 rw[Tryz.ntmps283,Tryz.results283]
 refine aC ?_
 generalize ro (some 0)=z at *
 simp
 intro g hg0 hg
 refine aD w0 ?_
 simp[RT.c]
 exact aK [.agg z.c] 1 (by simp[RT.c]) (by simp[frz,RT.c,V.cl]) (by simp[hg])
theorem Da (rs:List RT):(rv rs).take rs.length=rv rs:=by rw[←Mi rs,List.take_length]
theorem Ux (rs:List RT): ∀r,r∈rv rs→r.length=3:=fun r hr=>by
 obtain⟨x,_,rfl⟩:=List.mem_map.1 hr;rfl
theorem Hd {bl:Int→Option Blk} {rs:List RT} {v:V} {gs:List Int} :OwnD bl (fl 3 (rv rs)) v gs ↔ (rs= []∧v= .nils∧gs= [])∨ ∃g,v= .lsl g 3 0 rs.length∧gs= [g]∧bl g=some ⟨3,rv rs⟩∧(g<0→rs= []):=by
 rw[tG (Za rs) (Ux rs)]
 simp[rv]
def kZ (n:Nat):List RT:=List.replicate n (ro (some 0))
theorem Dx (n:Nat):kZ (n+1)=kZ n++ [ro (some 0)]:=by unfold kZ;rw[List.replicate_succ']
@[simp] theorem lH (n : Nat) : (kZ n).length = n := by simp [kZ]
theorem Cl (n:Nat) (hn:n≤1000):NW Tryz.prog 259 [.int .i64 n] (fl 3 (rv (kZ n))):=by
 refine iD Tryz.func259 rfl rfl (by rw[Tryz.ntmps259];simp) fun bl=> ?_
 rw[Tryz.ntmps259,Tryz.results259]
 refine aC ?_
 simp
 intro g00 sZ aB1
 refine aJ (fun p:Nat×Int=> [(0,.int .i64 n),(3,.lsl p.2 3 0 p.1)]) (fun p=>upd bl p.2 (some ⟨3,rv (kZ p.1)⟩)) (fun p=>p.1≤n∧bl p.2=none∧(p.2<0→p.1=0)) (fun p=>n - p.1) _ (0,g00) ⟨Nat.zero_le _,aB1,fun _=>rfl⟩ ⟨rfl,by simp,sub_eq (by simp[kZ,rv])⟩ ?_
 rintro⟨i,g⟩ ⟨hi,hg,h0⟩
 simp only at hi hg h0
 refine aC ?_
 simp
 refine⟨fun h=> ?_,fun h=> ?_⟩
 ·refine aD Fz ?_
  have hz:=Dx i
  generalize ro (some 0)=z at *
  simp[RT.c]
  intro g2 hg2 h2g hb2
  simp[h2g,Ne.symm h2g,appV,elsV,Int.not_lt.2 hg2]
  refine⟨by omega,fun g3 hg3 hb3=> ?_⟩
  have fZ:bl g3=none:=by grind
  simp[aB]
  refine⟨i+1,g3,⟨by omega,fZ,by omega⟩,by omega,rfl,by simp,?_⟩
  rw[hz,La]
  exact dE (by rw[show(rv (kZ i)).take i=rv (kZ i) by have:=Da (kZ i);rwa [lH] at this];simp[rv,RT.c]) (by simp[hg,hb2,h2g])
 ·have hi2:i=n:=by omega
  subst hi2
  refine fH [.lsl g 3 0 i] [g] (by simp) ?_ (by simpa using hg) (by simp[hg])
  exact Hd.2 (.inr ⟨g,by simp,rfl,by simp,fun h=>by rw[h0 h];rfl⟩)
theorem sJ (n:Nat) (hn:n≤24):NW Tryz.prog 212 [.int .i64 n] (fl 3 (rv (kZ n))):=by
 refine iD Tryz.func212 rfl rfl (by rw[Tryz.ntmps212];simp) fun bl=> ?_
 rw[Tryz.ntmps212,Tryz.results212]
 refine aC ?_
 simp
 refine aD (iS _ _ _) ?_
 have h1:(n:Int)≤24:=by omega
 simp[h1]
 refine cQ (Cl n (by omega)) fun v gs b' o f fr=> ?_
 obtain⟨c1,c2⟩:=o.one
 simp[c1,c2]
 exact fH [v] gs (by simp[c1,c2]) o (fun x hx=>f x hx) (fun x y hy=>bJ f fr hy)
theorem H8 (n:Nat) (hn:n≤24):RO Tryz.prog 212 [.int .i64 n] (.sl (rv (kZ n))):=by
 have:=jA 1 (sJ n hn) (kV _ _ 0)
 simpa using this

theorem xD {zs:List (Option Rat)} (h:okL zs):lZ (cJ zs)=cP zs:=by
 unfold lZ cJ cP
 rw[List.all_map,Bool.eq_iff_iff,List.all_eq_true,List.all_eq_true]
 constructor
 ·intro H x hx
  have:=H x hx
  rwa [Function.comp,G8 (h x hx)] at this
 ·intro H x hx
  rw[Function.comp,G8 (h x hx)];exact H x hx
theorem L0 {zs:List (Option Rat)} (h:okL zs) (hl:zs.length≤1048576):Ee (cJ zs) 1048576:=by
 refine⟨by simpa using hl,fun r hr=> ?_⟩
 obtain⟨x,hx,rfl⟩:=List.mem_map.1 hr
 have:=ro_le (h x hx)
 exact⟨by omega,by omega⟩
theorem Ot (xs:List (Option Rat)) (i:Nat) (x:Option Rat):(rv (cJ xs)).set i (ro x).c=rv (cJ (xs.set i x)):=by simp[rv,cJ,List.map_set]
theorem Ep (xs:List (Option Rat)) (i:Nat) (h:i<(cJ xs).length):(cJ xs)[i]=ro (xs[i]'(by simpa using h)):=by simp[cJ]
theorem Bf (n:Nat):kZ n=cJ (List.replicate n (some 0)):=by simp[kZ,cJ]
theorem qA (s:Str) (d:List RT) (hj:s.js.length≤140737488351232) (hm:s.ms.length≤140737488351232) (hn: ∀j,j∈s.js→j.name.size≤140737488351232) (hd:Ee d 1048576):RO Tryz.prog 135 [.agg s.c,.sl (rv d)] (.tup [.sl (rv (stQ (uU s d))),.bool (cP (uU s d))]):=by
 refine aI Tryz.func135 rfl rfl (by rw[Tryz.ntmps135];simp) fun bl=> ?_
 rw[Tryz.ntmps135,Tryz.results135]
 refine aE ?_
 simp[Str.c]
 intro g hg0 hg
 refine cW 1 2 (.ptr s.c) bl (by simp[hg]) (by simp[frz,dropB,hg,Str.c,V.cl]) ?_
 refine aC ?_
 simp[Str.c]
 refine aD (lC s hj hm hn) ?_
 cases hk:sOk s
 ·have hz:uU s d= [none]:=by unfold uU sD;rw[hk];rfl
  rw[hz]
  simp
  exact aK [.nils,.bool false] 1 (by simp) (by simp[frz,V.cl,stQ,cP,rv]) (Sub.refl _)
 have hs:=R1 hk
 have hnm:=hs.nm
 have hz:sD s d=(decide (d.length=(aS s.ms).length)&& lZ d):=by unfold sD;rw[hk];rfl
 have hwl:(who s).length=(aS s.ms).length:=by simp[who]
 simp[Str.c]
 refine aD (nD s hnm) ?_
 simp
 refine bD [(1,.sl (rv d)),(2,.ptr s.c),(4,.nils),(5,.bool false),(6,.sl (iv (who s))),(7,.sl (iv (sgn s)))] _ bl 28 (.bool (!sD s d)) ⟨rfl,by simp[Str.c],Sub.refl _⟩ rfl ?_ ?_
 ·simp[hwl]
  by_cases h:d.length=(aS s.ms).length
  ·have h':(d.length:Int)=((aS s.ms).length:Int):=by omega
   simp[h,h']
   refine aD (yA d hd) ?_
   simp[hz,h]
  ·have h': ¬ (d.length:Int)=((aS s.ms).length:Int):=by omega
   simp[h,h',hz]
 cases hp:sD s d
 ·have hz:uU s d= [none]:=by unfold uU;rw[hp];rfl
  rw[hz]
  simp
  exact aK [.nils,.bool false] 1 (by simp) (by simp[frz,V.cl,stQ,cP,rv]) (Sub.refl _)
 obtain⟨_,hdl,bI⟩:=Ad hp
 have hD:=Af d
 have hDl:(cO d).length=(aS s.ms).length:=by simpa using hdl
 have hso: ∀j,j<(aS s.ms).length→((cO d).getD j none).isSome=true:=fun j hj=>by
  rw[gY _ _ _ (by omega)]
  have:=List.all_eq_true.1 bI d[j] (List.getElem_mem (by omega))
  simpa [cO] using this
 have kX:=run_eq s.ms (cO d) hD hso hs.kd
 have hq:uU s d=jX s.ms (cO d) (aS s.ms).length:=by unfold uU;rw[hp,if_pos rfl,kX]
 have hcl:=jJ s.ms s.ms.length
 change(aS s.ms).length≤2*s.ms.length at hcl
 have hlR:=mU s.ms (cO d)
 have hoR:=Iw s.ms (cO d)
 have hV:=yA (cJ (uU s d)) (L0 (R6 s d).1 (by have:=(R6 s d).2;omega))
 rw[xD (R6 s d).1] at hV
 rw[hq] at hV ⊢
 simp[Str.c]
 rcases Nat.eq_zero_or_pos s.ms.length with h0 | kW
 ·have hc0:(aS s.ms).length=0:=by omega
  have e0:jX s.ms (cO d) (aS s.ms).length= []:=List.eq_nil_of_length_eq_zero (by rw[hlR,h0])
  rw[e0] at hV ⊢
  have hZ:=H8 0 (by omega)
  rw[h0]
  refine aD hZ ?_
  simp[hwl,hc0]
  refine aJ (fun j:Nat=> [(8,.sl []),(34,.int .i64 0),(35,.int .i64 0)]) (fun _=>bl) (fun j=>True) (fun j=>j) _ 0 trivial ⟨rfl,by simp[kZ,rv],Sub.refl _⟩ ?_
  intro j _
  refine aC ?_
  simp
  refine aD hV ?_
  simp[cP]
  exact aK [.sl [],.bool true] 1 (by simp) (by simp[frz,V.cl,stQ,cP,rv,cJ]) (Sub.refl _)
 refine cQ (sJ s.ms.length (by omega)) fun v gs b' o f fr=> ?_
 rcases Hd.1 o with ⟨h1,_,_⟩| ⟨g8,rfl,rfl,hb8,hg8⟩
 ·have h2:s.ms.length=0:=by have:=congrArg List.length h1;rwa [lH] at this
  omega
 have hn8:bl g8=none:=f g8 (by simp)
 have hp8:0≤g8:=by
  rcases Int.lt_or_le g8 0 with h | h
  ·have h2:s.ms.length=0:=by have:=congrArg List.length (hg8 h);rwa [lH] at this
   omega
  ·exact h
 rw[lH]
 simp
 refine aJ (fun j:Nat=> [(1,.sl (rv d)),(6,.sl (iv (who s))),(7,.sl (iv (sgn s))),(8,.lsl g8 3 0 s.ms.length),(33,.sl (iv (who s))),(34,.int .i64 (aS s.ms).length),(35,.int .i64 j)]) (fun j=>upd bl g8 (some ⟨3,rv (cJ (jX s.ms (cO d) j))⟩)) (fun j=>j≤(aS s.ms).length) (fun j=>(aS s.ms).length - j) _ 0 (Nat.zero_le _) ⟨rfl,by simp[hwl],by
  intro z b hz
  show b' z=some b
  simp only[aA] at hz
  split at hz
  ·rename_i e;rw[e,hb8,←hz,Bf];rfl
  ·exact bJ f fr hz⟩ ?_
 intro j hj
 have wj:IntKind.i64.wrap ((j:Int)+1)=(j:Int)+1:=i64_in (by omega) (by omega)
 refine aC ?_
 simp
 refine⟨fun h=> ?_,fun h=> ?_⟩
 ·have tM:(aS s.ms)[j]∈aS s.ms:=List.getElem_mem h
  obtain⟨k,e1,hk,hsg⟩:=Im s.ms.length (Nat.le_refl _) tM
  have h2:j<d.length:=by omega
  have h3:j<(cO d).length:=by omega
  have hrl:=hlR j
  have hkA:k<(jX s.ms (cO d) j).length:=by omega
  have hst:=kG s.ms (cO d) j
  rw[gY _ _ _ h,gY _ _ _ h3,stS,e1,Int.toNat_natCast,gY _ _ _ hkA] at hst
  have ex:ro (cO d)[j]=d[j]:=by rw[←aLR bI _ h2];simp[cO]
  have ok1:=hoR j _ (List.getElem_mem hkA)
  have ok2:=hD _ (List.getElem_mem h3)
  have hA:=aUP _ _ ok1 ok2
  have hB:=aUX _ _ ok1 ok2
  have wE:(who s)[j]'(by omega)=(k:Int):=by simp[who,e1]
  have sE:(sgn s)[j]'(by simp[sgn];omega)=(aS s.ms)[j].2:=by simp[sgn]
  have sl:j<(sgn s).length:=by simp[sgn];omega
  have wl:j<(who s).length:=by omega
  have eg:=Ep (jX s.ms (cO d) j) k (by simpa using hkA)
  rw[ex] at hA hB
  generalize (cO d)[j]=dx at *
  obtain⟨A,eA⟩: ∃A,jX s.ms (cO d) j=A:=⟨_,rfl⟩
  simp only[eA] at hrl hkA hst hA hB eg ⊢
  rcases hsg with e2 | e2
  ·rw[e2,if_pos (by omega)] at hst
   rw[e2] at sE
   simp[h,wE,sE,sl,wl]
   refine dK aM [0,1,2,3,4,5,6,7,8,9,10,11] 1 12 (by kernel_rfl) ?_
   simp[hrl,hk,hkA,h2,eg,RT.c]
   refine aO hA ?_
   simp[hrl,hk,hkA,RT.c]
   refine dM (i:=12) (by kernel_rfl) rfl rfl rfl ?_
   simp[hrl,hk,hkA,RT.c]
   refine Dy ?_
   simp[wj,aB]
   refine⟨j+1,by omega,by omega,rfl,by simp,?_⟩
   rw[hst,←Ot]
   intro z b hz;simp only[aA,RT.c] at hz ⊢;grind
  ·rw[e2,if_neg (by omega)] at hst
   rw[e2] at sE
   simp[h,wE,sE,sl,wl]
   refine dK aM [0,1,2,3,4,5,6,7,8,9,10,11] 1 12 (by kernel_rfl) ?_
   simp[hrl,hk,hkA,h2,eg,RT.c]
   refine aO hB ?_
   simp[hrl,hk,hkA,RT.c]
   refine dM (i:=12) (by kernel_rfl) rfl rfl rfl ?_
   simp[hrl,hk,hkA,RT.c]
   refine Dy ?_
   simp[wj,aB]
   refine⟨j+1,by omega,by omega,rfl,by simp,?_⟩
   rw[hst,←Ot]
   intro z b hz;simp only[aA,RT.c] at hz ⊢;grind
 ·have hj2:j=(aS s.ms).length:=by omega
  subst hj2
  have hrl:=hlR (aS s.ms).length
  have hfz: ∀(B:Int→Option Blk) (n:Nat),B g8=some ⟨3,rv (cJ (jX s.ms (cO d) (aS s.ms).length))⟩→frz (dropB B bl) 1 (.lsl g8 3 0 s.ms.length)=some (.sl (rv (cJ (jX s.ms (cO d) (aS s.ms).length)))):=fun B n hB=>
   dD (sz:=3) (n:=s.ms.length) hp8 hn8 (els:=rv (cJ (jX s.ms (cO d) (aS s.ms).length))) hB (by simpa using hrl) (Za _)
  generalize jX s.ms (cO d) (aS s.ms).length=R at *
  have hfb:frz (upd bl g8 (some ⟨3,rv (cJ R)⟩)) 1 (.lsl g8 3 0 s.ms.length)=some (.sl (rv (cJ R))):=Z5 (fun z b hz=>by
   unfold dropB at hz
   split at hz
   ·exact hz
   ·cases hz) 1 (hfz (upd bl g8 (some ⟨3,rv (cJ R)⟩)) 0 (by simp))
  simp
  refine aU 1 (ys:= [.sl (rv (cJ R))]) (by simp[hfb]) hV rfl ?_
  cases ha:cP R
  ·simp
   exact aK [.nils,.bool false] 1 (by simp) (by simp[frz,V.cl,stQ,ha,rv]) (by simp[hn8])
  ·simp
   refine aK [.lsl g8 3 0 s.ms.length,.bool true] 2 (by simp) (Pu ?_) (by simp[hn8])
   have hst:stQ R=cJ R:=by unfold stQ;rw[ha];rfl
   rw[hst]
   exact hfz _ 0 (by simp)

def gv (cells:List (List (Option Rat))):List (List V):=cells.map fun r=> [.sl (fvs r)]
def dGr (cells:List (List (Option Rat))):D:= .s 1 (cells.map fun r=> [fl 1 (fvs r)])
def dG (r c:Nat) (cells:List (List (Option Rat))):D:= .a [.c (.int .i64 r),.c (.int .i64 c),dGr cells]
def rowOf (c:Nat) (m:Nat→Nat→Option Rat) (i:Nat):List (Option Rat):=(List.range c).map (m i)
def aVO (r c:Nat) (m:Nat→Nat→Option Rat):List (List (Option Rat)):=(List.range r).map (rowOf c m)
theorem dC (b:Int→Option Blk) (g:Int):Sub (rem b g) b:=fun z y hz=>by
 rw[aF] at hz
 split at hz
 ·cases hz
 ·exact hz

theorem OwnR.append {bl:Int→Option Blk} {sz:Nat} {rs2:List (List D)} {e2:List (List V)} {g2:List Int} (h2:OwnR bl sz rs2 e2 g2): ∀ {rs:List (List D)} {els:List (List V)} {g1:List Int},OwnR bl sz rs els g1→(∀x,x∈g1→x∉g2)→OwnR bl sz (rs++rs2) (els++e2) (g1++g2)
 | [], els, g1, h, hd => by
   rw[OwnR] at h
   obtain⟨rfl,rfl⟩:=h
   exact h2
 | r :: rs, els, g1, h, hd => by
   rw[OwnR] at h
   obtain⟨e,mB,ga,gb,rfl,rfl,h3,h4,h5,h6,h7⟩:=h
   have ih:=OwnR.append h2 h7 fun x hx=>hd x (List.mem_append_right _ hx)
   show OwnR bl sz (r::(rs++rs2)) (e::(mB++e2)) (ga++gb++g2)
   rw[OwnR]
   refine⟨e,mB++e2,ga,gb++g2,rfl,by simp,fun x hx hx2=> ?_,h4,h5,h6,ih⟩
   rcases List.mem_append.1 hx2 with hx2 | hx2
   ·exact h3 x hx hx2
   ·exact hd x (List.mem_append_left _ hx) hx2
structure MX where
 r:Int
 c:Int
 cells:List RT
def MX.c3 (m:MX):List V:= [.int .i64 m.r,.int .i64 m.c,.sl (rv m.cells)]
def dMx (m:MX):List D:= [.c (.int .i64 m.r),.c (.int .i64 m.c),dRs m.cells]
def aOU (cells:List (List (Option Rat))):Bool:=cells.all cP
def aYG (r c:Int) (cells:List (List (Option Rat))):MX:=if aOU cells=true then⟨r,c,(cells.map cJ).flatten⟩ else⟨0,0,[]⟩
def dMB (m:MX) (b:Bool):D:= .t [.a (dMx m),.c (.bool b)]
def aTY (cells:List (List (Option Rat))) (i:Nat):List RT:=((cells.take i).map cJ).flatten

theorem Qo (a b:Rat) (hb:b.num≠0):sg (decide (a.num<0) !=decide (b.num<0)) (a.num.natAbs*b.den)=a.num*(b.num.sign*b.den):=by
 have h1:b.num.sign.natAbs=1:=by rw[Int.natAbs_sign];simp[hb]
 have h2:(b.num.sign*(b.den:Int)).natAbs=b.den:=by rw[Int.natAbs_mul,h1,Nat.one_mul,Int.natAbs_natCast]
 have hd:=b.den_pos
 have h3:decide (b.num.sign*(b.den:Int)<0)=decide (b.num<0):=by
  rw[decide_eq_decide]
  constructor
  ·intro h
   by_cases h4:b.num<0
   ·exact h4
   ·have:b.num.sign=1:=Int.sign_eq_one_of_pos (by omega)
    rw[this] at h;omega
  ·intro h
   rw[Int.sign_eq_neg_one_of_neg h];omega
 have:=sU a.num (b.num.sign*b.den)
 rw[h2,h3] at this
 exact this

theorem mD {bl bl0:Int→Option Blk} {g h:Int} {ns ms:List Int} {b:Bool} (h0:0≤g∨ms= []) (h1:0≤h∨ns= []) (hg:bl0 g=none) (hh:bl0 h=none) (hb:bl g=some ⟨1,iv ms⟩) (hc:bl h=some ⟨1,iv ns⟩):frz (dropB bl bl0) 2 (.agg [.bool b,.lsl g 1 0 ms.length,.lsl h 1 0 ns.length])=some (.agg [.bool b,.sl (iv ms),.sl (iv ns)]):=by
 have e1:=rL h0 hg hb
 have e2:=rL h1 hh hc
 have e3:frz (dropB bl bl0) 1 (.bool b)=some (.bool b):=by simp[frz]
 rw[oM]
 simp only[List.mapM_cons,List.mapM_nil,e1,e2,e3]
 rfl
theorem Gf (r:RT) (hm:r.m.length≤1048576) (hd:r.d.length≤1048576):RO Tryz.prog 203 [.agg r.c] (.agg r.c):=by
 have bI: ∀m:List Int,((iv m).all fun c=>c.length==1 && c.all V.one)=true:=fun m=>by simp[iv]
 refine aI Tryz.func203 rfl rfl (by rw[Tryz.ntmps203];simp) fun bl=> ?_
 rw[Tryz.ntmps203,Tryz.results203]
 refine aE ?_
 simp[RT.c]
 intro g1 hg1 hb1 g2 hg2 h21 hb2
 refine cW 1 1 (.ptr r.c) (upd bl g2 (some ⟨3,[[.bool false,.nils,.nils]]⟩)) (by intro z b hz;simp only[aA,RT.c] at hz ⊢;grind) (by simp[frz,dropB,hb1,h21,Ne.symm h21,RT.c,V.cl]) ?_
 refine aC ?_
 simp
 have F:=trivial
 refine aY aM bl (by simp[hb2]) [0,1,2,4,5,6,10,11] 7 (by kernel_rfl) ?_
 simp[RT.c]
 refine jL (i:=3) (j:=9) (by kernel_rfl) rfl rfl rfl rfl ?_ ?_
 ·simp[]
  intro g3 hg3
  intros
  have aDD: ¬ g3=g2:=by first | assumption | grind
  have F:=ad F aDD
  have b3:bl g3=none:=by first | assumption | grind
  refine⟨by intro z b hz;simp only[aA,aF] at hz ⊢;grind,?_⟩
  refine jL (i:=7) (j:=9) (by kernel_rfl) rfl rfl rfl rfl ?_ ?_
  ·simp[F,appV,elsV,Int.not_lt.2 hg3,bI]
   refine⟨by omega,fun g7 hg7 hb7=> ?_⟩
   have So: ¬ g7=g2:=by grind
   have F:=ad F So
   have b7:bl g7=none:=by grind
   have z7:0≤g7∨r.m= []:=hg7.imp id (fun h=>by simpa [iv] using h)
   refine⟨by intro z b hz;simp only[aA,aF] at hz ⊢;grind,?_⟩
   refine jL (i:=8) (j:=9) (by kernel_rfl) rfl rfl rfl rfl ?_ ?_
   ·simp[F]
    refine⟨by intro z b hz;simp only[aA,aF] at hz ⊢;grind,?_⟩
    refine Dz 9 ?_
    simp[F]
    intro g9 hg9
    intros
    have Ei: ¬ g9=g2:=by first | assumption | grind
    have aC5: ¬ g9=g7:=by first | assumption | grind
    have F:=ad (ad F Ei) aC5
    have b9:bl g9=none:=by first | assumption | grind
    refine⟨by intro z b hz;simp only[aA,aF] at hz ⊢;grind,?_⟩
    refine Dz 12 ?_
    simp[F,appV,elsV,Int.not_lt.2 hg9,bI]
    refine⟨by omega,fun g12 tU oP=> ?_⟩
    have nT: ¬ g12=g2:=by grind
    have nV: ¬ g12=g7:=by grind
    have F:=ad (ad F nT) nV
    have b12:bl g12=none:=by grind
    have z12:0≤g12∨r.d= []:=tU.imp id (fun h=>by simpa [iv] using h)
    refine⟨by intro z b hz;simp only[aA,aF] at hz ⊢;grind,?_⟩
    refine Dz 13 ?_
    simp[F]
    refine⟨by intro z b hz;simp only[aA,aF] at hz ⊢;grind,?_⟩
    refine Dz 14 ?_
    simp[F]
    refine⟨by intro z b hz;simp only[aA,aF] at hz ⊢;grind,?_⟩
    refine Dy ?_
    simp[F]
    refine aK [.agg [.bool r.neg,.lsl g7 1 0 r.m.length,.lsl g12 1 0 r.d.length]] 2 (by simp[F]) (mD z7 z12 b7 b12 ?_ ?_) ?_
    ·simp[F]
    ·simp[F]
    ·intro z b hz;simp only[aA,aF] at hz ⊢;grind
   ·simp[F]
    intro g9 hg9
    intros
    have Ei: ¬ g9=g2:=by first | assumption | grind
    have aC5: ¬ g9=g7:=by first | assumption | grind
    have F:=ad (ad F Ei) aC5
    have b9:bl g9=none:=by first | assumption | grind
    refine⟨by intro z b hz;simp only[aA,aF] at hz ⊢;grind,?_⟩
    refine jL (i:=8) (j:=12) (by kernel_rfl) rfl rfl rfl rfl ?_ ?_
    ·simp[F]
     refine⟨by intro z b hz;simp only[aA,aF] at hz ⊢;grind,?_⟩
     refine Dz 12 ?_
     simp[F,appV,elsV,Int.not_lt.2 hg9,bI]
     refine⟨by omega,fun g12 tU oP=> ?_⟩
     have nT: ¬ g12=g2:=by grind
     have nV: ¬ g12=g7:=by grind
     have F:=ad (ad F nT) nV
     have b12:bl g12=none:=by grind
     have z12:0≤g12∨r.d= []:=tU.imp id (fun h=>by simpa [iv] using h)
     refine⟨by intro z b hz;simp only[aA,aF] at hz ⊢;grind,?_⟩
     refine Dz 13 ?_
     simp[F]
     refine⟨by intro z b hz;simp only[aA,aF] at hz ⊢;grind,?_⟩
     refine Dz 14 ?_
     simp[F]
     refine⟨by intro z b hz;simp only[aA,aF] at hz ⊢;grind,?_⟩
     refine Dy ?_
     simp[F]
     refine aK [.agg [.bool r.neg,.lsl g7 1 0 r.m.length,.lsl g12 1 0 r.d.length]] 2 (by simp[F]) (mD z7 z12 b7 b12 ?_ ?_) ?_
     ·simp[F]
     ·simp[F]
     ·intro z b hz;simp only[aA,aF] at hz ⊢;grind
    ·simp[F,appV,elsV,Int.not_lt.2 hg9,bI]
     refine⟨by omega,fun g12 tU oP=> ?_⟩
     have nT: ¬ g12=g2:=by grind
     have nV: ¬ g12=g7:=by grind
     have F:=ad (ad F nT) nV
     have b12:bl g12=none:=by grind
     have z12:0≤g12∨r.d= []:=tU.imp id (fun h=>by simpa [iv] using h)
     refine⟨by intro z b hz;simp only[aA,aF] at hz ⊢;grind,?_⟩
     refine Dz 8 ?_
     simp[F]
     refine⟨by intro z b hz;simp only[aA,aF] at hz ⊢;grind,?_⟩
     refine Dz 13 ?_
     simp[F]
     refine⟨by intro z b hz;simp only[aA,aF] at hz ⊢;grind,?_⟩
     refine Dz 14 ?_
     simp[F]
     refine⟨by intro z b hz;simp only[aA,aF] at hz ⊢;grind,?_⟩
     refine Dy ?_
     simp[F]
     refine aK [.agg [.bool r.neg,.lsl g7 1 0 r.m.length,.lsl g12 1 0 r.d.length]] 2 (by simp[F]) (mD z7 z12 b7 b12 ?_ ?_) ?_
     ·simp[F]
     ·simp[F]
     ·intro z b hz;simp only[aA,aF] at hz ⊢;grind
  ·simp[F]
   intro g9 hg9
   intros
   have Ei: ¬ g9=g2:=by first | assumption | grind
   have aUF: ¬ g9=g3:=by first | assumption | grind
   have F:=ad (ad F Ei) aUF
   have b9:bl g9=none:=by first | assumption | grind
   refine⟨by intro z b hz;simp only[aA,aF] at hz ⊢;grind,?_⟩
   refine Dz 7 ?_
   simp[F,appV,elsV,Int.not_lt.2 hg3,bI]
   refine⟨by omega,fun g7 hg7 hb7=> ?_⟩
   have So: ¬ g7=g2:=by grind
   have aDB: ¬ g7=g9:=by grind
   have F:=ad (ad F So) aDB
   have b7:bl g7=none:=by grind
   have z7:0≤g7∨r.m= []:=hg7.imp id (fun h=>by simpa [iv] using h)
   refine⟨by intro z b hz;simp only[aA,aF] at hz ⊢;grind,?_⟩
   refine jL (i:=8) (j:=12) (by kernel_rfl) rfl rfl rfl rfl ?_ ?_
   ·simp[F]
    refine⟨by intro z b hz;simp only[aA,aF] at hz ⊢;grind,?_⟩
    refine Dz 12 ?_
    simp[F,appV,elsV,Int.not_lt.2 hg9,bI]
    refine⟨by omega,fun g12 tU oP=> ?_⟩
    have nT: ¬ g12=g2:=by grind
    have nV: ¬ g12=g7:=by grind
    have F:=ad (ad F nT) nV
    have b12:bl g12=none:=by grind
    have z12:0≤g12∨r.d= []:=tU.imp id (fun h=>by simpa [iv] using h)
    refine⟨by intro z b hz;simp only[aA,aF] at hz ⊢;grind,?_⟩
    refine Dz 13 ?_
    simp[F]
    refine⟨by intro z b hz;simp only[aA,aF] at hz ⊢;grind,?_⟩
    refine Dz 14 ?_
    simp[F]
    refine⟨by intro z b hz;simp only[aA,aF] at hz ⊢;grind,?_⟩
    refine Dy ?_
    simp[F]
    refine aK [.agg [.bool r.neg,.lsl g7 1 0 r.m.length,.lsl g12 1 0 r.d.length]] 2 (by simp[F]) (mD z7 z12 b7 b12 ?_ ?_) ?_
    ·simp[F]
    ·simp[F]
    ·intro z b hz;simp only[aA,aF] at hz ⊢;grind
   ·simp[F,appV,elsV,Int.not_lt.2 hg9,bI]
    refine⟨by omega,fun g12 tU oP=> ?_⟩
    have nT: ¬ g12=g2:=by grind
    have nV: ¬ g12=g7:=by grind
    have F:=ad (ad F nT) nV
    have b12:bl g12=none:=by grind
    have z12:0≤g12∨r.d= []:=tU.imp id (fun h=>by simpa [iv] using h)
    refine⟨by intro z b hz;simp only[aA,aF] at hz ⊢;grind,?_⟩
    refine Dz 8 ?_
    simp[F]
    refine⟨by intro z b hz;simp only[aA,aF] at hz ⊢;grind,?_⟩
    refine Dz 13 ?_
    simp[F]
    refine⟨by intro z b hz;simp only[aA,aF] at hz ⊢;grind,?_⟩
    refine Dz 14 ?_
    simp[F]
    refine⟨by intro z b hz;simp only[aA,aF] at hz ⊢;grind,?_⟩
    refine Dy ?_
    simp[F]
    refine aK [.agg [.bool r.neg,.lsl g7 1 0 r.m.length,.lsl g12 1 0 r.d.length]] 2 (by simp[F]) (mD z7 z12 b7 b12 ?_ ?_) ?_
    ·simp[F]
    ·simp[F]
    ·intro z b hz;simp only[aA,aF] at hz ⊢;grind
 ·simp[]
  intro g9 hg9
  intros
  have Ei: ¬ g9=g2:=by first | assumption | grind
  have F:=ad F Ei
  have b9:bl g9=none:=by first | assumption | grind
  refine⟨by intro z b hz;simp only[aA,aF] at hz ⊢;grind,?_⟩
  refine Dz 3 ?_
  simp[F]
  intro g3 hg3
  intros
  have aDD: ¬ g3=g2:=by first | assumption | grind
  have aTS: ¬ g3=g9:=by first | assumption | grind
  have F:=ad (ad F aDD) aTS
  have b3:bl g3=none:=by first | assumption | grind
  refine⟨by intro z b hz;simp only[aA,aF] at hz ⊢;grind,?_⟩
  refine Dz 7 ?_
  simp[F,appV,elsV,Int.not_lt.2 hg3,bI]
  refine⟨by omega,fun g7 hg7 hb7=> ?_⟩
  have So: ¬ g7=g2:=by grind
  have aDB: ¬ g7=g9:=by grind
  have F:=ad (ad F So) aDB
  have b7:bl g7=none:=by grind
  have z7:0≤g7∨r.m= []:=hg7.imp id (fun h=>by simpa [iv] using h)
  refine⟨by intro z b hz;simp only[aA,aF] at hz ⊢;grind,?_⟩
  refine jL (i:=8) (j:=12) (by kernel_rfl) rfl rfl rfl rfl ?_ ?_
  ·simp[F]
   refine⟨by intro z b hz;simp only[aA,aF] at hz ⊢;grind,?_⟩
   refine Dz 12 ?_
   simp[F,appV,elsV,Int.not_lt.2 hg9,bI]
   refine⟨by omega,fun g12 tU oP=> ?_⟩
   have nT: ¬ g12=g2:=by grind
   have nV: ¬ g12=g7:=by grind
   have F:=ad (ad F nT) nV
   have b12:bl g12=none:=by grind
   have z12:0≤g12∨r.d= []:=tU.imp id (fun h=>by simpa [iv] using h)
   refine⟨by intro z b hz;simp only[aA,aF] at hz ⊢;grind,?_⟩
   refine Dz 13 ?_
   simp[F]
   refine⟨by intro z b hz;simp only[aA,aF] at hz ⊢;grind,?_⟩
   refine Dz 14 ?_
   simp[F]
   refine⟨by intro z b hz;simp only[aA,aF] at hz ⊢;grind,?_⟩
   refine Dy ?_
   simp[F]
   refine aK [.agg [.bool r.neg,.lsl g7 1 0 r.m.length,.lsl g12 1 0 r.d.length]] 2 (by simp[F]) (mD z7 z12 b7 b12 ?_ ?_) ?_
   ·simp[F]
   ·simp[F]
   ·intro z b hz;simp only[aA,aF] at hz ⊢;grind
  ·simp[F,appV,elsV,Int.not_lt.2 hg9,bI]
   refine⟨by omega,fun g12 tU oP=> ?_⟩
   have nT: ¬ g12=g2:=by grind
   have nV: ¬ g12=g7:=by grind
   have F:=ad (ad F nT) nV
   have b12:bl g12=none:=by grind
   have z12:0≤g12∨r.d= []:=tU.imp id (fun h=>by simpa [iv] using h)
   refine⟨by intro z b hz;simp only[aA,aF] at hz ⊢;grind,?_⟩
   refine Dz 8 ?_
   simp[F]
   refine⟨by intro z b hz;simp only[aA,aF] at hz ⊢;grind,?_⟩
   refine Dz 13 ?_
   simp[F]
   refine⟨by intro z b hz;simp only[aA,aF] at hz ⊢;grind,?_⟩
   refine Dz 14 ?_
   simp[F]
   refine⟨by intro z b hz;simp only[aA,aF] at hz ⊢;grind,?_⟩
   refine Dy ?_
   simp[F]
   refine aK [.agg [.bool r.neg,.lsl g7 1 0 r.m.length,.lsl g12 1 0 r.d.length]] 2 (by simp[F]) (mD z7 z12 b7 b12 ?_ ?_) ?_
   ·simp[F]
   ·simp[F]
   ·intro z b hz;simp only[aA,aF] at hz ⊢;grind

def aTZ (row:List Int):List (Option Rat):=row.map fun(n:Int)=>some (n:Rat)
def aWJ (rows:List (List Int)):List (List (Option Rat)):=rows.map aTZ
def aCA (l:List Int):List RT:=l.map fun(n:Int)=>ro (some (n:Rat))
def small (rows:List (List Int)):Prop:= ∀w,w∈rows→ ∀n,n∈w→ -100≤n∧n≤100
def aX4 (s:Str):MX:=if sOk s=true then⟨(gJ s).length,s.ms.length,aCA (iF s)⟩ else⟨0,0,[]⟩

def r6 (n:Int):Rat:=mkRat n 6
def q6 (n:Int):Option Rat:=some (r6 n)
def dotTo (a u:List Int):Nat→Int
 | 0 => 0
 | n + 1 => dotTo a u n + lN a n * lN u n
def aP2 (a b:List (Option Rat)):Nat→Option Rat
 | 0 => some 0
 | n + 1 => op2 (· + ·) (aP2 a b n) (op2 (· * ·) (a.getD n none) (b.getD n none))

end Go.Proofs.YticmgmemnpcbbaaGreat.Vm

namespace Go.Proofs.YticmgmemnpcbbaaGreat.Vm
open Go Go.Proofs
set_option linter.unusedSimpArgs false
set_option linter.unusedVariables false
def bv (bs:List Int):List (List V):=bs.map fun b=> [.int .u8 b]
def cur (bs:List Int) (i h:Int):Blk:=⟨3,[[.sl (bv bs),.int .i64 i,.int .i64 h]]⟩
def lo8 (a:Int):Int:=IntKind.i64.wrap ((BitVec.ofInt 64 a &&& BitVec.ofInt 64 255).toNat)
@[simp high] theorem aIL (P : Program) (t : TypeId) (a : Int) : binV P .and t (.int .i64 a) (.int .i64 255) = some (.int .i64 (lo8 a)) := rfl
def aKH (a:Int) (n:Nat):Int:=a.fdiv (2^n)
def aTW (a b:Int):Int:=IntKind.i64.wrap ((BitVec.ofInt 64 a^^^BitVec.ofInt 64 b).toNat)
@[simp high] theorem aSN (P : Program) (t : TypeId) (a : Int) : binV P .shr t (.int .i64 a) (.int .u64 33) = some (.int .i64 (aKH a 33)) := rfl
@[simp high] theorem aQI (P : Program) (t : TypeId) (a : Int) : binV P .shr t (.int .i64 a) (.int .u64 45) = some (.int .i64 (aKH a 45)) := rfl
@[simp high] theorem aGK (P : Program) (t : TypeId) (a b : Int) : binV P .xor t (.int .i64 a) (.int .i64 b) = some (.int .i64 (aTW a b)) := rfl
structure aIG (bs : List Int) (i : Int) : Prop where
 n:bs.length≤1048576
 b: ∀x,x∈bs→0≤x∧x<256
 i0:0≤i
 i1:i≤bs.length

def msk (a b:Int):Int:=IntKind.i64.wrap ((BitVec.ofInt 64 a &&& BitVec.ofInt 64 b).toNat)

structure LD where
 k:Nat
 ns:List Int
 i:Int
 h:Int

def aW1 (bl:Int→Option Blk) (K:V→(Int→Option Blk)→Prop) (bs:List Int) (g:Int):Prop:=
 ∀(s:Str) (i' h':Int) bl',sOk s=true→3≤s.js.length→aIG bs i'→bl' g=some (cur bs i' h')→(∀x y,x≠g→bl x=some y→bl' x=some y)→K (.agg s.c) bl'
def nmA :ByteArray:= { data:= #[97] }
def nmB :ByteArray:= { data:= #[98] }
def nmC :ByteArray:= { data:= #[99] }
def nmD :ByteArray:= { data:= #[100] }
def js3 (x1 x2 x3 x4 x5 x6:Int):List J:= [⟨nmA, -1 - x1,x2,true⟩,⟨nmB,3+x3,x4,true⟩,⟨nmC,x5 - 1, -1 - x6,false⟩]
def ms2 (x7:Int):List Mb:= [⟨0,2,1⟩,⟨1,2,x7⟩]
def js4 (x1 x2 x3 x4 x5 x6 x8:Int):List J:=js3 x1 x2 x3 x4 x5 x6++ [⟨nmD,x8 - 1, -7,true⟩]
def ms3 (x7 x9:Int):List Mb:=ms2 x7++ [⟨3,2,x9⟩]

theorem aEO {P:Program} {ops:Array Oper} {blK:Int→Option Blk} {tl:Nat→Bool} {K:St→Prop} {l:Array Bool} {σ:St} (is:List Nat) (fuel:Nat) (hs:Sub blK σ.bl) (hn:(is.all (fun i=>decide (i<ops.size))&& hoistB ops is l && N7 ops tl is)=true)
  (h:HoistF P (ops.toList.map (·.dst)) blK (is.filterMap fun i=>ops[i]?) (kF P ops blK tl K fuel (iL is l)) σ):kF P ops blK tl K (fuel+is.length) l σ:=by
 simp only[Bool.and_eq_true] at hn
 exact oQ fuel is l σ (lY hn.2) hn.1.2 hs (gL _ is σ (filter_some is hn.1.1) h)
def tj (x1 x2 x3 x4 x5 x6:Int):List J:= [⟨nmA, -2,x1,true⟩,⟨nmB,6,x2,true⟩,⟨nmC,x3, -1 - x4,false⟩,⟨nmD,3+x5, -1 - x6,false⟩]
structure TD where
 n:Nat
 ms:List Mb
 g:Int
 i:Int
 h:Int
def aWK (m:Mb):Prop:=(m.a=0∨m.a=1∨m.a=2∨m.a=3)∧(m.b=1∨m.b=2∨m.b=3)∧(1≤m.kind∧m.kind≤3)∧((m.a≤1∧2≤m.b)∨(m.a=2∧m.b=3)∨(m.a=3∧m.b=1))

end Go.Proofs.YticmgmemnpcbbaaGreat.Vm

namespace Go.Proofs.YticmgmemnpcbbaaGreat.Vm
open Go Go.Proofs
set_option linter.unusedSimpArgs false
set_option linter.unusedVariables false
structure MD where
 us:List Int
 g:Int
 i:Int
 h:Int
 b:Int→Option Blk
def rq6 (us:List Int):List RT:=us.map fun u=>ro (q6 u)

def MX.fit (m:MX):Prop:=Ee m.cells 1048576∧wZ m.cells≤100000000
def aXC (k:Nat) (m:MX):MX:=⟨m.r,m.c,mkQs k m.cells⟩

def aW4 (cells:List (List (Option Rat))) (v:List (Option Rat)):List (Option Rat):=cells.map fun row=>aP2 row v row.length

def aIB (s:Str) (l:List Int) (j x y:Int):Bool:=lOk s l && (decide (0≤j)&& decide (j<s.js.length))&& (decide (-200≤x)&& decide (x≤200))&& (decide (-200≤y)&& decide (y≤200))&&
 fK (lat l (2*j.toNat)+x)&& fK (lat l (2*j.toNat+1)+y)
def aSY (l:List Int) (j x:Int):List Int:=l.set (2*j.toNat) (lat l (2*j.toNat)+x)
def aUT (l:List Int) (j x y:Int):List Int:=(aSY l j x).set (2*j.toNat+1) (lat l (2*j.toNat+1)+y)
def aXP (s:Str) (l:List Int) (j x y:Int):List Int:=if aIB s l j x y=true then aUT l j x y else []
def aX8 (ns:List Int) (b:Bool):D:= .t [fl 1 (iv ns),.c (.bool b)]

end Go.Proofs.YticmgmemnpcbbaaGreat.Vm

namespace Go.Proofs.YticmgmemnpcbbaaGreat.Vm
open Go Go.Proofs
set_option linter.unusedSimpArgs false
set_option linter.unusedVariables false

def szW :List (List Int)→Int→Int
 | [], left => left
 | w :: ws, left => if less left w.length < 0 then -1 else szW ws (less left w.length)
def aYM (ws:List (List Int)) (left:Int):Int:=if less left ws.length<0 then -1 else szW ws (less left ws.length)
def aWF (ws:List (List Int)) (i:Nat):Nat:=(ws.take i).flatten.length
def aWE (bl:Int→Option Blk) (n:Nat) (v:V) (gs:List Int):Prop:= ∃rows els,rows.length=n∧((rows= []∧v= .nils∧gs= [])∨ ∃g gs',v= .lsl g 1 0 n∧gs=g::gs'∧g∉gs'∧bl g=some ⟨1,els⟩∧(g<0→els= [])∧OwnR bl 1 rows els gs')
structure St2 where
 i:Nat
 b:Int→Option Blk
structure aYJ (ws : List (List Int)) : Prop where
 n:ws.length≤140737488351232
 w: ∀w,w∈ws→w.length≤140737488351232

def mixC (ws:List (List Int)) (wt:List Int) (i:Nat):Nat→Int
 | 0 => 0
 | c + 1 => mixC ws wt i c + lat wt c * lat (ws.getD c []) i
def aNA (m:Nat) (ws:List (List Int)) (wt:List Int) (c:Nat):List Int:=(List.range m).map fun i=>mixC ws wt i c
def cOk (s:Str) (ws:List (List Int)) (wt:List Int) (c:Nat):Bool:=mR s.js (ws.getD c [])&& (decide (0≤lat wt c)&& decide (lat wt c≤100))
def aID (s:Str) (ws:List (List Int)) (wt:List Int):Bool:=decide (ws.length=wt.length)&& decide (ws.length≤10)&& sOk s && decide (∀c,c<ws.length→cOk s ws wt c=true)&& mR s.js (aNA (2*s.js.length) ws wt ws.length)
def aXA (s:Str) (ws:List (List Int)) (wt:List Int):List Int:=if aID s ws wt=true then aNA (2*s.js.length) ws wt ws.length else []

end Go.Proofs.YticmgmemnpcbbaaGreat.Vm

namespace Go.Proofs.YticmgmemnpcbbaaGreat.Vm
open Go Go.Proofs
set_option linter.unusedSimpArgs false
set_option linter.unusedVariables false

def aT0 (P:Program) (ops:Array Oper) (blK:Int→Option Blk) (last:List Nat) (K:St→Prop):List (List Nat×Nat)→St→Prop
 | [] => HoistF P (ops.toList.map (·.dst)) blK (last.filterMap fun i => ops[i]?) K
 | (is, i) :: r => HoistF P (ops.toList.map (·.dst)) blK (is.filterMap fun i => ops[i]?) (HStep P ops blK i (aT0 P ops blK last K r))
def hIdx (last:List Nat):List (List Nat×Nat)→List Nat
 | [] => last
 | (is, i) :: r => is ++ i :: hIdx last r

def aW5 (s:Str) (us:List Int):List Int:=(gJ s).map fun w=>dotTo w us s.ms.length

def dMf (m:MX):List D:= [.c (.int .i64 m.r),.c (.int .i64 m.c),fl 3 (rv m.cells)]

structure MOk (m : MX) (r c : Nat) : Prop where
 hr:m.r=r
 hc:m.c=c
 r24:r≤24
 c24:c≤24
 len:m.cells.length=r*c
 ok:lZ m.cells=true
 fq:Ee m.cells 1048576
def trC (cells:List RT) (r c k:Nat) (i:Nat):List RT:=(List.range i).map fun i=>cells.getD (i*c+k) rz
def aU4 (cells:List RT) (r c k i:Nat):List RT:=((List.range k).flatMap fun k=>trC cells r c k r)++trC cells r c k i
def trM (m:MX) (r c:Nat):MX:=⟨c,r,aU4 m.cells r c c 0⟩

abbrev MF :=Nat→Nat→Option Rat
def aWX (M:MF) (i j:Nat) (v:Option Rat):MF:=fun a b=>if a=i∧b=j then v else M a b
def aK0 (r c:Nat) (M:MF):List RT:=(List.range (r*c)).map fun t=>ro (M (t / c) (t % c))
def X0 (M:MF) (i n:Nat):MF:=fun a b=>if a=i then M n b else if a=n then M i b else M a b
def aT9 (M:MF) (n:Nat) (p:Option Rat):MF:=fun a b=>if a=n then op2 (· / ·) (M a b) p else M a b
def aKJ (M:MF) (n k:Nat):MF:=fun a b=>if a=n∨nm (M a k)=0 then M a b else op2 (· - ·) (M a b) (op2 (· * ·) (M a k) (M n b))
def Yd (M:MF) (n k i:Nat):MF:=aKJ (aT9 (X0 M i n) n (X0 M i n n k)) n k
def Hq (M:MF) (r k:Nat) (n:Nat):Nat:=if n<r then if nm (M n k)=0 then Hq M r k (n+1) else n else r
termination_by r - n
def okM (r c:Nat) (M:MF):Bool:=(List.range r).all fun i=>(List.range c).all fun j=>(M i j).isSome
structure RS where
 M:MF
 P:List Nat
def Uo (r c k:Nat) (s:RS):Option RS:=
 if s.P.length<r then
  if Hq s.M r k s.P.length=r then some s
  else if okM r c (Yd s.M s.P.length k (Hq s.M r k s.P.length))=true then some ⟨Yd s.M s.P.length k (Hq s.M r k s.P.length),s.P++ [k]⟩ else none
 else some s
def redTo (r c:Nat) (M:MF):Nat→Option RS
 | 0 => some ⟨M, []⟩
 | k + 1 => (redTo r c M k).bind (Uo r c k)
structure RI (r c k : Nat) (s : RS) : Prop where
 le:s.P.length≤r
 ok:okM r c s.M=true
 fit: ∀i j,okQ (s.M i j)
 zero: ∀i j,s.P.length≤i→i<r→j<k→j<c→s.M i j=some 0
 piv: ∀n (h:n<s.P.length),s.P[n]<k
 inc: ∀m n (hm:m<n) (hn:n<s.P.length),s.P[m]<s.P[n]
def Zs (r c n k:Nat) (M:MF):Prop:= ∀i j,n≤i→i<r→j<k→j<c→M i j=some 0
def aU8 (M:MF) (n k:Nat) (p:Option Rat):MF:=fun a b=>if a=n∧k≤b then op2 (· / ·) (M a b) p else M a b
def aAO (M:MF) (n k:Nat):MF:=fun a b=>if a=n∨nm (M a k)=0∨b<k∨nm (M n b)=0 then M a b else op2 (· - ·) (M a b) (op2 (· * ·) (M a k) (M n b))
def aWO (M:MF) (n k i:Nat):MF:=aAO (aU8 (X0 M i n) n k (X0 M i n n k)) n k

def aX7 (M:MF) (n k i:Nat):MF:=fun a b=>if a<i then aAO M n k a b else M a b
def aYB (M:MF) (n k i j:Nat):MF:=fun a b=>if a<i∨a=i∧b<j then aAO M n k a b else M a b

def pz (P:List Nat):List Int:=P.map fun(m:Nat)=>(m:Int)
def aW9 (M:MF) (i n j:Nat):MF:=fun a b=>if b<j then X0 M i n a b else M a b
def aW7 (M:MF) (n k j:Nat) (p:Option Rat):MF:=fun a b=>if a=n∧k≤b∧b<j then op2 (· / ·) (M a b) p else M a b
inductive Sj (r c : Nat) (M : MF) : MF → List Nat → Prop
 | good (s : RS) (h : redTo r c M c = some s) (P : List Nat) (e : P = s.P) : Sj r c M s.M P
 | bad (X : MF) (P : List Nat) (h : redTo r c M c = none) (ho : okM r c X = false) : Sj r c M X P
structure LR where
 k:Nat
 s:RS
 gp:Int
 gf:Int
 fs:List RT

def aXS (cells:List RT) (c:Nat):MF:=fun i j=>rd (cells.getD (i*c+j) rz)
def aXT (r c:Nat) (M:MF):V:=match redTo r c M c with
 | some s => .tup [.agg [.int .i64 r, .int .i64 c, .sl (rv (aK0 r c s.M))], .sl (iv (pz s.P)), .bool true]
 | none => .tup [.agg [.int .i64 0, .int .i64 0, .sl []], .sl [], .bool false]

def ix :List Nat→Nat→Option Nat
 | [], _ => none
 | p :: ps, j => if p = j then some 0 else (ix ps j).map (· + 1)
def aBH (M:MF) (P:List Nat) (k j:Nat):Option Rat:=match ix P j with
 | some i => (M i k).map (- ·)
 | none => if j = k then some 1 else some 0
def aOZ (M:MF) (P:List Nat) (c k:Nat):List (Option Rat):=(List.range c).map (aBH M P k)
def aAS (P:List Nat) (n:Nat):List Nat:=(List.range n).filter fun k=>(ix P k).isNone
def Uq (M:MF) (P:List Nat) (c n:Nat):List (List (Option Rat)):=(aAS P n).map (aOZ M P c)

def rvv (ls:List (List RT)):List (List V):=ls.map fun w=> [.sl (rv w)]
def aWZ (r c:Nat) (M:MF):List (List RT)×Bool:=match redTo r c M c with
 | some s => ((Uq s.M s.P c c).map cJ, true)
 | none => ([], false)
def aX2 (x:List (List RT)×Bool):V:= .tup [.sl (rvv x.1),.bool x.2]
structure NG where
 k:Nat
 g:Int
end Go.Proofs.YticmgmemnpcbbaaGreat.Vm

namespace Go.Proofs.YticmgmemnpcbbaaGreat.Vm
open Go Go.RowKit Go.Proofs
set_option linter.unusedSimpArgs false
set_option linter.unusedVariables false
theorem lU {α:Type} {l:Array α} {i j:Nat} {x:α} (d:α) (h:i≠j):(l.setIfInBounds i x).getD j d=l.getD j d:=by simp[Array.getD_eq_getD_getElem?,Array.getElem?_setIfInBounds_ne h]
def pureOp :Op→Bool
 | .move _ | .nilCheck _ | .fieldAddr .. | .indexAddr .. => true
 | _ => false
theorem SV.pure {P:Program} {blK:Int→Option Blk} {o:Oper} {σ:St} {v:V} (hp:pureOp o.op=true) (h:SV P blK o σ v):SV P (fun _=>none) o σ v:=by
 rcases h with ⟨hq,hT⟩| ⟨c,f,p,n,ys,ho,hc,hp2,hro⟩
 ·refine .inl ⟨hq,?_⟩
  have fin: ∀ {v':V},(σ.iI blK).put o.dst v'=(σ.iI blK).put o.dst v→(σ.iI fun _=>none).put o.dst v'=(σ.iI fun _=>none).put o.dst v:=by
   intro v' h
   cases hd:o.dst with
   | none => rfl
   | some d =>
     rw[hd] at h
     have h2:upd σ.sl d v'=upd σ.sl d v:=congrArg St.sl h
     show({ n:=σ.n,sl:=upd σ.sl d v',bl:=fun _=>none } :St)= { n:=σ.n,sl:=upd σ.sl d v,bl:=fun _=>none }
     rw[h2]
  unfold Vm.T at hT ⊢
  cases ho:o.op<;>rw[ho] at hT hp<;>simp only[gG] at hT ⊢ <;>try (simp[pureOp] at hp;done)
  case move x=>exact fin hT
  case nilCheck x=>obtain⟨u,h1,h2⟩:=hT;exact⟨u,h1,fin h2⟩
  case fieldAddr=>obtain⟨u,h1,h2⟩:=hT;exact⟨u,h1,fin h2⟩
  case indexAddr=>obtain⟨u,h1,h2⟩:=hT;exact⟨u,h1,fin h2⟩
 ·rw[ho] at hp;simp[pureOp] at hp
theorem DY.pure {P:Program} {ops:Array Oper} {blK:Int→Option Blk} {o:Oper} {σ:St} {v:V} (hp:pureOp o.op=true) (h:DY P ops blK o σ v):DY P ops (fun _=>none) o σ v:=by
 unfold DY at h ⊢
 split
 ·rename_i hg;simp only[hg] at h;exact h.pure hp
 ·rename_i j b hg
  simp only[hg] at h
  split
  ·rename_i d hd
   simp only[hd] at h
   rcases iP h with ⟨q,hq,h1,h2⟩| ⟨hq,h1⟩
   ·rw[hq];exact⟨fun hh=>(h1 hh).pure hp,h2⟩
   ·rw[hq];exact h1
  ·rename_i hd;simp only[hd] at h
section
variable {P : Program} {ops : Array Oper}
theorem Kx {blK:Int→Option Blk} {tl:Nat→Bool} {K:St→Prop} {i:Nat} {oi:Oper} {v:V} (hi:ops[i]? =some oi) (hti:tl i=false): ∀(fuel:Nat) (l:Array Bool) (σ:St),
  (∀j oj,ops[j]? =some oj→j≠i→l.getD j true=false→(∀e∈oj.after,Region.binds .any e=true→e.on≠i)→oi.apart ops oj=true)→(late tl l i=false→Sub blK σ.bl)→
  i∈Region.ready .any ops l→DY P ops (fun _=>none) oi σ v→DL P ops blK tl K fuel (l.setIfInBounds i true) (σ.put oi.dst v)→DL P ops blK tl K (fuel+1) l σ:=by
 have hbl: ∀(σ:St),(σ.put oi.dst v).bl=σ.bl:=fun σ=>by cases oi.dst<;>rfl
 have K7: ∀(σ:St),Sub (fun _=>none) σ.bl:=fun σ g b h=>by cases h
 intro fuel
 induction fuel with
 | zero =>
   intro l σ _ hS hr hy H
   refine⟨fun h=>(by rw[h] at hr;cases hr),fun j hj=> ?_⟩
   by_cases hji:j=i
   ·subst hji;exact hy.step hi (K7 σ) ⟨fun h=>by rw[hbl];exact hS h,H⟩
   ·have:=ready_mono hj hji
    rw[H.1] at this
    cases this
 | succ fuel ih =>
   intro l σ xU hS hr hy H
   refine⟨fun h=>(by rw[h] at hr;cases hr),fun j hj=> ?_⟩
   by_cases hji:j=i
   ·subst hji;exact hy.step hi (K7 σ) ⟨fun h=>by rw[hbl];exact hS h,H⟩
   ·have h1:=H.2 j (ready_mono hj hji)
    obtain⟨R7,oj,hoj,bI⟩:=mem_ready.1 hj
    have Fv: ∀e∈oj.after,Region.binds .any e=true→e.on≠i:=fun e he hb heq=>by
     have h1:=bI e he hb
     have h0:=(mem_ready.1 hr).1
     rw[heq] at h1
     rcases Nat.lt_or_ge i l.size with h' | h'
     ·simp[h'] at h0 h1;rw[h0] at h1;cases h1
     ·simp[Array.getElem?_eq_none h'] at h1
    have h2:=DY.put hoj (xU j oj hoj hji R7 Fv) hy h1
    have C0: ∀k ok,ops[k]? =some ok→k≠i→(l.setIfInBounds j true).getD k true=false→
      (∀e∈ok.after,Region.binds .any e=true→e.on≠i)→oi.apart ops ok=true:=fun k ok hk hki hun hno=>by
     refine xU k ok hk hki ?_ hno
     by_cases hjk:j=k
     ·subst hjk;exact R7
     ·rw[lU true hjk] at hun;exact hun
    refine S9 h2 fun σ' ⟨h3,h4,h5⟩=> ?_
    have Wj:(σ'.put oi.dst v).bl=σ'.bl:=hbl σ'
    have hS':late tl (l.setIfInBounds j true) i=false→Sub blK σ'.bl:=fun hl=>by
     rw[←Wj]
     refine h4 ?_
     unfold late at hl ⊢
     rw[Bool.or_eq_false_iff,List.any_eq_false] at hl ⊢
     have hjs:j<l.size:=by
      rcases Nat.lt_or_ge j l.size with h' | h'
      ·exact h'
      ·simp[Array.getD_eq_getD_getElem?,Array.getElem?_eq_none h'] at R7
     have htj:tl j=false:=by
      have:=hl.2 j (by simp[hjs])
      rw[Array.getD_eq_getD_getElem?,Array.getElem?_setIfInBounds_self_of_lt hjs] at this
      simpa using this
     refine⟨htj,fun k hk hh=> ?_⟩
     simp only[Bool.and_eq_true] at hh
     have hkj:k≠j:=fun e=>by rw[e,htj] at hh;cases hh.1
     have hki:k≠i:=fun e=>by rw[e,hti] at hh;cases hh.1
     refine hl.2 k (by simpa using hk) ?_
     rw[lU false (Ne.symm hki)] at hh
     rw[lU false (Ne.symm hkj),hh.1,hh.2];rfl
    refine⟨fun h=>hS' ?_,ih (l.setIfInBounds j true) σ' C0 hS' (ready_mono hr (Ne.symm hji)) h3 ?_⟩
    ·unfold late at h ⊢
     rw[Bool.or_eq_false_iff,List.any_eq_false] at h ⊢
     refine⟨hti,fun k hk hh=> ?_⟩
     simp only[Bool.and_eq_true] at hh
     by_cases hkj:k=j
     ·subst hkj;rw[h.1] at hh;cases hh.1
     ·rw[lU false (Ne.symm hkj)] at hh
      exact h.2 k (by simpa using hk) (by rw[hh.1,hh.2];rfl)
    ·rw[Array.setIfInBounds_comm _ _ hji]
     exact h5
theorem L3 {blK:Int→Option Blk} {tl:Nat→Bool} {K:St→Prop} (fuel:Nat): ∀(is:List Nat) (l:Array Bool) (σ:St),(∀i,i∈is→tl i=false)→(∀k,tl k=true→l.getD k false=false)→(∀i,i∈is→(∃o,ops[i]? =some o∧pureOp o.op=true)∨ ∀j oj,tl j=true→ops[j]? =some oj→ ∃e∈oj.after,Region.binds .any e=true∧e.on=i)→hoistB ops is l=true→Sub blK σ.bl→
  Hoist P ops blK is (DL P ops blK tl K fuel (iL is l)) σ→DL P ops blK tl K (fuel+is.length) l σ
 | [], l, σ, _, _, _, _, _, h => h
 | i :: is, l, σ, hI, hN, hT, hB, hs, h => by
   simp only[hoistB,Bool.and_eq_true] at hB
   obtain⟨⟨hr,hf⟩,hB'⟩:=hB
   unfold Hoist at h
   split at h
   ·rename_i o ho
    obtain⟨v,hy,hK⟩:=h
    have:fuel+(i::is).length=(fuel+is.length)+1:=by simp;omega
    rw[this]
    have hN': ∀k,tl k=true→(l.setIfInBounds i true).getD k false=false:=fun k hk=>by
     by_cases hki:i=k
     ·subst hki;rw[hI i List.mem_cons_self] at hk;cases hk
     ·rw[lU false hki];exact hN k hk
    have next:=L3 fuel is (l.setIfInBounds i true) (σ.put o.dst v) (fun i hi=>hI i (List.mem_cons_of_mem _ hi)) hN' (fun i hi=>hT i (List.mem_cons_of_mem _ hi)) hB' (by cases o.dst<;>exact hs) hK
    rcases hT i List.mem_cons_self with ⟨o',ho',hp⟩| hT'
    ·rw[ho] at ho';cases ho'
     exact Kx ho (hI i List.mem_cons_self) _ _ _ (Region.free_spec ho hf) (fun _=>hs) (by simpa using hr) (hy.pure hp) next
    ·exact Ar ho (hI i List.mem_cons_self) hT' _ _ _ (Region.free_spec ho hf) hN (by simpa using hr) hs hy next
   ·exact h.elim
def tailP (ops:Array Oper) (tl:Nat→Bool) (is:List Nat):Bool:=is.all fun i=>(match ops[i]? with | some o=>pureOp o.op | none=>false)|| N7 ops tl [i]
theorem dA {id:Nat} {K:Ex→St→Prop} {σ:St} (hm:P.follows .mixedOrders=true) (blK:Int→Option Blk) (hs:Sub blK σ.bl) (is:List Nat) (fuel n:Nat) (hn:(ops.size==fuel+is.length && is.all (fun i=>decide (i<ops.size))&& hoistB ops is (Array.replicate ops.size false)&& tailP ops (fun j=>decide (n≤j)) is && is.all (fun i=>decide (i<n)))=true)
  (h:HoistF P (ops.toList.map (·.dst)) blK (is.filterMap fun i=>ops[i]?) (DL P ops blK (fun j=>decide (n≤j)) (K .normal) fuel (iL is (Array.replicate ops.size false))) σ):AW P (.region id ops true) K σ:=by
 simp only[Bool.and_eq_true,beq_iff_eq] at hn
 refine Cf hm blK (tl:=fun j=>decide (n≤j)) ?_
 have:=L3 (P:=P) (ops:=ops) (blK:=blK) (tl:=fun j=>decide (n≤j)) (K:=K .normal) fuel is (Array.replicate ops.size false) σ
  (fun i hi=>by have:=List.all_eq_true.1 hn.2 i hi;simp at this ⊢;exact this) (fun k _=>by
    rw[Array.getD_eq_getD_getElem?,Array.getElem?_replicate];split<;>rfl) (fun i hi=>by
    have h5:=List.all_eq_true.1 hn.1.2 i hi
    rw[Bool.or_eq_true] at h5
    rcases h5 with h5 | h5
    ·refine .inl ?_
     split at h5
     ·rename_i o ho;exact⟨o,ho,h5⟩
     ·cases h5
    ·exact .inr (lY h5 i (by simp))) hn.1.1.2 hs (gL _ is σ (filter_some is hn.1.1.1.2) h)
 rw[←hn.1.1.1.1] at this
 exact this
end

theorem P7 {P:Program} {c:Code} {K:Ex→St→Prop} {σ:St} {g:Int} {s:Nat} {els:List (List V)} {e:List V} {v:V} {xs:List Int} {gs:List Int} (k j:Nat) (hb:σ.bl g=some ⟨s,els⟩) (he:els[k]? =some e) (hj:e[j]? =some v) (o:OwnD σ.bl (fl 1 (iv xs)) v gs) (hg:g∉gs)
  (h: ∀(g':Int) (b':Int→Option Blk),b' g=some ⟨s,els.set k (e.set j (.lsl g' 1 0 xs.length))⟩→b' g'=some ⟨1,iv xs⟩→g'≠g→(g'<0→xs= [])→(g'∈gs∨σ.bl g'=none)→(∀x,x≠g→x≠g'→b' x=σ.bl x)→AW P c K ⟨σ.n,σ.sl,b'⟩):AW P c K σ:=by
 rcases dI.1 o with ⟨rfl,rfl,rfl⟩| ⟨g',rfl,rfl,h1,h2⟩
 ·refine cY (g:=g) (s:=s) (els:=els) k j 1 hb he hj fun g' hn hne=> ?_
  refine h g' _ (by rw[aG _ _ _ _ (Ne.symm hne),aZ];rfl) (by rw[aZ];rfl) hne (fun _=>rfl) (.inr hn) fun x x1 x2=>by rw[aG _ _ _ _ x2,aG _ _ _ _ x1]
 ·have hne:g'≠g:=fun e=>hg (by rw[e];exact List.mem_singleton.2 rfl)
  have e1:e.set j (.lsl g' 1 0 xs.length)=e:=by
   obtain⟨hl,hj2⟩:=List.getElem?_eq_some_iff.1 hj
   rw[←hj2];exact List.set_getElem_self hl
  have e2:els.set k e=els:=by
   obtain⟨hl,he2⟩:=List.getElem?_eq_some_iff.1 he
   rw[←he2];exact List.set_getElem_self hl
  exact h g' σ.bl (by rw[e1,e2];exact hb) h1 hne h2 (.inl (List.mem_singleton.2 rfl)) fun _ _ _=>rfl
structure PJ (bl : Int → Option Blk) (s : Str) (l : List Int) (gp gB gc : Int) (p : PS) : Prop where
 hp:p.b gp=some ⟨5,[[.int .i64 (nR s),.int .i64 (nC s),.lsl p.g 1 0 p.n,.lsl gB 1 0 (nR s),.lsl gc 1 0 (nC s)]]⟩
 hc:p.b gc=some ⟨1,iv (List.replicate (nC s) 0)⟩
 hB:p.b gB=some ⟨1,iv (right s l)⟩
 ha:p.b p.g=some ⟨1,iv (aTo s p.n)⟩
 pp:p.g≠gp
 pc:p.g≠gc
 pB:p.g≠gB
 f:bl p.g=none
 sub:Sub bl p.b
 neg:p.g<0→aTo s p.n= []
theorem jN {bl:Int→Option Blk} {xs:List Int} {v:V} {gs:List Int} (o:OwnD bl (fl 1 (iv xs)) v gs):v.cells= [v]∧v.one=true:=by
 rcases dI.1 o with ⟨_,rfl,_⟩| ⟨g,rfl,_⟩<;>exact⟨rfl,rfl⟩
structure R4 where
 v:V
 gs:List Int
 gc:Int
 gp:Int
 b:Int→Option Blk
set_option maxHeartbeats 2000000 in
theorem J7 (s:Str) (l:List Int) (hL:LOk s l):NW Tryz.prog 117 [.agg s.c,.sl (iv l)] (dPg (cX s l)):=by
 have hs:=hL.sok
 have h6:=hs.nj
 have h8:=hs.nm
 have hfr:=jB s.js s.js.length
 change(aQ s.js).length≤s.js.length at hfr
 have hcn:nC s≤2*s.ms.length:=jJ s.ms s.ms.length
 have hrn:nR s≤12:=by unfold nR;omega
 have ew:(who s).length=nC s:=by simp[who,nC]
 have w0:IntKind.i64.wrap (2*((aQ s.js).length:Int))=(nR s:Int):=by rw[i64_in (by omega) (by omega)];unfold nR;omega
 refine iD Tryz.func117 rfl rfl (by rw[Tryz.ntmps117];simp) fun bl=> ?_
 rw[Tryz.ntmps117,Tryz.results117]
 refine aE ?_
 simp[Str.c]
 intro g1 hg1 hb1 gr hgr hr1 hbr
 obtain⟨b0,hb0⟩: ∃b0,b0=upd bl gr (some ⟨5,[[.int .i64 0,.int .i64 0,.nils,.nils,.nils]]⟩):=⟨_,rfl⟩
 refine cW 1 2 (.ptr s.c) b0 (by rw[hb0];intro z b hz;simp only[aA] at hz ⊢;grind) (by simp[frz,dropB,hb0,hb1,hr1,Ne.symm hr1,V.cl,Str.c]) ?_
 refine dH [(1,.sl (iv l)),(2,.ptr s.c),(4,.loc gr 5 0 0)] 69 b0 ⟨rfl,by simp[Str.c],Sub.refl _⟩ ?_
 have b0r:b0 gr=some ⟨5,[[.int .i64 0,.int .i64 0,.nils,.nils,.nils]]⟩:=by rw[hb0];simp
 have s0:Sub bl b0:=fun x y hx=>by rw[hb0,aG _ _ _ _ (fun e=>by rw[e,hbr] at hx;cases hx)];exact hx
 clear hb0 hb1 hg1 hr1
 refine aE ?_
 simp[Str.c]
 refine aD (nD s (by omega)) ?_
 simp
 refine aE ?_
 simp[Str.c]
 refine aE ?_
 simp[Str.c]
 refine aD (Fa s hs) ?_
 simp
 refine gH (fun a:R4=> [(4,.loc gr 5 0 0),(5,.sl (iv (who s))),(6,.sl (iv (sgn s))),(7,.int .i64 s.ms.length),(8,.sl (iv (iF s))),(9,.loc a.gp 5 0 0)]) (fun a=>a.b) (fun a=>OwnD a.b (fl 1 (iv (right s l))) a.v a.gs∧(∀x,x∈a.gs→b0 x=none)∧b0 a.gc=none∧b0 a.gp=none∧a.gc≠a.gp∧a.gc∉a.gs∧a.gp∉a.gs∧a.b a.gc=some ⟨1,List.replicate (nC s) [.int .i64 0]⟩∧a.b a.gp=some ⟨5,[[.int .i64 (nR s),.int .i64 (nC s),.nils,a.v,.lsl a.gc 1 0 (nC s)]]⟩∧Sub b0 a.b∧0≤a.gc∧0≤a.gp) 69 ?_ ?_
 ·refine dA aM b0 (Sub.refl _) [0,1,2,3,4,5,6,7,9,10] 5 14 (by kernel_rfl) ?_
  simp[Str.c,ew]
  refine aO (tB s (by omega)) ?_
  simp[w0,ew]
  refine uY (i:=8) (j:=11) (m:=13) false false false (by kernel_rfl) rfl rfl (by kernel_rfl) rfl rfl (by kernel_rfl) rfl rfl (by kernel_rfl) ?_ ?_ ?_
  ·simp[ew]
   refine cQ (kQ s l hL) fun vb gb b1 o f fr=> ?_
   have hgb: ∀x,x∈gb→ ∃y,b1 x=some y:=o.has
   have hv:=jN o
   have f0: ∀x,x∈gb→b0 x=none:=fun x hx=>aR (Sub.refl b0) (f x hx)
   have s8:Sub b0 b1:=fun x y hx=>bJ f fr ((Sub.refl b0) x y hx)
   simp
   refine⟨by first | exact s8 | (intro x y hx;have:=s8 x y hx;simp only[aA] at this ⊢;grind),?_⟩
   refine Dw 11 13 false false ?_ ?_
   ·simp[ew,hv]
    refine⟨by omega,by unfold maxLen;omega,fun gc hgc=> ?_⟩
    intros
    have hbc:b1 gc=none:=by first | assumption | (simp only[aA];grind)
    have fc:=aR s8 hbc
    have s11:Sub b0 (upd (b1) gc (some ⟨1,List.replicate (nC s) [.int .i64 0]⟩)):=fun x y hx=>(by rw[aG _ _ _ _ (fun e=>by rw[e,fc] at hx;cases hx)];exact s8 x y hx)
    refine⟨by first | exact s11 | (intro x y hx;have:=s11 x y hx;simp only[aA] at this ⊢;grind),?_⟩
    refine Dw 12 13 false false ?_ ?_
    ·simp[ew,hv]
     refine⟨by first | exact s11 | (intro x y hx;have:=s11 x y hx;simp only[aA] at this ⊢;grind),?_⟩
     refine Dq 13 false ?_
     simp[ew,hv]
     intro gp hgp
     intros
     have hbp:upd (b1) gc (some ⟨1,List.replicate (nC s) [.int .i64 0]⟩) gp=none:=by first | assumption | (simp only[aA];grind)
     have fp:=aR s11 hbp
     have s13:Sub b0 (upd (upd (b1) gc (some ⟨1,List.replicate (nC s) [.int .i64 0]⟩)) gp (some ⟨5,[[.int .i64 0,.int .i64 0,.nils,.nils,.nils]]⟩)):=fun x y hx=>(by rw[aG _ _ _ _ (fun e=>by rw[e,fp] at hx;cases hx)];exact s11 x y hx)
     refine⟨by first | exact s13 | (intro x y hx;have:=s13 x y hx;simp only[aA] at this ⊢;grind),?_⟩
     refine Dq 14 true ?_
     have ncp:gp≠gc:=by grind [aA]
     simp[ew,hv,hbp,ncp,Ne.symm ncp]
     have s14:Sub b0 (upd (upd (upd (b1) gc (some ⟨1,List.replicate (nC s) [.int .i64 0]⟩)) gp (some ⟨5,[[.int .i64 0,.int .i64 0,.nils,.nils,.nils]]⟩)) gp (some ⟨5,[[.int .i64 (nR s),.int .i64 (nC s),.nils,vb,.lsl gc 1 0 (nC s)]]⟩)):=fun x y hx=>(by rw[aG _ _ _ _ (fun e=>by rw[e,fp] at hx;cases hx)];exact s13 x y hx)
     refine Dd ?_
     rw[aH]
     exact⟨⟨vb,gb,gc,gp,upd (upd (upd (b1) gc (some ⟨1,List.replicate (nC s) [.int .i64 0]⟩)) gp (some ⟨5,[[.int .i64 0,.int .i64 0,.nils,.nils,.nils]]⟩)) gp (some ⟨5,[[.int .i64 (nR s),.int .i64 (nC s),.nils,vb,.lsl gc 1 0 (nC s)]]⟩)⟩,⟨by first | exact o | exact o.cU fun x hx y hy=>(by grind [aA]),f0,fc,fp,Ne.symm ncp,(by grind [aA]),(by grind [aA]),(by grind [aA]),(by grind [aA]),s14,hgc,hgp⟩,rfl,by simp,by first | exact Sub.refl _ | exact sub_eq (by simp)| (intro x y hx;simp only[aA] at hx ⊢;grind)⟩
    ·simp[ew,hv]
     intro gp hgp
     intros
     have hbp:upd (b1) gc (some ⟨1,List.replicate (nC s) [.int .i64 0]⟩) gp=none:=by first | assumption | (simp only[aA];grind)
     have fp:=aR s11 hbp
     have s13:Sub b0 (upd (upd (b1) gc (some ⟨1,List.replicate (nC s) [.int .i64 0]⟩)) gp (some ⟨5,[[.int .i64 0,.int .i64 0,.nils,.nils,.nils]]⟩)):=fun x y hx=>(by rw[aG _ _ _ _ (fun e=>by rw[e,fp] at hx;cases hx)];exact s11 x y hx)
     refine⟨by first | exact s13 | (intro x y hx;have:=s13 x y hx;simp only[aA] at this ⊢;grind),?_⟩
     refine Dq 12 false ?_
     simp[ew,hv]
     refine⟨by first | exact s13 | (intro x y hx;have:=s13 x y hx;simp only[aA] at this ⊢;grind),?_⟩
     refine Dq 14 true ?_
     have ncp:gp≠gc:=by grind [aA]
     simp[ew,hv,hbp,ncp,Ne.symm ncp]
     have s14:Sub b0 (upd (upd (upd (b1) gc (some ⟨1,List.replicate (nC s) [.int .i64 0]⟩)) gp (some ⟨5,[[.int .i64 0,.int .i64 0,.nils,.nils,.nils]]⟩)) gp (some ⟨5,[[.int .i64 (nR s),.int .i64 (nC s),.nils,vb,.lsl gc 1 0 (nC s)]]⟩)):=fun x y hx=>(by rw[aG _ _ _ _ (fun e=>by rw[e,fp] at hx;cases hx)];exact s13 x y hx)
     refine Dd ?_
     rw[aH]
     exact⟨⟨vb,gb,gc,gp,upd (upd (upd (b1) gc (some ⟨1,List.replicate (nC s) [.int .i64 0]⟩)) gp (some ⟨5,[[.int .i64 0,.int .i64 0,.nils,.nils,.nils]]⟩)) gp (some ⟨5,[[.int .i64 (nR s),.int .i64 (nC s),.nils,vb,.lsl gc 1 0 (nC s)]]⟩)⟩,⟨by first | exact o | exact o.cU fun x hx y hy=>(by grind [aA]),f0,fc,fp,Ne.symm ncp,(by grind [aA]),(by grind [aA]),(by grind [aA]),(by grind [aA]),s14,hgc,hgp⟩,rfl,by simp,by first | exact Sub.refl _ | exact sub_eq (by simp)| (intro x y hx;simp only[aA] at hx ⊢;grind)⟩
   ·simp[ew,hv]
    intro gp hgp
    intros
    have hbp:b1 gp=none:=by first | assumption | (simp only[aA];grind)
    have fp:=aR s8 hbp
    have s13:Sub b0 (upd (b1) gp (some ⟨5,[[.int .i64 0,.int .i64 0,.nils,.nils,.nils]]⟩)):=fun x y hx=>(by rw[aG _ _ _ _ (fun e=>by rw[e,fp] at hx;cases hx)];exact s8 x y hx)
    refine⟨by first | exact s13 | (intro x y hx;have:=s13 x y hx;simp only[aA] at this ⊢;grind),?_⟩
    refine Dq 11 false ?_
    simp[ew,hv]
    refine⟨by omega,by unfold maxLen;omega,fun gc hgc=> ?_⟩
    intros
    have hbc:upd (b1) gp (some ⟨5,[[.int .i64 0,.int .i64 0,.nils,.nils,.nils]]⟩) gc=none:=by first | assumption | (simp only[aA];grind)
    have fc:=aR s13 hbc
    have s11:Sub b0 (upd (upd (b1) gp (some ⟨5,[[.int .i64 0,.int .i64 0,.nils,.nils,.nils]]⟩)) gc (some ⟨1,List.replicate (nC s) [.int .i64 0]⟩)):=fun x y hx=>(by rw[aG _ _ _ _ (fun e=>by rw[e,fc] at hx;cases hx)];exact s13 x y hx)
    refine⟨by first | exact s11 | (intro x y hx;have:=s11 x y hx;simp only[aA] at this ⊢;grind),?_⟩
    refine Dq 12 false ?_
    simp[ew,hv]
    refine⟨by first | exact s11 | (intro x y hx;have:=s11 x y hx;simp only[aA] at this ⊢;grind),?_⟩
    refine Dq 14 true ?_
    have ncp:gp≠gc:=by grind [aA]
    simp[ew,hv,hbp,ncp,Ne.symm ncp]
    have s14:Sub b0 (upd (upd (upd (b1) gp (some ⟨5,[[.int .i64 0,.int .i64 0,.nils,.nils,.nils]]⟩)) gc (some ⟨1,List.replicate (nC s) [.int .i64 0]⟩)) gp (some ⟨5,[[.int .i64 (nR s),.int .i64 (nC s),.nils,vb,.lsl gc 1 0 (nC s)]]⟩)):=fun x y hx=>(by rw[aG _ _ _ _ (fun e=>by rw[e,fp] at hx;cases hx)];exact s11 x y hx)
    refine Dd ?_
    rw[aH]
    exact⟨⟨vb,gb,gc,gp,upd (upd (upd (b1) gp (some ⟨5,[[.int .i64 0,.int .i64 0,.nils,.nils,.nils]]⟩)) gc (some ⟨1,List.replicate (nC s) [.int .i64 0]⟩)) gp (some ⟨5,[[.int .i64 (nR s),.int .i64 (nC s),.nils,vb,.lsl gc 1 0 (nC s)]]⟩)⟩,⟨by first | exact o | exact o.cU fun x hx y hy=>(by grind [aA]),f0,fc,fp,Ne.symm ncp,(by grind [aA]),(by grind [aA]),(by grind [aA]),(by grind [aA]),s14,hgc,hgp⟩,rfl,by simp,by first | exact Sub.refl _ | exact sub_eq (by simp)| (intro x y hx;simp only[aA] at hx ⊢;grind)⟩
  ·simp[ew]
   refine⟨by omega,by unfold maxLen;omega,fun gc hgc=> ?_⟩
   intros
   have hbc:b0 gc=none:=by first | assumption | (simp only[aA];grind)
   have fc:=aR (Sub.refl b0) hbc
   have s11:Sub b0 (upd (b0) gc (some ⟨1,List.replicate (nC s) [.int .i64 0]⟩)):=fun x y hx=>(by rw[aG _ _ _ _ (fun e=>by rw[e,fc] at hx;cases hx)];exact(Sub.refl b0) x y hx)
   refine⟨by first | exact s11 | (intro x y hx;have:=s11 x y hx;simp only[aA] at this ⊢;grind),?_⟩
   refine Dw 8 13 false false ?_ ?_
   ·simp[ew]
    refine cQ (kQ s l hL) fun vb gb b1 o f fr=> ?_
    have hgb: ∀x,x∈gb→ ∃y,b1 x=some y:=o.has
    have hv:=jN o
    have f0: ∀x,x∈gb→b0 x=none:=fun x hx=>aR s11 (f x hx)
    have s8:Sub b0 b1:=fun x y hx=>bJ f fr (s11 x y hx)
    simp
    refine⟨by first | exact s8 | (intro x y hx;have:=s8 x y hx;simp only[aA] at this ⊢;grind),?_⟩
    refine Dw 12 13 false false ?_ ?_
    ·simp[ew,hv]
     refine⟨by first | exact s8 | (intro x y hx;have:=s8 x y hx;simp only[aA] at this ⊢;grind),?_⟩
     refine Dq 13 false ?_
     simp[ew,hv]
     intro gp hgp
     intros
     have hbp:b1 gp=none:=by first | assumption | (simp only[aA];grind)
     have fp:=aR s8 hbp
     have s13:Sub b0 (upd (b1) gp (some ⟨5,[[.int .i64 0,.int .i64 0,.nils,.nils,.nils]]⟩)):=fun x y hx=>(by rw[aG _ _ _ _ (fun e=>by rw[e,fp] at hx;cases hx)];exact s8 x y hx)
     refine⟨by first | exact s13 | (intro x y hx;have:=s13 x y hx;simp only[aA] at this ⊢;grind),?_⟩
     refine Dq 14 true ?_
     have ncp:gp≠gc:=by grind [aA]
     simp[ew,hv,hbp,ncp,Ne.symm ncp]
     have s14:Sub b0 (upd (upd (b1) gp (some ⟨5,[[.int .i64 0,.int .i64 0,.nils,.nils,.nils]]⟩)) gp (some ⟨5,[[.int .i64 (nR s),.int .i64 (nC s),.nils,vb,.lsl gc 1 0 (nC s)]]⟩)):=fun x y hx=>(by rw[aG _ _ _ _ (fun e=>by rw[e,fp] at hx;cases hx)];exact s13 x y hx)
     refine Dd ?_
     rw[aH]
     exact⟨⟨vb,gb,gc,gp,upd (upd (b1) gp (some ⟨5,[[.int .i64 0,.int .i64 0,.nils,.nils,.nils]]⟩)) gp (some ⟨5,[[.int .i64 (nR s),.int .i64 (nC s),.nils,vb,.lsl gc 1 0 (nC s)]]⟩)⟩,⟨by first | exact o | exact o.cU fun x hx y hy=>(by grind [aA]),f0,fc,fp,Ne.symm ncp,(by grind [aA]),(by grind [aA]),(by grind [aA]),(by grind [aA]),s14,hgc,hgp⟩,rfl,by simp,by first | exact Sub.refl _ | exact sub_eq (by simp)| (intro x y hx;simp only[aA] at hx ⊢;grind)⟩
    ·simp[ew,hv]
     intro gp hgp
     intros
     have hbp:b1 gp=none:=by first | assumption | (simp only[aA];grind)
     have fp:=aR s8 hbp
     have s13:Sub b0 (upd (b1) gp (some ⟨5,[[.int .i64 0,.int .i64 0,.nils,.nils,.nils]]⟩)):=fun x y hx=>(by rw[aG _ _ _ _ (fun e=>by rw[e,fp] at hx;cases hx)];exact s8 x y hx)
     refine⟨by first | exact s13 | (intro x y hx;have:=s13 x y hx;simp only[aA] at this ⊢;grind),?_⟩
     refine Dq 12 false ?_
     simp[ew,hv]
     refine⟨by first | exact s13 | (intro x y hx;have:=s13 x y hx;simp only[aA] at this ⊢;grind),?_⟩
     refine Dq 14 true ?_
     have ncp:gp≠gc:=by grind [aA]
     simp[ew,hv,hbp,ncp,Ne.symm ncp]
     have s14:Sub b0 (upd (upd (b1) gp (some ⟨5,[[.int .i64 0,.int .i64 0,.nils,.nils,.nils]]⟩)) gp (some ⟨5,[[.int .i64 (nR s),.int .i64 (nC s),.nils,vb,.lsl gc 1 0 (nC s)]]⟩)):=fun x y hx=>(by rw[aG _ _ _ _ (fun e=>by rw[e,fp] at hx;cases hx)];exact s13 x y hx)
     refine Dd ?_
     rw[aH]
     exact⟨⟨vb,gb,gc,gp,upd (upd (b1) gp (some ⟨5,[[.int .i64 0,.int .i64 0,.nils,.nils,.nils]]⟩)) gp (some ⟨5,[[.int .i64 (nR s),.int .i64 (nC s),.nils,vb,.lsl gc 1 0 (nC s)]]⟩)⟩,⟨by first | exact o | exact o.cU fun x hx y hy=>(by grind [aA]),f0,fc,fp,Ne.symm ncp,(by grind [aA]),(by grind [aA]),(by grind [aA]),(by grind [aA]),s14,hgc,hgp⟩,rfl,by simp,by first | exact Sub.refl _ | exact sub_eq (by simp)| (intro x y hx;simp only[aA] at hx ⊢;grind)⟩
   ·simp[ew]
    intro gp hgp
    intros
    have hbp:upd (b0) gc (some ⟨1,List.replicate (nC s) [.int .i64 0]⟩) gp=none:=by first | assumption | (simp only[aA];grind)
    have fp:=aR s11 hbp
    have s13:Sub b0 (upd (upd (b0) gc (some ⟨1,List.replicate (nC s) [.int .i64 0]⟩)) gp (some ⟨5,[[.int .i64 0,.int .i64 0,.nils,.nils,.nils]]⟩)):=fun x y hx=>(by rw[aG _ _ _ _ (fun e=>by rw[e,fp] at hx;cases hx)];exact s11 x y hx)
    refine⟨by first | exact s13 | (intro x y hx;have:=s13 x y hx;simp only[aA] at this ⊢;grind),?_⟩
    refine Dq 8 false ?_
    simp[ew]
    refine cQ (kQ s l hL) fun vb gb b1 o f fr=> ?_
    have hgb: ∀x,x∈gb→ ∃y,b1 x=some y:=o.has
    have hv:=jN o
    have f0: ∀x,x∈gb→b0 x=none:=fun x hx=>aR s13 (f x hx)
    have s8:Sub b0 b1:=fun x y hx=>bJ f fr (s13 x y hx)
    simp
    refine⟨by first | exact s8 | (intro x y hx;have:=s8 x y hx;simp only[aA] at this ⊢;grind),?_⟩
    refine Dq 12 false ?_
    simp[ew,hv]
    refine⟨by first | exact s8 | (intro x y hx;have:=s8 x y hx;simp only[aA] at this ⊢;grind),?_⟩
    refine Dq 14 true ?_
    have ncp:gp≠gc:=by grind [aA]
    have hq:b1 gp=some ⟨5,[[.int .i64 0,.int .i64 0,.nils,.nils,.nils]]⟩:=by grind [aA]
    simp[ew,hv,hbp,ncp,Ne.symm ncp,hq]
    have s14:Sub b0 (upd (b1) gp (some ⟨5,[[.int .i64 (nR s),.int .i64 (nC s),.nils,vb,.lsl gc 1 0 (nC s)]]⟩)):=fun x y hx=>(by rw[aG _ _ _ _ (fun e=>by rw[e,fp] at hx;cases hx)];exact s8 x y hx)
    refine Dd ?_
    rw[aH]
    exact⟨⟨vb,gb,gc,gp,upd (b1) gp (some ⟨5,[[.int .i64 (nR s),.int .i64 (nC s),.nils,vb,.lsl gc 1 0 (nC s)]]⟩)⟩,⟨by first | exact o | exact o.cU fun x hx y hy=>(by grind [aA]),f0,fc,fp,Ne.symm ncp,(by grind [aA]),(by grind [aA]),(by grind [aA]),(by grind [aA]),s14,hgc,hgp⟩,rfl,by simp,by first | exact Sub.refl _ | exact sub_eq (by simp)| (intro x y hx;simp only[aA] at hx ⊢;grind)⟩
  ·simp[ew]
   intro gp hgp
   intros
   have hbp:b0 gp=none:=by first | assumption | (simp only[aA];grind)
   have fp:=aR (Sub.refl b0) hbp
   have s13:Sub b0 (upd (b0) gp (some ⟨5,[[.int .i64 0,.int .i64 0,.nils,.nils,.nils]]⟩)):=fun x y hx=>(by rw[aG _ _ _ _ (fun e=>by rw[e,fp] at hx;cases hx)];exact(Sub.refl b0) x y hx)
   refine⟨by first | exact s13 | (intro x y hx;have:=s13 x y hx;simp only[aA] at this ⊢;grind),?_⟩
   refine Dw 8 11 false false ?_ ?_
   ·simp[ew]
    refine cQ (kQ s l hL) fun vb gb b1 o f fr=> ?_
    have hgb: ∀x,x∈gb→ ∃y,b1 x=some y:=o.has
    have hv:=jN o
    have f0: ∀x,x∈gb→b0 x=none:=fun x hx=>aR s13 (f x hx)
    have s8:Sub b0 b1:=fun x y hx=>bJ f fr (s13 x y hx)
    simp
    refine⟨by first | exact s8 | (intro x y hx;have:=s8 x y hx;simp only[aA] at this ⊢;grind),?_⟩
    refine Dq 11 false ?_
    simp[ew,hv]
    refine⟨by omega,by unfold maxLen;omega,fun gc hgc=> ?_⟩
    intros
    have hbc:b1 gc=none:=by first | assumption | (simp only[aA];grind)
    have fc:=aR s8 hbc
    have s11:Sub b0 (upd (b1) gc (some ⟨1,List.replicate (nC s) [.int .i64 0]⟩)):=fun x y hx=>(by rw[aG _ _ _ _ (fun e=>by rw[e,fc] at hx;cases hx)];exact s8 x y hx)
    refine⟨by first | exact s11 | (intro x y hx;have:=s11 x y hx;simp only[aA] at this ⊢;grind),?_⟩
    refine Dq 12 false ?_
    simp[ew,hv]
    refine⟨by first | exact s11 | (intro x y hx;have:=s11 x y hx;simp only[aA] at this ⊢;grind),?_⟩
    refine Dq 14 true ?_
    have ncp:gp≠gc:=by grind [aA]
    have hq:b1 gp=some ⟨5,[[.int .i64 0,.int .i64 0,.nils,.nils,.nils]]⟩:=by grind [aA]
    simp[ew,hv,hbp,ncp,Ne.symm ncp,hq]
    have s14:Sub b0 (upd (upd (b1) gc (some ⟨1,List.replicate (nC s) [.int .i64 0]⟩)) gp (some ⟨5,[[.int .i64 (nR s),.int .i64 (nC s),.nils,vb,.lsl gc 1 0 (nC s)]]⟩)):=fun x y hx=>(by rw[aG _ _ _ _ (fun e=>by rw[e,fp] at hx;cases hx)];exact s11 x y hx)
    refine Dd ?_
    rw[aH]
    exact⟨⟨vb,gb,gc,gp,upd (upd (b1) gc (some ⟨1,List.replicate (nC s) [.int .i64 0]⟩)) gp (some ⟨5,[[.int .i64 (nR s),.int .i64 (nC s),.nils,vb,.lsl gc 1 0 (nC s)]]⟩)⟩,⟨by first | exact o | exact o.cU fun x hx y hy=>(by grind [aA]),f0,fc,fp,Ne.symm ncp,(by grind [aA]),(by grind [aA]),(by grind [aA]),(by grind [aA]),s14,hgc,hgp⟩,rfl,by simp,by first | exact Sub.refl _ | exact sub_eq (by simp)| (intro x y hx;simp only[aA] at hx ⊢;grind)⟩
   ·simp[ew]
    refine⟨by omega,by unfold maxLen;omega,fun gc hgc=> ?_⟩
    intros
    have hbc:upd (b0) gp (some ⟨5,[[.int .i64 0,.int .i64 0,.nils,.nils,.nils]]⟩) gc=none:=by first | assumption | (simp only[aA];grind)
    have fc:=aR s13 hbc
    have s11:Sub b0 (upd (upd (b0) gp (some ⟨5,[[.int .i64 0,.int .i64 0,.nils,.nils,.nils]]⟩)) gc (some ⟨1,List.replicate (nC s) [.int .i64 0]⟩)):=fun x y hx=>(by rw[aG _ _ _ _ (fun e=>by rw[e,fc] at hx;cases hx)];exact s13 x y hx)
    refine⟨by first | exact s11 | (intro x y hx;have:=s11 x y hx;simp only[aA] at this ⊢;grind),?_⟩
    refine Dq 8 false ?_
    simp[ew]
    refine cQ (kQ s l hL) fun vb gb b1 o f fr=> ?_
    have hgb: ∀x,x∈gb→ ∃y,b1 x=some y:=o.has
    have hv:=jN o
    have f0: ∀x,x∈gb→b0 x=none:=fun x hx=>aR s11 (f x hx)
    have s8:Sub b0 b1:=fun x y hx=>bJ f fr (s11 x y hx)
    simp
    refine⟨by first | exact s8 | (intro x y hx;have:=s8 x y hx;simp only[aA] at this ⊢;grind),?_⟩
    refine Dq 12 false ?_
    simp[ew,hv]
    refine⟨by first | exact s8 | (intro x y hx;have:=s8 x y hx;simp only[aA] at this ⊢;grind),?_⟩
    refine Dq 14 true ?_
    have ncp:gp≠gc:=by grind [aA]
    have hq:b1 gp=some ⟨5,[[.int .i64 0,.int .i64 0,.nils,.nils,.nils]]⟩:=by grind [aA]
    simp[ew,hv,hbp,ncp,Ne.symm ncp,hq]
    have s14:Sub b0 (upd (b1) gp (some ⟨5,[[.int .i64 (nR s),.int .i64 (nC s),.nils,vb,.lsl gc 1 0 (nC s)]]⟩)):=fun x y hx=>(by rw[aG _ _ _ _ (fun e=>by rw[e,fp] at hx;cases hx)];exact s8 x y hx)
    refine Dd ?_
    rw[aH]
    exact⟨⟨vb,gb,gc,gp,upd (b1) gp (some ⟨5,[[.int .i64 (nR s),.int .i64 (nC s),.nils,vb,.lsl gc 1 0 (nC s)]]⟩)⟩,⟨by first | exact o | exact o.cU fun x hx y hy=>(by grind [aA]),f0,fc,fp,Ne.symm ncp,(by grind [aA]),(by grind [aA]),(by grind [aA]),(by grind [aA]),s14,hgc,hgp⟩,rfl,by simp,by first | exact Sub.refl _ | exact sub_eq (by simp)| (intro x y hx;simp only[aA] at hx ⊢;grind)⟩
 rintro⟨vb,gb,gc,gp,b1⟩ ⟨o,f0,fc,fp,ncp,nc,np,bc,bp,hsb,hgc,hgp⟩
 simp only at o f0 fc fp ncp nc np bc bp hsb hgc hgp
 refine P7 (g:=gp) (s:=5) (els:= [[.int .i64 (nR s),.int .i64 (nC s),.nils,vb,.lsl gc 1 0 (nC s)]]) 0 3 bp rfl rfl o np fun gB b2 b2p b2B nBp aTA Bor b2x=> ?_
 have nBc:gB≠gc:=fun e=>by
  rcases Bor with h | h
  ·exact nc (e▸h)
  ·have h:b1 gB=none:=h
   rw[e,bc] at h;cases h
 have fB:b0 gB=none:=by
  rcases Bor with h | h
  ·exact f0 gB h
  ·exact aR hsb h
 have b2c:=(b2x gc ncp (Ne.symm nBc)).trans bc
 have s2:Sub b0 b2:=fun x y hx=>by
  rw[b2x x (fun e=>by rw[e,fp] at hx;cases hx) (fun e=>by rw[e,fB] at hx;cases hx)];exact hsb x y hx
 clear bp bc b2x hsb Bor o f0 nc np
 rw[show(right s l).length=nR s from eW s l] at b2p
 refine cY (g:=gp) 0 2 1 (s:=5) (els:= [[.int .i64 (nR s),.int .i64 (nC s),.nils,.lsl gB 1 0 (nR s),.lsl gc 1 0 (nC s)]]) b2p rfl rfl fun ga hga aCE=> ?_
 have hga:b2 ga=none:=hga
 have fa:b0 ga=none:=aR s2 hga
 have nac:ga≠gc:=fun e=>by rw[e,b2c] at hga;cases hga
 have naB:ga≠gB:=fun e=>by rw[e,b2B] at hga;cases hga
 refine aN ?_
 refine aC ?_
 simp
 refine aJ (fun p:Nat×PS=> [(4,.loc gr 5 0 0),(5,.sl (iv (who s))),(6,.sl (iv (sgn s))),(7,.int .i64 s.ms.length),(8,.sl (iv (iF s))),(9,.loc gp 5 0 0),(10,.int .i64 p.1)]) (fun p=>p.2.b) (fun p=>p.1≤nR s∧p.2.n=p.1*nC s∧PJ b0 s l gp gB gc p.2) (fun p=>nR s - p.1) _ (0,⟨0,ga,_⟩) ⟨Nat.zero_le _,by simp,⟨?_,?_,?_,?_,aCE,nac,naB,fa,?_,fun _=>rfl⟩⟩ ⟨rfl,by simp,sub_eq rfl⟩ ?_
 ·simp[Ne.symm aCE]
 ·simp[Ne.symm nac,Ne.symm ncp,ncp,b2c,iv]
 ·simp[Ne.symm naB,nBp,b2B]
 ·simp[aTo,iv]
 ·intro x y hx
  have h1:x≠gp:=fun e=>by rw[e,fp] at hx;cases hx
  have h2:x≠ga:=fun e=>by rw[e,fa] at hx;cases hx
  simp[h1,h2,s2 x y hx]
 clear hga aCE nac naB fa b2p s2
 rintro⟨i,n,g,b⟩ ⟨hi,hn,P⟩
 simp only at hi hn
 subst hn
 have hP:=P.hp
 simp only at hP
 refine aN ?_
 refine aC ?_
 simp[hP]
 refine⟨fun h=> ?_,fun h=> ?_⟩
 ·refine aN (aV ?_)
  refine aC ?_
  simp[ew]
  refine aJ (fun p:Nat×PS=> [(4,.loc gr 5 0 0),(5,.sl (iv (who s))),(6,.sl (iv (sgn s))),(7,.int .i64 s.ms.length),(8,.sl (iv (iF s))),(9,.loc gp 5 0 0),(10,.int .i64 i),(42,.sl (iv (who s))),(43,.int .i64 (nC s)),(44,.int .i64 p.1)]) (fun p=>p.2.b) (fun p=>p.1≤nC s∧p.2.n=i*nC s+p.1∧PJ b0 s l gp gB gc p.2) (fun p=>nC s - p.1) _ (0,⟨i*nC s,g,b⟩) ⟨Nat.zero_le _,rfl,P⟩ ⟨rfl,by simp,sub_eq rfl⟩ ?_
  rintro⟨c,n,g,b⟩ ⟨hc,hn,P⟩
  simp only at hc hn
  subst hn
  obtain⟨hp,hcc,hBB,ha,npp,npc,npB,hf,jR,cK⟩:=P
  simp only at hp hcc hBB ha npp npc npB hf jR cK
  refine aE ?_
  simp
  refine aE ?_
  simp
  refine⟨fun hcl=> ?_,fun hcl=> ?_⟩
  ·refine aN (aV ?_)
   have qw:=Sh s c hcl
   have qs:=Ob s c hcl
   obtain⟨⟨k0,k1⟩,k2⟩:=nX s c hcl
   refine aE ?_
   simp[-eK,qw]
   obtain⟨⟨k,sg⟩,hk⟩: ∃k,dJ s c=k:=⟨_,rfl⟩
   rw[hk] at qw qs k0 k1 k2 ⊢
   simp only at qw qs k0 k1 k2 ⊢
   have m1:i*s.ms.length≤12*8:=Nat.mul_le_mul (by omega) (by omega)
   have mi:((i*s.ms.length:Nat):Int)=(i:Int)*s.ms.length:=by simp
   have w1:IntKind.i64.wrap ((i:Int)*s.ms.length)=(i:Int)*s.ms.length:=i64_in (by omega) (by omega)
   have w2:IntKind.i64.wrap ((i:Int)*s.ms.length+k)=(i:Int)*s.ms.length+k:=i64_in (by omega) (by omega)
   have e1:((i:Int)*s.ms.length+k).toNat=i*s.ms.length+k.toNat:=by omega
   have ei:i*s.ms.length+k.toNat<(iF s).length:=by
    rw[S5]
    have:(i+1)*s.ms.length≤nR s*s.ms.length:=Nat.mul_le_mul_right _ h
    rw[Nat.add_mul] at this;omega
   have qr:=xJ ei
   rw[←e1] at qr
   have bd:=G4 hs (i*s.ms.length+k.toNat)
   rw[←e1] at bd
   have en:ent s i c=sg*lat (iF s) ((i:Int)*s.ms.length+k).toNat:=by unfold ent;rw[hk,e1]
   have w3:IntKind.i64.wrap (sg*lat (iF s) ((i:Int)*s.ms.length+k).toNat)=ent s i c:=by
    rw[en];rcases k2 with rfl | rfl<;>exact i64_in (by omega) (by omega)
   have p1:0≤(i:Int)*s.ms.length+k:=by omega
   have mc:(i+1)*nC s≤12*16:=Nat.mul_le_mul (by omega) (by omega)
   rw[Nat.add_mul] at mc
   obtain⟨m,hm⟩: ∃m,i*nC s+c=m:=⟨_,rfl⟩
   rw[hm] at hp ha cK
   have tka:(iv (aTo s m)).take m=iv (aTo s m):=List.take_of_length_le (by simp)
   refine dA aM (rem b g) (dC b g) [0,1,2,3,4,5,6,7,8,9,10,11,12,13,14] 4 18 (by kernel_rfl) ?_
   simp[-eK,Ne.symm npp,hp,w1,w2,w3,qs,qr,p1]
   refine Dq 15 false ?_
   simp
   intro g4 hg4 hb4
   have n4g:g4≠g:=fun e=>by rw[e,ha] at hb4;cases hb4
   have n4p:g4≠gp:=fun e=>by rw[e,hp] at hb4;cases hb4
   have rZ: ∀X,Sub (rem b g) (upd b g4 X):=fun X z y hz=>by
    rw[aF] at hz
    rw[aA]
    grind
   refine⟨rZ _,Dq 16 false ?_⟩
   simp[n4g,Ne.symm n4g,appV,elsV,Int.not_lt.2 hg4,ha,tka]
   have hsn:iv (aTo s m)++ [[.int .i64 (ent s i c)]]=iv (aTo s (m+1)):=by rw[←hm,Tm s i c hcl,aX,kJ]
   rw[hsn]
   refine⟨by omega,fun gN hgN hbN=> ?_⟩
   have nN:gN≠gp∧gN≠gc∧gN≠gB∧gN≠g4∧b0 gN=none:=by
    by_cases e:gN=g
    ·subst e
     exact⟨npp,npc,npB,Ne.symm n4g,hf⟩
    ·obtain⟨q1,q2⟩:=hbN e
     exact⟨fun e=>(by rw[e,hp] at q2;cases q2),fun e=>(by rw[e,hcc] at q2;cases q2),fun e=>(by rw[e,hBB] at q2;cases q2),q1,aR jR q2⟩
   obtain⟨nNp,nNc,nNB,nN4,fN⟩:=nN
   have iE: ∀X Y,Sub (rem b g) (upd (rem (upd b g4 X) g) gN Y):=fun X Y z y hz=>by
    rw[aF] at hz
    rw[aA,aF,aA]
    grind
   have lE: ∀X Y Z,Sub (upd (upd (rem b g) gN Y) gp Z) (upd (upd (rem (upd b g4 X) g) gN Y) gp Z):=fun X Y Z z y hz=>by
    simp only[aA,aF] at hz ⊢
    grind
   refine⟨iE _ _,Dq 17 false ?_⟩
   simp
   refine⟨iE _ _,Dq 18 true ?_⟩
   simp[Ne.symm nNp,Ne.symm npp,n4p,Ne.symm n4p,hp]
   refine Dd ?_
   have w4:IntKind.i64.wrap ((c:Int)+1)=c+1:=i64_in (by omega) (by omega)
   simp
   refine aC ?_
   simp[w4,aB]
   obtain⟨b4,iW⟩: ∃b4,b4=upd (upd (rem b g) gN (some ⟨1,iv (aTo s (m+1))⟩)) gp (some ⟨5,[[.int .i64 (nR s),.int .i64 (nC s),.lsl gN 1 0 (m+1),.lsl gB 1 0 (nR s),.lsl gc 1 0 (nC s)]]⟩):=⟨_,rfl⟩
   refine⟨c+1,⟨m+1,gN,b4⟩,⟨by omega,by simp only;omega,⟨by rw[iW];simp,by rw[iW];simp[Ne.symm nNc,Ne.symm npc,ncp,hcc],by rw[iW];simp[Ne.symm nNB,Ne.symm npB,nBp,hBB],by rw[iW];simp[nNp],nNp,nNc,nNB,fN,fun x y hx=> ?_,fun e=>by simp only at e;omega⟩⟩,by omega,rfl,by simp,by rw[iW];exact lE _ _ _⟩
   have h1:x≠gp:=fun e=>by rw[e,fp] at hx;cases hx
   have h2:x≠gN:=fun e=>by rw[e,fN] at hx;cases hx
   have h3:x≠g:=fun e=>by rw[e,hf] at hx;cases hx
   simp only
   rw[iW];simp[h1,h2,h3];exact jR x y hx
  ·have:c=nC s:=by omega
   subst this
   have w5:IntKind.i64.wrap ((i:Int)+1)=i+1:=i64_in (by omega) (by omega)
   refine aC ?_
   simp[w5,aB]
   refine⟨i+1,⟨i*nC s+nC s,g,b⟩,⟨by omega,by rw[Nat.add_mul];simp,⟨hp,hcc,hBB,ha,npp,npc,npB,hf,jR,cK⟩⟩,by omega,rfl,by simp,sub_eq rfl⟩
 ·have:i=nR s:=by omega
  subst this
  obtain⟨hp,hcc,hBB,ha,npp,npc,npB,hf,jR,cK⟩:=P
  simp only at hp hcc hBB ha npp npc npB hf jR cK
  have nrp:gr≠gp:=fun e=>by rw[e,fp] at b0r;cases b0r
  have nrg:gr≠g:=fun e=>by rw[e,hf] at b0r;cases b0r
  have nrB:gr≠gB:=fun e=>by rw[e,fB] at b0r;cases b0r
  have nrc:gr≠gc:=fun e=>by rw[e,fc] at b0r;cases b0r
  have bgr:=jR _ _ b0r
  refine aC ?_
  simp[hp,bgr]
  have fl: ∀x,b0 x=none→bl x=none:=fun x hx=>aR s0 hx
  refine fH [.agg [.int .i64 (nR s),.int .i64 (nC s),.lsl g 1 0 (nR s*nC s),.lsl gB 1 0 (nR s),.lsl gc 1 0 (nC s)]] ([g]++([gB]++ [gc])) (by simp) (Fy.2 ⟨_,_,_,[g],[gB],[gc],rfl,rfl,by simp[npB,npc],by simp[nBc],dI.2 (.inr ⟨g,by simp[cX],rfl,?_,cK⟩),dI.2 (.inr ⟨gB,by simp[cX,eW],rfl,?_,aTA⟩),dI.2 (.inr ⟨gc,by simp[cX],rfl,?_,by omega⟩)⟩) (by simp[fl _ hf,fl _ fB,fl _ fc]) fun x y hx=> ?_
  ·show upd b gr _ g=_
   rw[aG _ _ _ _ (Ne.symm nrg)];exact ha
  ·show upd b gr _ gB=_
   rw[aG _ _ _ _ (Ne.symm nrB)];exact hBB
  ·show upd b gr _ gc=_
   rw[aG _ _ _ _ (Ne.symm nrc)];exact hcc
  ·show upd b gr _ x=_
   rw[aG _ _ _ _ (fun e=>by rw[e,hbr] at hx;cases hx)]
   exact jR x y (s0 x y hx)
end Go.Proofs.YticmgmemnpcbbaaGreat.Vm

namespace Go.Proofs.YticmgmemnpcbbaaGreat.Vm
open Go Go.Proofs
set_option linter.unusedSimpArgs false
set_option linter.unusedVariables false
structure nG (b : Int → Option Blk) (g0 : Int) (ids : List Int) (r c : Nat) (M : MF) : Prop where
 len:ids.length=r
 top:b g0=some ⟨1,ids.map fun g=> [.lsl g 1 0 c]⟩
 row: ∀(i:Nat) (g:Int),ids[i]? =some g→b g=some ⟨1,fvs (rowOf c M i)⟩
 pos: ∀g,g∈ids→0≤g
 inj: ∀(i j:Nat) (g:Int),ids[i]? =some g→ids[j]? =some g→i=j
 no0:g0∉ids
theorem xH {c:Nat} {M M':MF} {i:Nat} (h: ∀j,j<c→M i j=M' i j):rowOf c M i=rowOf c M' i:=by
 unfold rowOf
 exact List.map_congr_left fun j hj=>h j (by simpa using hj)
theorem nG.congr {b:Int→Option Blk} {g0:Int} {ids:List Int} {r c:Nat} {M M':MF} (h:nG b g0 ids r c M) (hM: ∀i j,i<r→j<c→M i j=M' i j):nG b g0 ids r c M':=
 ⟨h.len,h.top,fun i g hi=>by
   rw[h.row i g hi,xH fun j hj=>hM i j (by rw[←h.len];exact(List.getElem?_eq_some_iff.1 hi).1) hj],h.pos,h.inj,h.no0⟩
theorem nG.put {b:Int→Option Blk} {g0 g:Int} {ids:List Int} {r c i:Nat} {M M':MF} (h:nG b g0 ids r c M) (hi:ids[i]? =some g) (hM: ∀a j,a≠i→j<c→M a j=M' a j):nG (upd b g (some ⟨1,fvs (rowOf c M' i)⟩)) g0 ids r c M':=by
 have hm:=List.mem_of_getElem? hi
 refine⟨h.len,?_,fun k g' hk=> ?_,h.pos,h.inj,h.no0⟩
 ·rw[aG _ _ _ _ (fun e=>h.no0 (by rw[e];exact hm))];exact h.top
 ·by_cases e:k=i
  ·subst e
   rw[hi] at hk;cases hk
   rw[aZ]
  ·have hne:g'≠g:=fun e2=>e (h.inj k i g (by rw[hk,e2]) hi)
   rw[aG _ _ _ _ hne,h.row k g' hk,xH fun j hj=>hM k j e hj]
theorem nG.cU {b b':Int→Option Blk} {g0:Int} {ids:List Int} {r c:Nat} {M:MF} (h:nG b g0 ids r c M) (hk: ∀x y,x=g0∨x∈ids→b x=some y→b' x=some y):nG b' g0 ids r c M:=
 ⟨h.len,hk _ _ (.inl rfl) h.top,fun i g hi=>hk _ _ (.inr (List.mem_of_getElem? hi)) (h.row i g hi),h.pos,h.inj,h.no0⟩
def aV9 (ids:List Int) (i n:Nat) (gi gn:Int):List Int:=(ids.set i gn).set n gi
structure aWQ (b : Int → Option Blk) (gr g0 gp : Int) (ids : List Int) (r c : Nat) (s : RS) (d : Option Rat) : Prop where
 fJ:nG b g0 ids r c s.M
 hd:b gr=some ⟨5,[[.int .i64 r,.int .i64 c,.lsl g0 1 0 r,.lsl gp 1 0 s.P.length,fv d]]⟩
 pv:b gp=some ⟨1,iv (pz s.P)⟩
 pn:gp<0→s.P= []
 dq:okQ d
 g00:0≤g0
 d1:gr≠g0
 d2:gr∉ids
 d3:gp≠gr
 d4:gp≠g0
 d5:gp∉ids
def Fr (bl b:Int→Option Blk) (gr g0:Int) (ids:List Int):Prop:= ∀x y,bl x=some y→x≠gr→x≠g0→x∉ids→b x=some y
def aYN (M:MF) (n k i j:Nat):MF:=fun a b=>if a<i∨a=i∧b<j then aKJ M n k a b else M a b
end Go.Proofs.YticmgmemnpcbbaaGreat.Vm

namespace Go.Proofs.YticmgmemnpcbbaaGreat.Lp
set_option linter.unusedSimpArgs false
set_option linter.unusedVariables false
def S :Nat→(Nat→Rat)→Rat
 | 0, _ => 0
 | n + 1, f => S n f + f n
theorem bO {f g:Nat→Rat} : ∀ {n:Nat},(∀i,i<n→f i=g i)→S n f=S n g
 | 0, _ => rfl
 | n + 1, h => by rw [S, S, bO (n := n) fun i hi => h i (by omega), h n (by omega)]
theorem jW {f:Nat→Rat} : ∀ {n:Nat},(∀i,i<n→f i=0)→S n f=0
 | 0, _ => rfl
 | n + 1, h => by rw [S, jW (n := n) fun i hi => h i (by omega), h n (by omega)]; grind
theorem By (f g:Nat→Rat): ∀n,S n (fun i=>f i+g i)=S n f+S n g
 | 0 => by simp [S]; grind
 | n + 1 => by rw [S, S, S, By f g n]; grind
theorem O3 (f g:Nat→Rat): ∀n,S n (fun i=>f i - g i)=S n f - S n g
 | 0 => by simp [S]; grind
 | n + 1 => by rw [S, S, S, O3 f g n]; grind
theorem jP (a:Rat) (f:Nat→Rat): ∀n,S n (fun i=>a*f i)=a*S n f
 | 0 => by simp [S]
 | n + 1 => by rw [S, S, jP a f n]; grind
theorem pD (a:Rat) (f:Nat→Rat) (n:Nat):S n (fun i=>f i*a)=S n f*a:=by
 rw[show(fun i=>f i*a)=fun i=>a*f i from funext fun i=>Rat.mul_comm _ _,jP,Rat.mul_comm]
theorem sR (f:Nat→Nat→Rat) (m:Nat): ∀n,S n (fun i=>S m fun j=>f i j)=S m fun j=>S n fun i=>f i j
 | 0 => by
   rw[S];symm;exact jW fun i _=>rfl
 | n + 1 => by
   rw[S,sR f m n,←By]
   rfl
theorem dQ {f:Nat→Rat} {k:Nat} : ∀ {n:Nat},k<n→(∀i,i<n→i≠k→f i=0)→S n f=f k
 | n + 1, hk, h => by
   rw[S]
   by_cases e:k=n
   ·subst e
    rw[jW fun i hi=>h i (by omega) (by omega)]
    grind
   ·rw[dQ (n:=n) (by omega) fun i hi hik=>h i (by omega) hik,h n (by omega) (by omega)]
    grind
theorem jV {f:Nat→Rat} : ∀ {n:Nat},(∀i,i<n→0≤f i)→0≤S n f
 | 0, _ => Rat.le_refl
 | n + 1, h => by
   have h1:=jV (n:=n) fun i hi=>h i (by omega)
   have h2:=h n (by omega)
   rw[S];grind
theorem Rq {f:Nat→Rat} {k:Nat} : ∀ {n:Nat},(∀i,i<n→0≤f i)→k<n→0<f k→0<S n f
 | n + 1, h, hk, hp => by
   have h1:=jV (n:=n) fun i hi=>h i (by omega)
   have h2:=h n (by omega)
   rw[S]
   by_cases e:k=n
   ·subst e;grind
   ·have:=Rq (n:=n) (fun i hi=>h i (by omega)) (by omega) hp
    grind
def skip (v:Nat→Nat→Rat) (j:Nat):Nat→Nat→Rat:=fun c i=>v (if c<j then c else c+1) (i+1)
def sg (j:Nat):Rat:=if j % 2=0 then 1 else -1
theorem Wb (j:Nat):sg (j+1)= - sg j:=by
 unfold sg
 by_cases h:j % 2=0
 ·rw[if_pos h,if_neg (by omega)]
 ·rw[if_neg h,if_pos (by omega)];grind
def det :Nat→(Nat→Nat→Rat)→Rat
 | 0, _ => 1
 | m + 1, v => S (m + 1) fun j => sg j * v j 0 * det m (skip v j)
theorem rI : ∀ {m:Nat} {v w:Nat→Nat→Rat},(∀j i,j<m→i<m→v j i=w j i)→det m v=det m w
 | 0, _, _, _ => rfl
 | m + 1, v, w, h => by
   rw[det,det]
   refine bO fun j hj=> ?_
   rw[h j 0 hj (by omega),rI (m:=m) (v:=skip v j) (w:=skip w j) fun c i hc hi=> ?_]
   unfold skip
   split
   ·exact h c (i+1) (by omega) (by omega)
   ·exact h (c+1) (i+1) (by omega) (by omega)
def put (v:Nat→Nat→Rat) (p:Nat) (x:Nat→Rat):Nat→Nat→Rat:=fun j=>if j=p then x else v j
theorem X2 (v:Nat→Nat→Rat) (p:Nat) (x:Nat→Rat):skip (put v p x) p=skip v p:=by
 funext c i
 unfold skip put
 split<;>(rw[if_neg (by omega)])
theorem rC (v:Nat→Nat→Rat) (p j:Nat) (x:Nat→Rat) (h:p≠j):skip (put v p x) j=put (skip v j) (if p<j then p else p - 1) fun i=>x (i+1):=by
 funext c i
 unfold skip put
 by_cases h1:c<j
 ·by_cases h2:p<j
  ·simp only[h1,h2,if_true]
   split<;>rfl
  ·simp only[h1,h2,if_true,if_false]
   rw[if_neg (by omega),if_neg (by omega)]
 ·by_cases h2:p<j
  ·simp only[h1,h2,if_true,if_false]
   rw[if_neg (by omega),if_neg (by omega)]
  ·simp only[h1,h2,if_false]
   by_cases h3:c+1=p
   ·rw[if_pos h3,if_pos (by omega)]
   ·rw[if_neg h3,if_neg (by omega)]
theorem rE (a b:Rat) (x y:Nat→Rat): ∀ {m:Nat} {p:Nat} (v:Nat→Nat→Rat),p<m→det m (put v p fun i=>a*x i+b*y i)=a*det m (put v p x)+b*det m (put v p y)
 | 0, p, v, hp => by omega
 | m + 1, p, v, hp => by
   rw[det,det,det,←jP,←jP,←By]
   refine bO fun j hj=> ?_
   by_cases h:p=j
   ·subst h
    simp only[X2]
    simp only[put,if_true]
    grind
   ·rw[rC _ _ _ _ h,rC _ _ _ _ h,rC _ _ _ _ h]
    have ih:=rE a b (fun i=>x (i+1)) (fun i=>y (i+1)) (m:=m) (p:=if p<j then p else p - 1) (skip v j) (by split<;>omega)
    rw[ih]
    have e: ∀z:Nat→Rat,put v p z j 0=v j 0:=fun z=>by simp[put,Ne.symm h]
    simp only[e]
    grind
theorem rM : ∀ {m:Nat} {p:Nat} (v:Nat→Nat→Rat),p+1<m→(∀i,i<m→v p i=v (p+1) i)→det m v=0
 | 0, p, v, hp, h => by omega
 | m + 1, p, v, hp, h => by
   rw[det]
   have hz: ∀j,j<m+1→j≠p→j≠p+1→sg j*v j 0*det m (skip v j)=0:=fun j hj h1 h2=>by
    have:det m (skip v j)=0:=by
     by_cases h3:j<p
     ·refine rM (p:=p - 1) _ (by omega) fun i hi=> ?_
      unfold skip
      rw[if_neg (by omega),if_neg (by omega),show p - 1+1=p by omega]
      exact h (i+1) (by omega)
     ·refine rM (p:=p) _ (by omega) fun i hi=> ?_
      unfold skip
      rw[if_pos (by omega),if_pos (by omega)]
      exact h (i+1) (by omega)
    rw[this];grind
   have he:det m (skip v p)=det m (skip v (p+1)):=rI fun c i hc hi=>by
    unfold skip
    by_cases h1:c<p
    ·rw[if_pos h1,if_pos (by omega)]
    ·by_cases h2:c=p
     ·subst h2
      rw[if_neg (by omega),if_pos (by omega)]
      exact(h (i+1) (by omega)).symm
     ·rw[if_neg (by omega),if_neg (by omega)]
   have h0:=h 0 (by omega)
   have key: ∀n,n≤m+1→S n (fun j=>sg j*v j 0*det m (skip v j))=if n=p+1 then sg p*v p 0*det m (skip v p) else 0:=by
    intro n
    induction n with
    | zero => intro _; rw [if_neg (by omega)]; rfl
    | succ n ih =>
      intro hn
      rw[S,ih (by omega)]
      by_cases e1:n=p
      ·subst e1
       rw[if_neg (by omega),if_pos rfl];grind
      ·by_cases e2:n=p+1
       ·subst e2
        rw[if_pos rfl,if_neg (by omega),Wb,he,h0];grind
       ·rw[if_neg (by omega),if_neg (by omega),hz n (by omega) e1 e2];grind
   rw[key (m+1) (Nat.le_refl _),if_neg (by omega)]
theorem zN (v:Nat→Nat→Rat) (p:Nat):put v p (v p)=v:=by
 funext j;unfold put;split
 ·rename_i h;rw[h]
 ·rfl
theorem put_comm (v:Nat→Nat→Rat) {p q:Nat} (h:p≠q) (x y:Nat→Rat):put (put v p x) q y=put (put v q y) p x:=by
 funext j;unfold put
 by_cases h1:j=q
 ·rw[if_pos h1,if_neg (by omega),if_pos h1]
 ·rw[if_neg h1]
  by_cases h2:j=p
  ·rw[if_pos h2];rw[if_pos h2]
  ·rw[if_neg h2,if_neg h2];rw[if_neg h1]
theorem Qz {m p:Nat} (v:Nat→Nat→Rat) (hp:p+1<m) (x y:Nat→Rat):det m (put (put v p x) (p+1) y)= - det m (put (put v p y) (p+1) x):=by
 have hz:det m (put (put v p fun i=>1*x i+1*y i) (p+1) fun i=>1*x i+1*y i)=0:=rM (p:=p) _ hp fun i hi=>by
  simp[put]
 rw[rE 1 1 x y (p:=p+1) _ hp,put_comm v (show p≠p+1 by omega) _ x,put_comm v (show p≠p+1 by omega) _ y,rE 1 1 x y (p:=p) _ (by omega),rE 1 1 x y (p:=p) _ (by omega)] at hz
 have z1:det m (put (put v (p+1) x) p x)=0:=rM (p:=p) _ hp fun i hi=>by simp[put]
 have z2:det m (put (put v (p+1) y) p y)=0:=rM (p:=p) _ hp fun i hi=>by simp[put]
 rw[put_comm v (show p≠p+1 by omega) x y,put_comm v (show p≠p+1 by omega) y x]
 rw[z1,z2] at hz
 grind
theorem O9 {m:Nat} : ∀(d p:Nat) (v:Nat→Nat→Rat),p+1+d<m→(∀i,i<m→v p i=v (p+1+d) i)→det m v=0
 | 0, p, v, hp, h => rM v hp h
 | d + 1, p, v, hp, h => by
   have e:v=put (put v (p+1+d) (v (p+1+d))) (p+1+d+1) (v (p+1+d+1)):=by rw[zN,zN]
   rw[e,Qz v (by omega)]
   have:det m (put (put v (p+1+d) (v (p+1+d+1))) (p+1+d+1) (v (p+1+d)))=0:=by
    refine O9 d p _ (by omega) fun i hi=> ?_
    unfold put
    rw[if_neg (show ¬ p=p+1+d+1 by omega),if_neg (show ¬ p=p+1+d by omega),if_neg (show ¬ p+1+d=p+1+d+1 by omega),if_pos rfl]
    exact h i hi
   rw[this];grind
theorem Qt {m p q:Nat} (v:Nat→Nat→Rat) (hp:p<m) (hq:q<m) (hn:p≠q) (h: ∀i,i<m→v p i=v q i):det m v=0:=by
 rcases Nat.lt_or_gt_of_ne hn with h1 | h1
 ·exact O9 (q - p - 1) p v (by omega) (by rw[show p+1+(q - p - 1)=q by omega];exact h)
 ·exact O9 (p - q - 1) q v (by omega) (by rw[show q+1+(p - q - 1)=p by omega];exact fun i hi=>(h i hi).symm)
theorem Sv {m p:Nat} (v:Nat→Nat→Rat) (hp:p<m):det m (put v p fun _=>0)=0:=by
 have:=rE 0 0 (fun _=>0) (fun _=>0) v hp
 simp only[Rat.zero_mul,Rat.zero_add] at this
 exact this
theorem Hf {m p:Nat} (v:Nat→Nat→Rat) (hp:p<m) (x:Nat→Rat) (u:Nat→Nat→Rat): ∀n,det m (put v p fun i=>S n fun j=>x j*u j i)=S n fun j=>x j*det m (put v p (u j))
 | 0 => by simp only [S]; exact Sv v hp
 | n + 1 => by
   have:=rE 1 (x n) (fun i=>S n fun j=>x j*u j i) (u n) v hp
   simp only[S]
   rw[←Hf v hp x u n]
   simp only[Rat.one_mul] at this
   exact this
theorem aBD {m p:Nat} (v:Nat→Nat→Rat) (hp:p<m) (x y:Nat→Rat) (h: ∀i,i<m→y i=S m fun j=>x j*v j i):det m (put v p y)=x p*det m v:=by
 have e:det m (put v p y)=det m (put v p fun i=>S m fun j=>x j*v j i):=rI fun j i hj hi=>by
  unfold put;split
  ·exact h i hi
  ·rfl
 rw[e,Hf v hp,dQ hp,zN]
 intro j hj hjp
 rw[Qt (p:=p) (q:=j) _ hp hj (Ne.symm hjp) (fun i hi=>by simp[put,hjp])]
 grind
def isInt (q:Rat):Prop:= ∃z:Int,q=z
theorem O4 {a b:Rat} :isInt a→isInt b→isInt (a+b):=fun⟨x,hx⟩ ⟨y,hy⟩=>⟨x+y,by rw[hx,hy,Rat.intCast_add]⟩
theorem lL {a b:Rat} :isInt a→isInt b→isInt (a*b):=fun⟨x,hx⟩ ⟨y,hy⟩=>⟨x*y,by rw[hx,hy,Rat.intCast_mul]⟩
theorem yX {f:Nat→Rat} : ∀ {n:Nat},(∀i,i<n→isInt (f i))→isInt (S n f)
 | 0, _ => ⟨0, rfl⟩
 | n + 1, h => O4 (yX fun i hi => h i (by omega)) (h n (by omega))
theorem Pp (j:Nat):isInt (sg j):=by
 unfold sg;split
 ·exact⟨1,rfl⟩
 ·exact⟨-1,rfl⟩
theorem P2 : ∀ {m:Nat} {v:Nat→Nat→Rat},(∀j i,j<m→i<m→isInt (v j i))→isInt (det m v)
 | 0, _, _ => ⟨1, rfl⟩
 | m + 1, v, h => by
   rw[det]
   refine yX fun j hj=>lL (lL (Pp j) (h j 0 hj (by omega))) (P2 fun c i hc hi=> ?_)
   unfold skip
   split
   ·exact h c (i+1) (by omega) (by omega)
   ·exact h (c+1) (i+1) (by omega) (by omega)
def lid (K:Nat):Nat→Nat
 | 0 => 1
 | m + 1 => (m + 1) * (K * lid K m)
theorem Hc {f:Nat→Rat} {B:Rat} : ∀ {n:Nat},(∀i,i<n→ -B≤f i∧f i≤B)→ -((n:Rat)*B)≤S n f∧S n f≤(n:Rat)*B
 | 0, _ => by simp [S]
 | n + 1, h => by
   have h1:=Hc (n:=n) fun i hi=>h i (by omega)
   have h2:=h n (by omega)
   rw[S,show((n+1:Nat):Rat)=(n:Rat)+1 by simp[Rat.natCast_add]]
   grind
theorem tS {a b A B:Rat} (ha: -A≤a∧a≤A) (hb: -B≤b∧b≤B): -(A*B)≤a*b∧a*b≤A*B:=by
 have h1:0≤(A - a)*(B+b):=Rat.mul_nonneg (by grind) (by grind)
 have h2:0≤(A+a)*(B - b):=Rat.mul_nonneg (by grind) (by grind)
 have h3:0≤(A - a)*(B - b):=Rat.mul_nonneg (by grind) (by grind)
 have h4:0≤(A+a)*(B+b):=Rat.mul_nonneg (by grind) (by grind)
 constructor<;>grind
theorem Gk {K:Nat} : ∀ {m:Nat} {v:Nat→Nat→Rat},(∀j i,j<m→i<m→ -(K:Rat)≤v j i∧v j i≤K)→ -(lid K m:Rat)≤det m v∧det m v≤lid K m
 | 0, _, _ => by simp [det, lid]; decide
 | m + 1, v, h => by
   rw[det,lid,Rat.natCast_mul,Rat.natCast_mul]
   refine Hc fun j hj=> ?_
   have h1:=h j 0 hj (by omega)
   have h2: -(lid K m:Rat)≤det m (skip v j)∧det m (skip v j)≤lid K m:=Gk fun c i hc hi=>by
    unfold skip
    split
    ·exact h c (i+1) (by omega) (by omega)
    ·exact h (c+1) (i+1) (by omega) (by omega)
   refine tS ?_ h2
   unfold sg
   split<;>grind
theorem En : ∀(m:Nat) (v:Nat→Nat→Rat),(∀j i,j<m→i<m→v j i=if j=i then 1 else 0)→det m v=1
 | 0, _, _ => rfl
 | m + 1, v, h => by
   rw[det,dQ (k:=0) (by omega)]
   ·rw[h 0 0 (by omega) (by omega),if_pos rfl,En m (skip v 0) fun c i hc hi=> ?_]
    ·simp[sg]
    ·unfold skip
     rw[if_neg (by omega),h (c+1) (i+1) (by omega) (by omega)]
     by_cases e:c=i
     ·rw[if_pos e,if_pos (by omega)]
     ·rw[if_neg e,if_neg (by omega)]
   ·intro j hj h0
    rw[h j 0 hj (by omega),if_neg h0]
    grind

structure Tab where
 X:Nat→Nat→Rat
 bs:Nat→Nat
def piv (t:Tab) (r k:Nat):Tab:=⟨fun i c=>if i=r then t.X r c / t.X r k else t.X i c - t.X i k*(t.X r c / t.X r k),fun i=>if i=r then k else t.bs i⟩
structure TI (m : Nat) (E : Nat → Nat → Rat) (t : Tab) : Prop where
 row: ∀i,i<m→ ∃U:Nat→Rat,∀c,t.X i c=S m fun l=>U l*E l c
 col: ∀l,l<m→ ∀c,E l c=S m fun i=>t.X i c*E l (t.bs i)
 unit: ∀i j,i<m→j<m→t.X i (t.bs j)=if i=j then 1 else 0
theorem sA (t:Tab) (r k c:Nat):(piv t r k).X r c=t.X r c / t.X r k:=by simp[piv]
theorem oD (t:Tab) {r i:Nat} (k c:Nat) (h:i≠r):(piv t r k).X i c=t.X i c - t.X i k*(t.X r c / t.X r k):=by simp[piv,h]
theorem dU (t:Tab) (r k:Nat):(piv t r k).bs r=k:=by simp[piv]
theorem cZ (t:Tab) {r i:Nat} (k:Nat) (h:i≠r):(piv t r k).bs i=t.bs i:=by simp[piv,h]
theorem Iv {m:Nat} (t:Tab) {r k:Nat} (hr:r<m) (hp:t.X r k≠0) (g:Nat→Rat) (c:Nat):
  S m (fun i=>(piv t r k).X i c*g ((piv t r k).bs i))=S m (fun i=>t.X i c*g (t.bs i)) - (t.X r c / t.X r k)*(S m (fun i=>t.X i k*g (t.bs i)) - g k):=by
 have e:S m (fun i=>(piv t r k).X i c*g ((piv t r k).bs i))=S m (fun i=>(t.X i c*g (t.bs i) - (t.X r c / t.X r k)*(t.X i k*g (t.bs i)))+if i=r then(t.X r c / t.X r k)*g k else 0):=bO fun i hi=>by
  by_cases h:i=r
  ·subst h
   rw[sA,dU,if_pos rfl]
   grind
  ·rw[oD t k c h,cZ t k h,if_neg h]
   grind
 rw[e,By,O3,jP,dQ (f:=fun i=>if i=r then(t.X r c / t.X r k)*g k else 0) hr (fun i _ h=>if_neg h),if_pos rfl]
 grind
theorem TI.piv {m:Nat} {E:Nat→Nat→Rat} {t:Tab} (h:TI m E t) {r k:Nat} (hr:r<m) (hp:t.X r k≠0):TI m E (piv t r k):=by
 refine⟨fun i hi=> ?_,fun l hl c=> ?_,fun i j hi hj=> ?_⟩
 ·obtain⟨V,hV⟩:=h.row r hr
  by_cases e:i=r
  ·subst e
   refine⟨fun l=>V l / t.X i k,fun c=> ?_⟩
   rw[sA,hV c]
   rw[show(fun l=>V l / t.X i k*E l c)=fun l=>(t.X i k)⁻¹*(V l*E l c) from funext fun l=>by grind,jP]
   grind
  ·obtain⟨U,hU⟩:=h.row i hi
   refine⟨fun l=>U l - t.X i k / t.X r k*V l,fun c=> ?_⟩
   rw[oD t k c e,hU c,hV c]
   rw[show(fun l=>(U l - t.X i k / t.X r k*V l)*E l c)=fun l=>U l*E l c - (t.X i k / t.X r k)*(V l*E l c) from funext fun l=>by grind,O3,jP]
   grind
 ·rw[Iv t hr hp (fun x=>E l x) c,←h.col l hl c,←h.col l hl k]
  grind
 ·by_cases ej:j=r
  ·subst ej
   rw[dU]
   by_cases ei:i=j
   ·subst ei;rw[sA,if_pos rfl];grind
   ·rw[oD t k k ei,if_neg ei];grind
  ·rw[cZ t k ej]
   have hrj:=h.unit r j hr hj
   rw[if_neg (Ne.symm ej)] at hrj
   by_cases ei:i=r
   ·subst ei;rw[sA,if_neg (Ne.symm ej),hrj];grind
   ·rw[oD t k _ ei,h.unit i j hi hj,hrj];grind
theorem TI.Yt {m:Nat} {E:Nat→Nat→Rat} {t t':Tab} (h:TI m E t) (h':TI m E t') {i:Nat} (hi:i<m) (c:Nat):t'.X i c=S m fun j=>t.X j c*t'.X i (t.bs j):=by
 obtain⟨U,hU⟩:=h'.row i hi
 rw[hU c]
 have e1:S m (fun l=>U l*E l c)=S m fun l=>S m fun j=>t.X j c*(U l*E l (t.bs j)):=bO fun l hl=>by
  rw[h.col l hl c,←jP]
  exact bO fun j _=>by grind
 rw[e1,sR]
 refine bO fun j hj=> ?_
 rw[jP,hU (t.bs j)]
theorem TI.uniq {m:Nat} {E:Nat→Nat→Rat} {t t':Tab} (h:TI m E t) (h':TI m E t') (hb: ∀i,i<m→t.bs i=t'.bs i) {i:Nat} (hi:i<m) (c:Nat):t'.X i c=t.X i c:=by
 rw[h.Yt h' hi c,dQ hi]
 ·rw[hb i hi,h'.unit i i hi hi,if_pos rfl];grind
 ·intro j hj hne
  rw[hb j hj,h'.unit i j hi hj,if_neg (Ne.symm hne)];grind
theorem TI.inj {m:Nat} {E:Nat→Nat→Rat} {t:Tab} (h:TI m E t) {i j:Nat} (hi:i<m) (hj:j<m) (e:t.bs i=t.bs j):i=j:=by
 have h1:=h.unit i i hi hi
 have h2:=h.unit i j hi hj
 rw[←e,h1] at h2
 by_cases hij:i=j
 ·exact hij
 ·rw[if_pos rfl,if_neg hij] at h2;exact absurd h2 (by decide)
def rc (m:Nat) (w:Nat→Rat) (t:Tab) (c:Nat):Rat:=w c - S m fun i=>t.X i c*w (t.bs i)
theorem mA {m:Nat} {E:Nat→Nat→Rat} {t:Tab} (h:TI m E t) (w:Nat→Rat) {j:Nat} (hj:j<m):rc m w t (t.bs j)=0:=by
 unfold rc
 rw[dQ hj,h.unit j j hj hj,if_pos rfl]
 ·grind
 ·intro i hi hne
  rw[h.unit i j hi hj,if_neg hne];grind
theorem Qq {m:Nat} (w:Nat→Rat) (t:Tab) {r k:Nat} (hr:r<m) (hp:t.X r k≠0) (c:Nat):rc m w (piv t r k) c=rc m w t c - rc m w t k*(t.X r c / t.X r k):=by
 unfold rc
 rw[Iv t hr hp w c]
 grind
theorem Rv {m:Nat} {E:Nat→Nat→Rat} {t t':Tab} (h:TI m E t) (h':TI m E t') (w:Nat→Rat) (c:Nat):rc m w t' c=rc m w t c+S m fun i=>t.X i c*rc m w t' (t.bs i):=by
 unfold rc
 have e1:S m (fun i=>t.X i c*(w (t.bs i) - S m fun j=>t'.X j (t.bs i)*w (t'.bs j)))=S m (fun i=>t.X i c*w (t.bs i)) - S m fun j=>t'.X j c*w (t'.bs j):=by
  rw[show(fun i=>t.X i c*(w (t.bs i) - S m fun j=>t'.X j (t.bs i)*w (t'.bs j)))=fun i=>t.X i c*w (t.bs i) - S m fun j=>t.X i c*t'.X j (t.bs i)*w (t'.bs j) from funext fun i=>by
   rw[←show t.X i c*(S m fun j=>t'.X j (t.bs i)*w (t'.bs j))=S m fun j=>t.X i c*t'.X j (t.bs i)*w (t'.bs j) from by
    rw[←jP];exact bO fun j _=>by grind]
   grind,O3,sR]
  congr 1
  refine bO fun j hj=> ?_
  rw[h.Yt h' hj c,←pD]
 rw[e1]
 grind
def Sol (m N:Nat) (X:Nat→Nat→Rat) (b:Nat) (x:Nat→Rat):Prop:= ∀i,i<m→S N (fun c=>X i c*x c)=X i b
theorem pL {m:Nat} {E:Nat→Nat→Rat} {t:Tab} (h:TI m E t) (N b:Nat) (x:Nat→Rat):Sol m N E b x ↔ Sol m N t.X b x:=by
 constructor
 ·intro hE i hi
  obtain⟨U,hU⟩:=h.row i hi
  have e:S N (fun c=>t.X i c*x c)=S m fun l=>U l*S N fun c=>E l c*x c:=by
   rw[show(fun c=>t.X i c*x c)=fun c=>S m fun l=>U l*E l c*x c from funext fun c=>by rw[hU c,←pD],sR]
   refine bO fun l _=> ?_
   rw[←jP]
   exact bO fun c _=>by grind
  rw[e,hU b]
  exact bO fun l hl=>by rw[hE l hl]
 ·intro hX l hl
  have e:S N (fun c=>E l c*x c)=S m fun i=>(S N fun c=>t.X i c*x c)*E l (t.bs i):=by
   rw[show(fun c=>E l c*x c)=fun c=>S m fun i=>t.X i c*E l (t.bs i)*x c from funext fun c=>by rw[h.col l hl c,←pD],sR]
   refine bO fun i _=> ?_
   rw[←pD]
   exact bO fun c _=>by grind
  rw[e,h.col l hl b]
  exact bO fun i hi=>by rw[hX i hi]
def iO (Q:Nat) (v:Nat→Rat):Prop:= ∃q,q<Q∧0<v q∧ ∀j,j<q→v j=0
def D9 (Q:Nat) (v:Nat→Rat):Prop:= ∀q,q<Q→v q=0
theorem Xi : ∀(Q:Nat) (v:Nat→Rat),iO Q v∨D9 Q v∨iO Q fun q=> - v q
 | 0, v => .inr (.inl fun q hq => by omega)
 | Q + 1, v => by
   rcases Xi Q v with ⟨q,h1,h2,h3⟩| h | ⟨q,h1,h2,h3⟩
   ·exact .inl ⟨q,by omega,h2,h3⟩
   ·by_cases h0:0<v Q
    ·exact .inl ⟨Q,by omega,h0,fun j hj=>h j hj⟩
    ·by_cases h1:v Q=0
     ·refine .inr (.inl fun q hq=> ?_)
      by_cases e:q=Q
      ·rw[e];exact h1
      ·exact h q (by omega)
     ·exact .inr (.inr ⟨Q,by omega,by grind,fun j hj=>by have:=h j hj;grind⟩)
   ·exact .inr (.inr ⟨q,by omega,h2,h3⟩)
theorem iQ {Q:Nat} {v:Nat→Rat} (h:iO Q v) (h0:D9 Q v):False:=by
 obtain⟨q,h1,h2,_⟩:=h
 rw[h0 q h1] at h2
 exact absurd h2 (by decide)
theorem V6 {Q:Nat} {v:Nat→Rat} (h:iO Q v) (h':iO Q fun q=> - v q):False:=by
 obtain⟨q,h1,h2,h3⟩:=h
 obtain⟨q',h1',h2',h3'⟩:=h'
 rcases Nat.lt_trichotomy q q' with h | h | h
 ·have:=h3' q h;grind
 ·subst h;grind
 ·have:=h3 q' h;grind
theorem Bh {Q:Nat} {u v:Nat→Rat} (h:iO Q u) (h':iO Q v):iO Q fun q=>u q+v q:=by
 obtain⟨q,h1,h2,h3⟩:=h
 obtain⟨q',h1',h2',h3'⟩:=h'
 rcases Nat.lt_trichotomy q q' with h | h | h
 ·exact⟨q,h1,by have:=h3' q h;grind,fun j hj=>by have:=h3 j hj;have:=h3' j (by omega);grind⟩
 ·subst h;exact⟨q,h1,by grind,fun j hj=>by have:=h3 j hj;have:=h3' j hj;grind⟩
 ·exact⟨q',h1',by have:=h3 q' h;grind,fun j hj=>by have:=h3 j (by omega);have:=h3' j hj;grind⟩
theorem N9 {Q:Nat} {u v:Nat→Rat} (h:iO Q u) (h':D9 Q v):iO Q fun q=>u q+v q:=by
 obtain⟨q,h1,h2,h3⟩:=h
 exact⟨q,h1,by have:=h' q h1;grind,fun j hj=>by have:=h3 j hj;have:=h' j (by omega);grind⟩
theorem tO {Q:Nat} {v:Nat→Rat} {a:Rat} (ha:0<a) (h:iO Q v):iO Q fun q=>a*v q:=by
 obtain⟨q,h1,h2,h3⟩:=h
 exact⟨q,h1,Rat.mul_pos ha h2,fun j hj=>by have:=h3 j hj;grind⟩
theorem eH {Q:Nat} {u v:Nat→Rat} (h:iO Q u) (e: ∀q,q<Q→u q=v q):iO Q v:=by
 obtain⟨q,h1,h2,h3⟩:=h
 exact⟨q,h1,by rw[←e q h1];exact h2,fun j hj=>by rw[←e j (by omega)];exact h3 j hj⟩
theorem F9 {Q:Nat} {f:Nat→Nat→Rat} : ∀ {n:Nat} {u:Nat→Rat},iO Q u→(∀i,i<n→iO Q (f i)∨D9 Q (f i))→iO Q fun q=>u q+S n fun i=>f i q
 | 0, u, h, _ => eH h fun q _ => by rw [S]; grind
 | n + 1, u, h, hf => by
   have ih:=F9 (n:=n) h fun i hi=>hf i (by omega)
   rcases hf n (by omega) with h1 | h1
   ·exact eH (Bh ih h1) fun q _=>by rw[S];grind
   ·exact eH (N9 ih h1) fun q _=>by rw[S];grind

structure Step (m b Q : Nat) (w : Nat → Nat → Rat) (F : Nat → Prop) (t : Tab) (r k : Nat) : Prop where
 hF:F k
 pos:iO Q fun q=>rc m (w q) t k
 first: ∀j,F j→j<k→ ¬ iO Q fun q=>rc m (w q) t j
 hr:r<m
 prk:0<t.X r k
 min: ∀i,i<m→0<t.X i k→t.X r b*t.X i k≤t.X i b*t.X r k
 tie: ∀i,i<m→0<t.X i k→t.X i b*t.X r k=t.X r b*t.X i k→t.bs r≤t.bs i
theorem gI (a b:Rat):a≤b∨b<a:=by grind
theorem aAB {a b:Rat} (ha:0≤a) (hb:0<b):0≤a / b:=by
 rcases gI 0 (a / b) with h | h
 ·exact h
 ·have h1:0<(- (a / b))*b:=Rat.mul_pos (by grind) hb
  have h2:a / b*b=a:=by grind
  grind
theorem Xu {a b:Rat} (ha:0<a) (hb:0<b):0<a / b:=by
 rcases gI (a / b) 0 with h | h
 ·have h1:0≤(- (a / b))*b:=Rat.mul_nonneg (by grind) (by grind)
  have h2:a / b*b=a:=by grind
  grind
 ·exact h
theorem Step.rhs {m b Q:Nat} {w:Nat→Nat→Rat} {F:Nat→Prop} {t:Tab} {r k:Nat} (h:Step m b Q w F t r k) (hb: ∀i,i<m→0≤t.X i b): ∀i,i<m→0≤(piv t r k).X i b:=by
 intro i hi
 have hr:=hb r h.hr
 have hth:=aAB hr h.prk
 by_cases e:i=r
 ·subst e;rw[sA];exact hth
 ·rw[oD t k b e]
  have hpk:=h.prk
  have h2:t.X r b / t.X r k*t.X r k=t.X r b:=by grind
  generalize t.X r b / t.X r k=θ at *
  by_cases hp:0<t.X i k
  ·have h1:=h.min i hi hp
   rw[←h2] at h1
   rcases gI 0 (t.X i b - t.X i k*θ) with h4 | h4
   ·exact h4
   ·have:=Rat.mul_pos (show 0< -(t.X i b - t.X i k*θ) by grind) hpk
    grind
  ·have h1:=hb i hi
   have h2:0≤(- t.X i k)*θ:=Rat.mul_nonneg (by grind) hth
   grind
theorem max_lt (f:Nat→Nat): ∀n,0<n→ ∃i,i<n∧ ∀j,j<n→f j≤f i
 | 1, _ => ⟨0, by omega, fun j hj => by rw [show j = 0 by omega]; exact Nat.le_refl _⟩
 | n + 2, _ => by
   obtain⟨i,h1,h2⟩:=max_lt f (n+1) (by omega)
   rcases Nat.lt_or_ge (f i) (f (n+1)) with h | h
   ·exact⟨n+1,by omega,fun j hj=>by
     by_cases e:j=n+1
     ·rw[e];exact Nat.le_refl _
     ·have:=h2 j (by omega);omega⟩
   ·exact⟨i,by omega,fun j hj=>by
     by_cases e:j=n+1
     ·rw[e];exact h
     ·exact h2 j (by omega)⟩
theorem aBR {P:Nat→Prop} {a c:Nat} (hac:a≤c) (ha:P a) (hc: ¬ P c): ∃n,a≤n∧n<c∧P n∧ ¬ P (n+1):=by
 induction c with
 | zero => exact absurd (by rw [show (0 : Nat) = a by omega]; exact ha) hc
 | succ c ih =>
   by_cases h:P c
   ·exact⟨c,by
     by_cases e:a=c+1
     ·exact absurd (e▸ha) hc
     ·omega,by omega,h,hc⟩
   ·have aTQ:a≤c:=by
     by_cases e:a=c+1
     ·exact absurd (e▸ha) hc
     ·omega
    obtain⟨n,h1,h2,h3,h4⟩:=ih aTQ h
    exact⟨n,h1,by omega,h3,h4⟩
section
variable {m b Q L : Nat} {E : Nat → Nat → Rat} {w : Nat → Nat → Rat} {F : Nat → Prop} {t : Nat → Tab} {r k : Nat → Nat}
theorem aO7 (hT: ∀n,n≤L→TI m E (t n)) (hb: ∀n,n≤L→ ∀i,i<m→0≤(t n).X i b) (hs: ∀n,n<L→Step m b Q w F (t n) (r n) (k n)) (hn: ∀n,n<L→t (n+1)=piv (t n) (r n) (k n))
  (hL:0<L) (he: ∀i,i<m→(t 0).bs i=(t L).bs i):False:=by
 have hne: ∀n,n<L→(t n).X (r n) (k n)≠0:=fun n h=>by have:=(hs n h).prk;grind
 have huq: ∀i,i<m→ ∀c,(t L).X i c=(t 0).X i c:=fun i hi c=>(hT 0 (by omega)).uniq (hT L (Nat.le_refl _)) he hi c
 have hzL: ∀q,rc m (w q) (t L) b=rc m (w q) (t 0) b:=fun q=>by
  unfold rc
  congr 1
  exact bO fun i hi=>by rw[huq i hi,he i hi]
 have aV0: ∀n,n≤L→(iO Q (fun q=>rc m (w q) (t 0) b - rc m (w q) (t n) b)∨(D9 Q fun q=>rc m (w q) (t 0) b - rc m (w q) (t n) b)∧ ∀n',n'<n→(t n').X (r n') b=0):=by
  intro n
  induction n with
  | zero => exact fun _ => .inr ⟨fun q _ => by grind, fun n' h => by omega⟩
  | succ n ih =>
    intro hnl
    have hst:=hs n (by omega)
    have hr0:=hb n (by omega) (r n) hst.hr
    have Sf: ∀q,rc m (w q) (t (n+1)) b=rc m (w q) (t n) b - rc m (w q) (t n) (k n)*((t n).X (r n) b / (t n).X (r n) (k n)):=fun q=>by
     rw[hn n (by omega),Qq _ _ hst.hr (hne n (by omega))]
    by_cases hz:(t n).X (r n) b=0
    ·have e: ∀q,rc m (w q) (t (n+1)) b=rc m (w q) (t n) b:=fun q=>by rw[Sf q,hz];grind
     rcases ih (by omega) with h | ⟨h1,h2⟩
     ·exact .inl (eH h fun q _=>by rw[e q])
     ·exact .inr ⟨fun q hq=>by have:=h1 q hq;simp only at this ⊢;rw[e q];exact this,fun n' h=>by
       by_cases en:n'=n
       ·rw[en];exact hz
       ·exact h2 n' (by omega)⟩
    ·have hth:=Xu (show 0<(t n).X (r n) b by grind) hst.prk
     have hp:=tO hth hst.pos
     refine .inl ?_
     rcases ih (by omega) with h | ⟨h1,h2⟩
     ·exact eH (Bh h hp) fun q _=>by rw[Sf q];grind
     ·exact eH (N9 hp h1) fun q _=>by rw[Sf q];grind
 have hz: ∀n,n<L→(t n).X (r n) b=0:=by
  rcases aV0 L (Nat.le_refl _) with h | ⟨_,h⟩
  ·exact absurd (fun q _=>by have:=hzL q;grind) fun h0=>iQ h h0
  ·exact h
 have hconst: ∀n,n<L→ ∀i,i<m→(t (n+1)).X i b=(t n).X i b:=fun n h i hi=>by
  rw[hn n h]
  by_cases e:i=r n
  ·subst e;rw[sA,hz n h];grind
  ·rw[oD _ _ _ e,hz n h];grind
 have Ty: ∀n,n≤L→ ∀c,(∃i,i<m∧(t n).bs i=c)→ ¬ iO Q fun q=>rc m (w q) (t n) c:=fun n h c ⟨i,hi,hc⟩ hp=>
  iQ hp fun q _=>by rw[←hc];exact mA (hT n h) _ hi
 have Oy: ∀n,n<L→ ∀c,(∃i,i<m∧(t n).bs i=c)→ ¬ (∃i,i<m∧(t (n+1)).bs i=c)→(t n).bs (r n)=c:=fun n h c ⟨i,hi,hc⟩ hno=>by
  by_cases e:i=r n
  ·rw[←e];exact hc
  ·exact absurd ⟨i,hi,by rw[hn n h,cZ _ _ e];exact hc⟩ hno
 have aBV: ∀n,n<L→ ∀c, ¬ (∃i,i<m∧(t n).bs i=c)→(∃i,i<m∧(t (n+1)).bs i=c)→k n=c:=fun n h c hno ⟨i,hi,hc⟩=>by
  rw[hn n h] at hc
  by_cases e:i=r n
  ·rw[e,dU] at hc;exact hc
  ·rw[cZ _ _ e] at hc;exact absurd ⟨i,hi,hc⟩ hno
 have aL4: ∀c,(∃i,i<m∧(t 0).bs i=c) ↔ (∃i,i<m∧(t L).bs i=c):=fun c=>by
  constructor
  ·rintro⟨i,hi,h⟩;exact⟨i,hi,by rw[←he i hi];exact h⟩
  ·rintro⟨i,hi,h⟩;exact⟨i,hi,by rw[he i hi];exact h⟩
 obtain⟨n1,hn1,aLM⟩:=max_lt k L hL
 have aTU: ¬ (∃i,i<m∧(t n1).bs i=k n1):=fun h=>Ty n1 (by omega) _ h (hs n1 hn1).pos
 have aS8: ∃i,i<m∧(t (n1+1)).bs i=k n1:=⟨r n1,(hs n1 hn1).hr,by rw[hn n1 hn1,dU]⟩
 obtain⟨n0,hn0,hl0⟩: ∃n0,n0<L∧(t n0).bs (r n0)=k n1:=by
  by_cases h0: ∃i,i<m∧(t 0).bs i=k n1
  ·obtain⟨n,_,h2,h3,h4⟩:=aBR (P:=fun n=> ∃i,i<m∧(t n).bs i=k n1) (Nat.zero_le n1) h0 aTU
   exact⟨n,by omega,Oy n (by omega) _ h3 h4⟩
  ·have hL0: ¬ ∃i,i<m∧(t L).bs i=k n1:=fun h=>h0 ((aL4 _).2 h)
   obtain⟨n,_,h2,h3,h4⟩:=aBR (P:=fun n=> ∃i,i<m∧(t n).bs i=k n1) (show n1+1≤L by omega) aS8 hL0
   exact⟨n,by omega,Oy n (by omega) _ h3 h4⟩
 have Ft:=hs n0 hn0
 have aBY:=hs n1 hn1
 have hT0:=hT n0 (by omega)
 have hT1:=hT n1 (by omega)
 have hs1:k n0<k n1:=by
  rcases Nat.lt_or_ge (k n0) (k n1) with h | h
  ·exact h
  ·have e:k n0=k n1:=by have:=aLM n0 hn0;omega
   exact absurd Ft.pos (Ty n0 (by omega) _ ⟨r n0,Ft.hr,by rw[hl0,e]⟩)
 have hnp:=aBY.first (k n0) Ft.hF hs1
 have hex: ∃i,i<m∧iO Q fun q=> - ((t n0).X i (k n0)*rc m (w q) (t n1) ((t n0).bs i)):=by
  rcases Classical.em (∃i,i<m∧iO Q fun q=> - ((t n0).X i (k n0)*rc m (w q) (t n1) ((t n0).bs i))) with h | h
  ·exact h
  ·refine absurd ?_ hnp
   have:=F9 (n:=m) (f:=fun i q=>(t n0).X i (k n0)*rc m (w q) (t n1) ((t n0).bs i)) Ft.pos fun i hi=>by
    rcases Xi Q fun q=>(t n0).X i (k n0)*rc m (w q) (t n1) ((t n0).bs i) with h1 | h1 | h1
    ·exact .inl h1
    ·exact .inr h1
    ·exact absurd ⟨i,hi,h1⟩ h
   exact eH this fun q _=>(Rv hT0 hT1 (w q) (k n0)).symm
 obtain⟨i,hi,cK⟩:=hex
 obtain⟨c,hc⟩: ∃c,(t n0).bs i=c:=⟨_,rfl⟩
 rw[hc] at cK
 have hnb: ¬ (∃j,j<m∧(t n1).bs j=c):=fun⟨j,hj,h⟩=>by
  refine iQ cK fun q _=> ?_
  rw[←h,mA hT1 _ hj];grind
 have aIQ: ∃n,n<L∧k n=c:=by
  have hin: ∃j,j<m∧(t n0).bs j=c:=⟨i,hi,hc⟩
  have go: ∀a e,a≤e→e≤L→ ¬ (∃j,j<m∧(t a).bs j=c)→(∃j,j<m∧(t e).bs j=c)→ ∃n,n<L∧k n=c:=fun a e h1 h2 h3 h4=>by
   obtain⟨n,_,g2,g3,g4⟩:=aBR (P:=fun n=> ¬ ∃j,j<m∧(t n).bs j=c) h1 h3 (fun h=>h h4)
   exact⟨n,by omega,aBV n (by omega) c g3 (Classical.not_not.1 g4)⟩
  rcases Nat.lt_or_ge n1 n0 with h | h
  ·exact go n1 n0 (by omega) (by omega) hnb hin
  ·by_cases h0: ∃j,j<m∧(t 0).bs j=c
   ·exact go n1 L (by omega) (Nat.le_refl _) hnb ((aL4 c).1 h0)
   ·exact go 0 n0 (by omega) (by omega) h0 hin
 obtain⟨nc,hnc,hkc⟩:=aIQ
 have aXZ:c≤k n1:=by rw[←hkc];exact aLM nc hnc
 have Cu: ∀n,n≤L→ ∀j,j<m→(t n).bs j=c→(t n).X j b=0:=by
  have fwd: ∀n,n<L→(∀j,j<m→(t n).bs j=c→(t n).X j b=0)→ ∀j,j<m→(t (n+1)).bs j=c→(t (n+1)).X j b=0:=fun n h ih j hj hbj=>by
   rw[hconst n h j hj]
   by_cases e:j=r n
   ·rw[e];exact hz n h
   ·rw[hn n h,cZ _ _ e] at hbj;exact ih j hj hbj
  have bwd: ∀n,n<L→(∀j,j<m→(t (n+1)).bs j=c→(t (n+1)).X j b=0)→ ∀j,j<m→(t n).bs j=c→(t n).X j b=0:=fun n h ih j hj hbj=>by
   by_cases e:j=r n
   ·rw[e];exact hz n h
   ·rw[←hconst n h j hj]
    exact ih j hj (by rw[hn n h,cZ _ _ e];exact hbj)
  have h1: ∀j,j<m→(t n1).bs j=c→(t n1).X j b=0:=fun j hj h=>absurd ⟨j,hj,h⟩ hnb
  intro n hnL
  rcases Nat.le_total n n1 with h | h
  ·have: ∀d,d≤n1→ ∀j,j<m→(t (n1 - d)).bs j=c→(t (n1 - d)).X j b=0:=by
    intro d
    induction d with
    | zero => exact fun _ => h1
    | succ d ih =>
      intro hd
      refine bwd (n1 - (d+1)) (by omega) ?_
      rw[show n1 - (d+1)+1=n1 - d by omega]
      exact ih (by omega)
   have:=this (n1 - n) (by omega)
   rwa [show n1 - (n1 - n)=n by omega] at this
  ·have: ∀d,n1+d≤L→ ∀j,j<m→(t (n1+d)).bs j=c→(t (n1+d)).X j b=0:=by
    intro d
    induction d with
    | zero => exact fun _ => h1
    | succ d ih => exact fun hd => fwd (n1 + d) (by omega) (ih (by omega))
   have:=this (n - n1) (by omega)
   rwa [show n1+(n - n1)=n by omega] at this
 have hxi:(t n0).X i b=0:=Cu n0 (by omega) i hi hc
 have hFc:F c:=by rw[←hkc];exact(hs nc hnc).hF
 have hx0:(t n0).X i (k n0)≠0:=fun h=>iQ cK fun q _=>by rw[h];grind
 have aUJ:(0<(t n0).X i (k n0))∧c≠k n1:=by
  rcases gI ((t n0).X i (k n0)) 0 with h | h
  ·
   have hp:iO Q fun q=>rc m (w q) (t n1) c:=by
    have:=tO (Xu (show(0:Rat)<1 by decide) (show 0< - (t n0).X i (k n0) by grind)) cK
    exact eH this fun q _=>by grind
   have hge: ¬ c<k n1:=fun hl=>aBY.first c hFc hl hp
   have e:c=k n1:=by omega
   have:i=r n0:=hT0.inj hi Ft.hr (by rw[hc,hl0,e])
   rw[this] at h
   have:=Ft.prk
   grind
  ·refine⟨h,fun e=> ?_⟩
   have hp:=tO h aBY.pos
   rw[e] at cK
   exact V6 hp cK
 have aVX:=Ft.tie i hi aUJ.1 (by rw[hxi,hz n0 hn0];grind)
 rw[hl0,hc] at aVX
 omega
end
theorem Ds {α:Type} [DecidableEq α]: ∀(l:List α) (f:Nat→α),(∀n,n≤l.length→f n∈l)→ ∃a b,a<b∧b≤l.length∧f a=f b
 | [], f, h => absurd (h 0 (Nat.le_refl _)) (by simp)
 | x :: l, f, h => by
   rcases Classical.em (∃n0,n0≤l.length+1∧f n0=x) with ⟨n0,h0,hx⟩| hno
   ·rcases Classical.em (∃n1,n1≤l.length+1∧n1≠n0∧f n1=x) with ⟨n1,h1,hne,hx1⟩| hno
    ·rcases Nat.lt_or_gt_of_ne hne with h | h
     ·exact⟨n1,n0,h,by simpa using h0,by rw[hx,hx1]⟩
     ·exact⟨n0,n1,h,by simpa using h1,by rw[hx,hx1]⟩
    ·obtain⟨a,b,h1,h2,h3⟩:=Ds l (fun n=>if n<n0 then f n else f (n+1)) fun n hn=>by
      have hm: ∀k,k≤l.length+1→k≠n0→f k∈l:=fun k hk hkn=>by
       have:=h k (by simpa using hk)
       rcases List.mem_cons.1 this with e | e
       ·exact absurd ⟨k,hk,hkn,e⟩ hno
       ·exact e
      split
      ·exact hm n (by omega) (by omega)
      ·exact hm (n+1) (by omega) (by omega)
     by_cases ha:a<n0
     ·by_cases hb:b<n0
      ·simp only[ha,hb,if_true] at h3
       exact⟨a,b,h1,by simp;omega,h3⟩
      ·simp only[ha,hb,if_true,if_false] at h3
       exact⟨a,b+1,by omega,by simp;omega,h3⟩
     ·simp only[ha,show ¬ b<n0 by omega,if_false] at h3
      exact⟨a+1,b+1,by omega,by simp;omega,h3⟩
   ·obtain⟨a,b,h1,h2,h3⟩:=Ds l f fun n hn=>by
     rcases List.mem_cons.1 (h n (by simp;omega)) with e | e
     ·exact absurd ⟨n,by omega,e⟩ hno
     ·exact e
    exact⟨a,b,h1,by simp;omega,h3⟩
def allL (N:Nat):Nat→List (List Nat)
 | 0 => [[]]
 | m + 1 => (allL N m).flatMap fun l => (List.range N).map fun x => l ++ [x]
theorem Bq (N:Nat) (f:Nat→Nat): ∀m,(∀i,i<m→f i<N)→(List.range m).map f∈allL N m
 | 0, _ => by simp [allL]
 | m + 1, h => by
   rw[allL,List.mem_flatMap]
   exact⟨_,Bq N f m fun i hi=>h i (by omega),List.mem_map.2 ⟨f m,by simpa using h m (by omega),by simp[List.range_succ]⟩⟩
def orb (nx:Tab→Option (Nat×Nat)) (t:Tab):Nat→Tab
 | 0 => t
 | n + 1 => match nx (orb nx t n) with
   | some (r,k)=>piv (orb nx t n) r k
   | none=>orb nx t n
end Go.Proofs.YticmgmemnpcbbaaGreat.Lp
