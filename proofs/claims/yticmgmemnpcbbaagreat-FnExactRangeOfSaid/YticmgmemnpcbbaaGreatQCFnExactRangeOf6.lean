import Derived.Test.YticmgmemnpcbbaaGreatQCFnExactRangeOf5

namespace Go.Proofs.YticmgmemnpcbbaaGreat.Vm
open Go Go.Proofs
set_option linter.unusedSimpArgs false
set_option linter.unusedVariables false
theorem H4 (l:List Int) (k:Int) (hl:l.length≤140737488351232):RO Tryz.prog 281 [.sl (iv l),.int .i64 k] (.int .i64 (ixf (fun x=>decide (k=x)) l)):=by
 refine aI Tryz.func281 rfl rfl (by rw[Tryz.ntmps281];simp) fun bl=> ?_
 rw[Tryz.ntmps281,Tryz.results281]
 refine aC ?_
 simp
 refine aJ (fun i:Nat=> [(0,.sl (iv l)),(1,.int .i64 k),(7,.int .i64 l.length),(8,.int .i64 i)]) (fun _=>bl) (fun i=>i≤l.length∧ ∀j (h1:j<l.length),j<i→decide (k=l[j])=false) (fun i=>l.length - i) _ 0 ⟨Nat.zero_le _,fun j _ h0=>by omega⟩ ⟨rfl,by simp,Sub.refl _⟩ ?_
 intro i ⟨hi,hc⟩
 refine aC ?_
 simp
 refine⟨fun h1=> ?_,fun h1=> ?_⟩
 ·simp[h1]
  refine⟨fun h2=> ?_,fun h2=> ?_⟩
  ·exact aR (by rw[pG (p:=fun x=>decide (k=x)) h1 hc (by simpa using h2)];simp) rfl rfl
  ·simp (disch:=omega) [i64_in,aB]
   refine⟨i+1,⟨by omega,fun j hj1 hji=> ?_⟩,by omega,rfl,by simp,Sub.refl _⟩
   rcases Nat.lt_or_ge j i with hlt | hge
   ·simpa using hc j hj1 hlt
   ·obtain rfl:j=i:=by omega
    simpa using h2
 ·exact aR (by rw[pJ (p:=fun x=>decide (k=x)) fun j hj=>hc j hj (by omega)];simp) rfl rfl
theorem any_eq (l:List Int) (k:Int):(l.any fun x=>decide (k=x))=decide (k∈l):=by
 rw[Bool.eq_iff_iff];simp
theorem uY (l:List Int) (k:Int) (hl:l.length≤140737488351232):RO Tryz.prog 255 [.sl (iv l),.int .i64 k] (.bool (decide (k∈l))):=by
 refine aI Tryz.func255 rfl rfl (by rw[Tryz.ntmps255];simp) fun bl=> ?_
 rw[Tryz.ntmps255,Tryz.results255]
 refine aC ?_
 simp
 refine aD (H4 l k hl) ?_
 simp
 exact aR (by simp[Dp,any_eq]) rfl rfl

def aAV (ms:List Mb) (l:List Int) (n:Nat):List Mb:=((List.range n).filter fun(i:Nat)=> !decide ((i:Int)∈l)).map fun(i:Nat)=>ms.getD i default
def aPX (s:Str) (l:List Int):Str:=⟨s.js,aAV s.ms l s.ms.length⟩

end Go.Proofs.YticmgmemnpcbbaaGreat.Vm

namespace Go.Proofs.YticmgmemnpcbbaaGreat.Vm
open Go Go.Proofs
set_option linter.unusedSimpArgs false
set_option linter.unusedVariables false
def ivv (ws:List (List Int)):List (List V):=ws.map fun w=> [.sl (iv w)]
def dII (ws:List (List Int)):D:= .s 1 (ws.map fun w=> [fl 1 (iv w)])
@[simp] theorem Ym (ws : List (List Int)) : (ivv ws).length = ws.length := by simp [ivv]
@[simp] theorem aI8 (ws : List (List Int)) (i : Nat) (h : i < (ivv ws).length) : (ivv ws)[i] = [.sl (iv (ws[i]'(by simpa using h)))] := by simp [ivv]
theorem aAY (ws:List (List Int)):(dII ws).fz= .sl (ivv ws):=by
 unfold dII ivv
 rw[D.fz,P8,List.map_map]
 congr 1
 exact List.map_congr_left fun w _=>by simp
theorem Sy (ws:List (List Int)):(dII ws).dep 2:=by
 unfold dII
 rw[D.dep]
 refine⟨by omega,?_⟩
 induction ws with
 | nil => simp [D.depR]
 | cons w ws ih => simp [D.depR, D.depL, kZ] at ih ⊢; exact ih

def dZ (s:Str) (j:Int):List Int:=s.ms.map (eqX s j)
def eL (s:Str) (j:Int):List Int:=s.ms.map (eqY s j)
def gD (s:Str):List (List Int):=(aP s.js).flatMap fun j=> [dZ s j,eL s j]
def zL (s:Str) (n:Nat):List (List Int):=((aP s.js).take n).flatMap fun j=> [dZ s j,eL s j]
theorem L5 (s:Str) (n:Nat) (h:n<(aP s.js).length):zL s (n+1)=zL s n++ [dZ s (aP s.js)[n],eL s (aP s.js)[n]]:=by
 unfold zL
 rw[List.take_add_one,List.getElem?_eq_getElem h,List.flatMap_append]
 simp
theorem pK (s:Str): ∀n,n≤(aP s.js).length→(zL s n).length=2*n
 | 0, _ => by simp [zL]
 | n + 1, h => by
   rw[L5 s n (by omega),List.length_append,pK s n (by omega)]
   simp;omega
@[simp] theorem mF (s : Str) (j : Int) : (dZ s j).length = s.ms.length := by simp [dZ]
@[simp] theorem mC (s : Str) (j : Int) : (eL s j).length = s.ms.length := by simp [eL]
theorem yA {s:Str} {k:Nat} (h:k<s.ms.length):mat s k=s.ms[k]:=by simp[mat,h]
theorem Jg {s:Str} (hs:SOk s) {m:Mb} (hm:m∈s.ms):(-100≤vx s m∧vx s m≤100)∧(-100≤vy s m∧vy s m≤100):=by
 obtain⟨⟨a1,a2⟩,⟨b1,b2⟩⟩:=hs.ix _ hm
 have ca:=hs.at a1 a2
 have cb:=hs.at b1 b2
 unfold vx vy
 omega
structure Ww where
 i:Nat
 g:Int
 els:List (List V)
 gs:List Int
 b:Int→Option Blk
theorem kS (xs:List (List V)) (z:List V) (i:Nat) (h:i<xs.length) (hz:xs[i]=z):part xs z i=part xs z (i+1):=by
 rw[←cU xs z i h z hz.symm]
 have:=dP xs z i h
 apply List.ext_getElem?
 intro j
 rw[List.getElem?_set]
 split
 ·rename_i e;subst e;rw[if_pos (by rw[wY];exact h)];exact this
 ·rfl
def Np (bl:Int→Option Blk) (s:Str) (p:Ww):Prop:=
 p.i≤(aP s.js).length∧p.b p.g=some ⟨1,p.els⟩∧p.els.length=2*p.i∧OwnR p.b 1 ((zL s p.i).map fun w=> [fl 1 (iv w)]) p.els p.gs∧p.g∉p.gs∧bl p.g=none∧(∀x,x∈p.gs→bl x=none)∧Sub bl p.b∧(p.g<0→p.els= [])
theorem sA {bl:Int→Option Blk} {s:Str} {i:Nat} {g:Int} {els:List (List V)} {gs:List Int} {b:Int→Option Blk} (H:Np bl s ⟨i,g,els,gs,b⟩) (h:i<(aP s.js).length)
  {ga gb gp gn:Int} (hga:0≤ga) (hba:b ga=none) (hgb:0≤gb) (hab: ¬gb=ga) (hbb:b gb=none) (hpa: ¬gp=ga) (hpb: ¬gp=gb) (hbp:b gp=none) (hgn:0≤gn)
  (hbn: ¬gn=g→ ¬gn=gp∧ ¬gn=gb∧ ¬gn=ga∧b gn=none):
  Np bl s ⟨i+1,gn,els++ [[.lsl ga 1 0 s.ms.length]]++ [[.lsl gb 1 0 s.ms.length]],gs++ [ga]++ [gb],
   upd (rem (upd (upd (upd b ga (some ⟨1,iv (dZ s (aP s.js)[i])⟩)) gb (some ⟨1,iv (eL s (aP s.js)[i])⟩)) gp (some ⟨1,[[.lsl ga 1 0 s.ms.length],[.lsl gb 1 0 s.ms.length]]⟩)) g) gn
    (some ⟨1,els.take (2*i)++ [[.lsl ga 1 0 s.ms.length],[.lsl gb 1 0 s.ms.length]]⟩)⟩:=by
 obtain⟨hi,hb,hel,ho,hn,hg,hf,hsb,cL⟩:=H
 simp only at hi hb hel ho hn hg hf hsb cL
 have nga:ga≠g:=fun e=>by rw[e,hb] at hba;cases hba
 have ngb:gb≠g:=fun e=>by rw[e,hb] at hbb;cases hbb
 have ngp:gp≠g:=fun e=>by rw[e,hb] at hbp;cases hbp
 have fa:=aQ hsb hba
 have fb:=aQ hsb hbb
 have fp:=aQ hsb hbp
 have na:gn≠ga:=fun e=>by
  by_cases c:gn=g
  ·exact nga (e.symm.trans c)
  ·exact(hbn c).2.2.1 e
 have nb:gn≠gb:=fun e=>by
  by_cases c:gn=g
  ·exact ngb (e.symm.trans c)
  ·exact(hbn c).2.1 e
 have fn:bl gn=none:=by
  by_cases c:gn=g
  ·rw[c];exact hg
  ·exact aQ hsb (hbn c).2.2.2
 have nn:gn∉gs:=by
  by_cases c:gn=g
  ·rw[c];exact hn
  ·exact ho.not (hbn c).2.2.2
 have key: ∀(B:Int→Option Blk) (u v w z:Option Blk),B=upd (rem (upd (upd (upd b ga u) gb v) gp w) g) gn z→ ∀x y,x≠g→x≠gn→b x=some y→B x=some y:=by
  intro B u v w z hB x y c1 c2 hx
  have c3:x≠ga:=fun e=>by rw[e,hba] at hx;cases hx
  have c4:x≠gb:=fun e=>by rw[e,hbb] at hx;cases hx
  have c5:x≠gp:=fun e=>by rw[e,hbp] at hx;cases hx
  rw[hB];simp[c1,c2,c3,c4,c5,hx]
 have vx1: ∀xs:List Int,(iv xs).all (fun r=>r.all V.cl)=true:=fun xs=>by simp[iv,V.cl]
 have vx2: ∀(xs:List Int) r,r∈iv xs→r.length=1:=fun xs r hr=>by
  simp[iv] at hr
  obtain⟨_,_,rfl⟩:=hr;rfl
 have et:els.take (2*i)=els:=List.take_of_length_le (by omega)
 refine⟨by simp only;omega,by simp[et],by simp[hel];omega,?_,?_,fn,?_,?_,fun e=>by simp only at e;omega⟩
 ·simp only
  rw[L5 s i h,List.map_append,show(∀(A:List (List D)) (x y:List Int),A++ [x,y].map (fun w=> [fl 1 (iv w)])=A++ [[fl 1 (iv x)]]++ [[fl 1 (iv y)]]) from fun A x y=>by simp]
  generalize hB:upd (rem (upd (upd (upd b ga (some ⟨1,iv (dZ s (aP s.js)[i])⟩)) gb (some ⟨1,iv (eL s (aP s.js)[i])⟩)) gp (some ⟨1,[[.lsl ga 1 0 s.ms.length],[.lsl gb 1 0 s.ms.length]]⟩)) g) gn
    (some ⟨1,els.take (2*i)++ [[.lsl ga 1 0 s.ms.length],[.lsl gb 1 0 s.ms.length]]⟩)=B
  have o0:=ho.bI fun x hx y hy=>key _ _ _ _ _ hB.symm x y (fun e=>hn (e▸hx)) (fun e=>nn (e▸hx)) hy
  have oa:OwnD B (fl 1 (iv (dZ s (aP s.js)[i]))) (.lsl ga 1 0 s.ms.length) [ga]:=(uR (vx1 _) (vx2 _)).2 (.inr ⟨ga,by simp,rfl,by rw[←hB];simp[Ne.symm na,Ne.symm hpa,Ne.symm hab,nga],by omega⟩)
  have ob:OwnD B (fl 1 (iv (eL s (aP s.js)[i]))) (.lsl gb 1 0 s.ms.length) [gb]:=(uR (vx1 _) (vx2 _)).2 (.inr ⟨gb,by simp,rfl,by rw[←hB];simp[Ne.symm nb,Ne.symm hpb,ngb],by omega⟩)
  refine OwnR.snoc (oS.2 ob) rfl (by simp) (OwnR.snoc (oS.2 oa) rfl (by simp) o0 ?_) ?_
  ·intro x hx hx2
   rw[List.mem_singleton] at hx2
   exact ho.not hba (hx2▸hx)
  ·intro x hx hx2
   rw[List.mem_singleton] at hx2
   subst hx2
   rcases List.mem_append.1 hx with hx | hx
   ·exact ho.not hbb hx
   ·rw[List.mem_singleton] at hx;exact hab hx
 ·simp[nn,na,nb]
 ·intro x hx
  simp at hx
  rcases hx with hx | hx | hx
  ·exact hf x hx
  ·rw[hx];exact fa
  ·rw[hx];exact fb
 ·intro x y hx
  exact key _ _ _ _ _ rfl x y (fun e=>by rw[e,hg] at hx;cases hx) (fun e=>by rw[e,fn] at hx;cases hx) (hsb x y hx)
set_option maxHeartbeats 2000000 in
theorem D0 (s:Str) (hs:SOk s):NW Tryz.prog 148 [.ptr s.c] (dII (gD s)):=by
 have h6:=hs.nj
 have h8:=hs.nm
 have hfr:=iQ s.js s.js.length
 change(aP s.js).length≤s.js.length at hfr
 refine iX Tryz.func148 rfl rfl (by rw[Tryz.ntmps148];simp) fun bl=> ?_
 rw[Tryz.ntmps148,Tryz.results148]
 refine aC ?_
 simp
 refine aD (rJ s (by omega)) ?_
 simp
 refine uK 3 1 (by simp) fun g00 tY=> ?_
 simp at tY
 refine aJ (fun p:Ww=> [(0,.ptr s.c),(3,.lsl p.g 1 0 (2*p.i)),(13,.sl (iv (aP s.js))),(14,.int .i64 (aP s.js).length),(15,.int .i64 p.i)]) (fun p=>p.b)
  (Np bl s)
  (fun p=>(aP s.js).length - p.i) 82 ⟨0,g00,[],[],upd bl g00 (some ⟨1,[]⟩)⟩ ⟨Nat.zero_le _,by simp,rfl,by simp[zL,OwnR],by simp,tY,by simp,by simp[tY],fun _=>rfl⟩ ⟨rfl,by simp,by simp⟩ ?_
 rintro⟨i,g,els,gs,b⟩ ⟨hi,hb,hel,ho,hn,hg,hf,hsb,cL⟩
 simp only at hi hb hel ho hn hg hf hsb cL
 refine aC ?_
 simp
 refine⟨fun h=> ?_,fun h=> ?_⟩
 ·have q:=eG (aP s.js) i h
  simp[h]
  obtain⟨j,hj⟩: ∃j,(aP s.js)[i]=j:=⟨_,rfl⟩
  rw[hj]
  refine pV aM [0,1,2,3,4,6,7,8,9,10] 4 (by kernel_rfl) ?_
  simp[Str.c]
  refine iZ (i:=5) (j:=11) (by kernel_rfl) rfl rfl rfl rfl ?_ ?_
  ·simp
   refine⟨by omega,by unfold maxLen;omega,fun ga hga hba=>⟨by simp[hba],?_⟩⟩
   refine iZ (i:=11) (j:=12) (by kernel_rfl) rfl rfl rfl rfl ?_ ?_
   ·simp
    refine⟨by omega,by unfold maxLen;omega,fun gb hgb hab hbb=>⟨by simp[hba,hbb,hab],?_⟩⟩
    refine Dz 12 ?_
    simp
    refine⟨by simp[hba,hbb,hab],Dz 13 ?_⟩
    simp
    refine⟨by simp[hba,hbb,hab],Dy ?_⟩
    simp[Str.c]
    have nga:ga≠g:=fun e=>by rw[e,hb] at hba;cases hba
    have ngb:gb≠g:=fun e=>by rw[e,hb] at hbb;cases hbb
    have fa:=aQ hsb hba
    have fb:=aQ hsb hbb
    have er:List.replicate s.ms.length [V.int IntKind.i64 0]=part (iv (dZ s j)) [.int .i64 0] 0:=by simp
    have er':List.replicate s.ms.length [V.int IntKind.i64 0]=part (iv (eL s j)) [.int .i64 0] 0:=by simp
    refine aJ (fun k:Nat=> [(0,.ptr s.c),(3,.lsl g 1 0 (2*i)),(5,.int .i64 j),(6,.lsl ga 1 0 s.ms.length),(7,.lsl gb 1 0 s.ms.length),(13,.sl (iv (aP s.js))),(14,.int .i64 (aP s.js).length),(15,.int .i64 i),(34,.sl (mv s.ms)),(35,.int .i64 s.ms.length),(36,.int .i64 k)])
     (fun k=>upd (upd b ga (some ⟨1,part (iv (dZ s j)) [.int .i64 0] k⟩)) gb (some ⟨1,part (iv (eL s j)) [.int .i64 0] k⟩)) (fun k=>k≤s.ms.length) (fun k=>s.ms.length - k) 82 0 (Nat.zero_le _) ⟨rfl,by simp[Str.c],?_⟩ ?_
    ·intro x y hx
     simp only[aA,vY,jX,mF,mC] at hx ⊢
     grind
    intro k hk
    refine aC ?_
    simp
    refine⟨fun hkl=> ?_,fun hkl=> ?_⟩
    ·have hv:=Jg hs (List.getElem_mem hkl)
     have hm:mat s (k:Int)=s.ms[k]:=yA hkl
     have zH:=uT s k hs (by omega) (by omega)
     rw[hm] at zH
     have hx:k<(iv (dZ s j)).length:=by simpa using hkl
     have hy:k<(iv (eL s j)).length:=by simpa using hkl
     have w1:IntKind.i64.wrap ((k:Int)+1)=k+1:=i64_in (by omega) (by omega)
     have nx:IntKind.i64.wrap (-vx s s.ms[k])= -vx s s.ms[k]:=i64_in (by omega) (by omega)
     have ny:IntKind.i64.wrap (-vy s s.ms[k])= -vy s s.ms[k]:=i64_in (by omega) (by omega)
     have px:=dP (iv (dZ s j)) [.int .i64 0] k hx
     have py:=dP (iv (eL s j)) [.int .i64 0] k hy
     simp[hkl,Mb.c]
     intro g9 hg9 h9b h9a hb9
     refine aD zH ?_
     simp
     refine⟨fun e1=> ?_,fun e1=> ?_⟩
     ·simp[hab,Ne.symm hab,h9a,h9b,Ne.symm h9a,Ne.symm h9b,hkl,px,py,w1,aB]
      have sx:=cU (iv (dZ s j)) [.int .i64 0] k hx [.int .i64 (vx s s.ms[k])] (by simp[dZ,eqX,e1])
      have sy:=cU (iv (eL s j)) [.int .i64 0] k hy [.int .i64 (vy s s.ms[k])] (by simp[eL,eqY,e1])
      refine⟨k+1,by omega,by omega,rfl,by simp,?_⟩
      intro x y hx'
      rw[←sx,←sy] at hx'
      simp only[aA] at hx' ⊢
      grind
     ·simp[hab,Ne.symm hab,h9a,h9b,Ne.symm h9a,Ne.symm h9b,hkl,px,py,w1,nx,ny,aB]
      refine⟨fun e2=> ?_,fun e2=> ?_⟩
      ·have fx:eqX s j s.ms[k]= -vx s s.ms[k]:=by rw[eqX,if_neg e1,if_pos e2]
       have fy:eqY s j s.ms[k]= -vy s s.ms[k]:=by rw[eqY,if_neg e1,if_pos e2]
       have sx:=cU (iv (dZ s j)) [.int .i64 0] k hx [.int .i64 (-vx s s.ms[k])] (by simp[dZ,fx])
       have sy:=cU (iv (eL s j)) [.int .i64 0] k hy [.int .i64 (-vy s s.ms[k])] (by simp[eL,fy])
       refine⟨k+1,by omega,by omega,rfl,by simp,?_⟩
       intro x y hx'
       rw[←sx,←sy] at hx'
       simp only[aA] at hx' ⊢
       grind
      ·have sx:=kS (iv (dZ s j)) [.int .i64 0] k hx (by simp[dZ,eqX,e1,e2])
       have sy:=kS (iv (eL s j)) [.int .i64 0] k hy (by simp[eL,eqY,e1,e2])
       refine⟨k+1,by omega,by omega,rfl,by simp,?_⟩
       intro x y hx'
       rw[←sx,←sy] at hx'
       simp only[aA] at hx' ⊢
       grind
    ·have:k=s.ms.length:=by omega
     subst this
     rw[eP _ _ _ (by simp),eP _ _ _ (by simp)]
     intro gp hgp hpb hpa hbp
     have npg:gp≠g:=fun e=>by rw[e,hb] at hbp;cases hbp
     have er2:List.range 2= [0,1]:=rfl
     simp[er2,appV,elsV,Int.not_lt.2 hgp,hpb,hpa,Ne.symm hpb,Ne.symm hpa,nga,ngb,Ne.symm nga,Ne.symm ngb,npg,Ne.symm npg,hb,hel]
     refine⟨by omega,fun gn hgn hbn=> ?_⟩
     have w9:IntKind.i64.wrap ((i:Int)+1)=i+1:=i64_in (by omega) (by omega)
     rw[aB]
     subst hj
     have nx:=sA ⟨hi,hb,hel,ho,hn,hg,hf,hsb,cL⟩ h hga hba hgb hab hbb hpa hpb hbp hgn hbn
     refine⟨_,nx,by simp only;omega,rfl,?_,sub_eq rfl⟩
     simp[w9];exact⟨rfl,by omega⟩
   ·simp
    refine⟨by simp[hba],Dz 11 ?_⟩
    simp
    refine⟨by omega,by unfold maxLen;omega,fun gb hgb hab hbb=>⟨by simp[hba,hbb,hab],?_⟩⟩
    refine Dz 13 ?_
    simp
    refine⟨by simp[hba,hbb,hab],Dy ?_⟩
    simp[Str.c]
    have nga:ga≠g:=fun e=>by rw[e,hb] at hba;cases hba
    have ngb:gb≠g:=fun e=>by rw[e,hb] at hbb;cases hbb
    have fa:=aQ hsb hba
    have fb:=aQ hsb hbb
    have er:List.replicate s.ms.length [V.int IntKind.i64 0]=part (iv (dZ s j)) [.int .i64 0] 0:=by simp
    have er':List.replicate s.ms.length [V.int IntKind.i64 0]=part (iv (eL s j)) [.int .i64 0] 0:=by simp
    refine aJ (fun k:Nat=> [(0,.ptr s.c),(3,.lsl g 1 0 (2*i)),(5,.int .i64 j),(6,.lsl ga 1 0 s.ms.length),(7,.lsl gb 1 0 s.ms.length),(13,.sl (iv (aP s.js))),(14,.int .i64 (aP s.js).length),(15,.int .i64 i),(34,.sl (mv s.ms)),(35,.int .i64 s.ms.length),(36,.int .i64 k)])
     (fun k=>upd (upd b ga (some ⟨1,part (iv (dZ s j)) [.int .i64 0] k⟩)) gb (some ⟨1,part (iv (eL s j)) [.int .i64 0] k⟩)) (fun k=>k≤s.ms.length) (fun k=>s.ms.length - k) 82 0 (Nat.zero_le _) ⟨rfl,by simp[Str.c],?_⟩ ?_
    ·intro x y hx
     simp only[aA,vY,jX,mF,mC] at hx ⊢
     grind
    intro k hk
    refine aC ?_
    simp
    refine⟨fun hkl=> ?_,fun hkl=> ?_⟩
    ·have hv:=Jg hs (List.getElem_mem hkl)
     have hm:mat s (k:Int)=s.ms[k]:=yA hkl
     have zH:=uT s k hs (by omega) (by omega)
     rw[hm] at zH
     have hx:k<(iv (dZ s j)).length:=by simpa using hkl
     have hy:k<(iv (eL s j)).length:=by simpa using hkl
     have w1:IntKind.i64.wrap ((k:Int)+1)=k+1:=i64_in (by omega) (by omega)
     have nx:IntKind.i64.wrap (-vx s s.ms[k])= -vx s s.ms[k]:=i64_in (by omega) (by omega)
     have ny:IntKind.i64.wrap (-vy s s.ms[k])= -vy s s.ms[k]:=i64_in (by omega) (by omega)
     have px:=dP (iv (dZ s j)) [.int .i64 0] k hx
     have py:=dP (iv (eL s j)) [.int .i64 0] k hy
     simp[hkl,Mb.c]
     intro g9 hg9 h9b h9a hb9
     refine aD zH ?_
     simp
     refine⟨fun e1=> ?_,fun e1=> ?_⟩
     ·simp[hab,Ne.symm hab,h9a,h9b,Ne.symm h9a,Ne.symm h9b,hkl,px,py,w1,aB]
      have sx:=cU (iv (dZ s j)) [.int .i64 0] k hx [.int .i64 (vx s s.ms[k])] (by simp[dZ,eqX,e1])
      have sy:=cU (iv (eL s j)) [.int .i64 0] k hy [.int .i64 (vy s s.ms[k])] (by simp[eL,eqY,e1])
      refine⟨k+1,by omega,by omega,rfl,by simp,?_⟩
      intro x y hx'
      rw[←sx,←sy] at hx'
      simp only[aA] at hx' ⊢
      grind
     ·simp[hab,Ne.symm hab,h9a,h9b,Ne.symm h9a,Ne.symm h9b,hkl,px,py,w1,nx,ny,aB]
      refine⟨fun e2=> ?_,fun e2=> ?_⟩
      ·have fx:eqX s j s.ms[k]= -vx s s.ms[k]:=by rw[eqX,if_neg e1,if_pos e2]
       have fy:eqY s j s.ms[k]= -vy s s.ms[k]:=by rw[eqY,if_neg e1,if_pos e2]
       have sx:=cU (iv (dZ s j)) [.int .i64 0] k hx [.int .i64 (-vx s s.ms[k])] (by simp[dZ,fx])
       have sy:=cU (iv (eL s j)) [.int .i64 0] k hy [.int .i64 (-vy s s.ms[k])] (by simp[eL,fy])
       refine⟨k+1,by omega,by omega,rfl,by simp,?_⟩
       intro x y hx'
       rw[←sx,←sy] at hx'
       simp only[aA] at hx' ⊢
       grind
      ·have sx:=kS (iv (dZ s j)) [.int .i64 0] k hx (by simp[dZ,eqX,e1,e2])
       have sy:=kS (iv (eL s j)) [.int .i64 0] k hy (by simp[eL,eqY,e1,e2])
       refine⟨k+1,by omega,by omega,rfl,by simp,?_⟩
       intro x y hx'
       rw[←sx,←sy] at hx'
       simp only[aA] at hx' ⊢
       grind
    ·have:k=s.ms.length:=by omega
     subst this
     rw[eP _ _ _ (by simp),eP _ _ _ (by simp)]
     intro gp hgp hpb hpa hbp
     have npg:gp≠g:=fun e=>by rw[e,hb] at hbp;cases hbp
     have er2:List.range 2= [0,1]:=rfl
     simp[er2,appV,elsV,Int.not_lt.2 hgp,hpb,hpa,Ne.symm hpb,Ne.symm hpa,nga,ngb,Ne.symm nga,Ne.symm ngb,npg,Ne.symm npg,hb,hel]
     refine⟨by omega,fun gn hgn hbn=> ?_⟩
     have w9:IntKind.i64.wrap ((i:Int)+1)=i+1:=i64_in (by omega) (by omega)
     rw[aB]
     subst hj
     have nx:=sA ⟨hi,hb,hel,ho,hn,hg,hf,hsb,cL⟩ h hga hba hgb hab hbb hpa hpb hbp hgn hbn
     refine⟨_,nx,by simp only;omega,rfl,?_,sub_eq rfl⟩
     simp[w9];exact⟨rfl,by omega⟩
  ·simp
   refine⟨by omega,by unfold maxLen;omega,fun gb hgb hbb=>⟨by simp[hbb],?_⟩⟩
   refine Dz 5 ?_
   simp
   refine⟨by omega,by unfold maxLen;omega,fun ga hga hab hba=>⟨by simp[hba,hbb,hab],?_⟩⟩
   refine Dz 12 ?_
   simp
   refine⟨by simp[hba,hbb,hab],Dz 13 ?_⟩
   simp
   refine⟨by simp[hba,hbb,hab],Dy ?_⟩
   simp[Str.c]
   have nga:ga≠g:=fun e=>by rw[e,hb] at hba;cases hba
   have ngb:gb≠g:=fun e=>by rw[e,hb] at hbb;cases hbb
   have fa:=aQ hsb hba
   have fb:=aQ hsb hbb
   have er:List.replicate s.ms.length [V.int IntKind.i64 0]=part (iv (dZ s j)) [.int .i64 0] 0:=by simp
   have er':List.replicate s.ms.length [V.int IntKind.i64 0]=part (iv (eL s j)) [.int .i64 0] 0:=by simp
   refine aJ (fun k:Nat=> [(0,.ptr s.c),(3,.lsl g 1 0 (2*i)),(5,.int .i64 j),(6,.lsl ga 1 0 s.ms.length),(7,.lsl gb 1 0 s.ms.length),(13,.sl (iv (aP s.js))),(14,.int .i64 (aP s.js).length),(15,.int .i64 i),(34,.sl (mv s.ms)),(35,.int .i64 s.ms.length),(36,.int .i64 k)])
    (fun k=>upd (upd b ga (some ⟨1,part (iv (dZ s j)) [.int .i64 0] k⟩)) gb (some ⟨1,part (iv (eL s j)) [.int .i64 0] k⟩)) (fun k=>k≤s.ms.length) (fun k=>s.ms.length - k) 82 0 (Nat.zero_le _) ⟨rfl,by simp[Str.c],?_⟩ ?_
   ·intro x y hx
    simp only[aA,vY,jX,mF,mC] at hx ⊢
    grind
   intro k hk
   refine aC ?_
   simp
   refine⟨fun hkl=> ?_,fun hkl=> ?_⟩
   ·have hv:=Jg hs (List.getElem_mem hkl)
    have hm:mat s (k:Int)=s.ms[k]:=yA hkl
    have zH:=uT s k hs (by omega) (by omega)
    rw[hm] at zH
    have hx:k<(iv (dZ s j)).length:=by simpa using hkl
    have hy:k<(iv (eL s j)).length:=by simpa using hkl
    have w1:IntKind.i64.wrap ((k:Int)+1)=k+1:=i64_in (by omega) (by omega)
    have nx:IntKind.i64.wrap (-vx s s.ms[k])= -vx s s.ms[k]:=i64_in (by omega) (by omega)
    have ny:IntKind.i64.wrap (-vy s s.ms[k])= -vy s s.ms[k]:=i64_in (by omega) (by omega)
    have px:=dP (iv (dZ s j)) [.int .i64 0] k hx
    have py:=dP (iv (eL s j)) [.int .i64 0] k hy
    simp[hkl,Mb.c]
    intro g9 hg9 h9b h9a hb9
    refine aD zH ?_
    simp
    refine⟨fun e1=> ?_,fun e1=> ?_⟩
    ·simp[hab,Ne.symm hab,h9a,h9b,Ne.symm h9a,Ne.symm h9b,hkl,px,py,w1,aB]
     have sx:=cU (iv (dZ s j)) [.int .i64 0] k hx [.int .i64 (vx s s.ms[k])] (by simp[dZ,eqX,e1])
     have sy:=cU (iv (eL s j)) [.int .i64 0] k hy [.int .i64 (vy s s.ms[k])] (by simp[eL,eqY,e1])
     refine⟨k+1,by omega,by omega,rfl,by simp,?_⟩
     intro x y hx'
     rw[←sx,←sy] at hx'
     simp only[aA] at hx' ⊢
     grind
    ·simp[hab,Ne.symm hab,h9a,h9b,Ne.symm h9a,Ne.symm h9b,hkl,px,py,w1,nx,ny,aB]
     refine⟨fun e2=> ?_,fun e2=> ?_⟩
     ·have fx:eqX s j s.ms[k]= -vx s s.ms[k]:=by rw[eqX,if_neg e1,if_pos e2]
      have fy:eqY s j s.ms[k]= -vy s s.ms[k]:=by rw[eqY,if_neg e1,if_pos e2]
      have sx:=cU (iv (dZ s j)) [.int .i64 0] k hx [.int .i64 (-vx s s.ms[k])] (by simp[dZ,fx])
      have sy:=cU (iv (eL s j)) [.int .i64 0] k hy [.int .i64 (-vy s s.ms[k])] (by simp[eL,fy])
      refine⟨k+1,by omega,by omega,rfl,by simp,?_⟩
      intro x y hx'
      rw[←sx,←sy] at hx'
      simp only[aA] at hx' ⊢
      grind
     ·have sx:=kS (iv (dZ s j)) [.int .i64 0] k hx (by simp[dZ,eqX,e1,e2])
      have sy:=kS (iv (eL s j)) [.int .i64 0] k hy (by simp[eL,eqY,e1,e2])
      refine⟨k+1,by omega,by omega,rfl,by simp,?_⟩
      intro x y hx'
      rw[←sx,←sy] at hx'
      simp only[aA] at hx' ⊢
      grind
   ·have:k=s.ms.length:=by omega
    subst this
    rw[eP _ _ _ (by simp),eP _ _ _ (by simp)]
    intro gp hgp hpb hpa hbp
    have npg:gp≠g:=fun e=>by rw[e,hb] at hbp;cases hbp
    have er2:List.range 2= [0,1]:=rfl
    simp[er2,appV,elsV,Int.not_lt.2 hgp,hpb,hpa,Ne.symm hpb,Ne.symm hpa,nga,ngb,Ne.symm nga,Ne.symm ngb,npg,Ne.symm npg,hb,hel]
    refine⟨by omega,fun gn hgn hbn=> ?_⟩
    have w9:IntKind.i64.wrap ((i:Int)+1)=i+1:=i64_in (by omega) (by omega)
    rw[aB]
    subst hj
    have nx:=sA ⟨hi,hb,hel,ho,hn,hg,hf,hsb,cL⟩ h hga hba hgb (Ne.symm hab) hbb hpa hpb hbp hgn hbn
    refine⟨_,nx,by simp only;omega,rfl,?_,sub_eq rfl⟩
    simp[w9];exact⟨rfl,by omega⟩
 ·have:i=(aP s.js).length:=by omega
  subst this
  refine gH [.lsl g 1 0 (2*(aP s.js).length)] (g::gs) (by simp) ?_ ?_ hsb
  ·unfold dII
   rw[OwnD]
   have e:gD s=zL s (aP s.js).length:=by simp[zL,gD]
   refine .inr ⟨g,els,gs,by rw[e,List.length_map,pK s _ (Nat.le_refl _)];rfl,rfl,hn,hb,cL,?_⟩
   rw[e];exact ho
  ·intro x hx
   rcases List.mem_cons.1 hx with rfl | hx
   ·exact hg
   ·exact hf x hx

def D8 (m:Mb) (k:Nat):List (Int×Int):=(if m.kind=2 then [] else [((k:Int),1)])++(if m.kind=1 then [] else [((k:Int), -1)])
def bA (ms:List Mb) (n:Nat):List (Int×Int):=(List.range n).flatMap fun k=>D8 (ms.getD k default) k
def bD (ms:List Mb):List (Int×Int):=bA ms ms.length
def cv (cs:List (Int×Int)):List (List V):=cs.map fun p=> [.int .i64 p.1,.int .i64 p.2]
theorem oZ (ms:List Mb) (n:Nat):bA ms (n+1)=bA ms n++D8 (ms.getD n default) n:=by
 unfold bA
 rw[List.range_succ,List.flatMap_append];simp
theorem Un (m:Mb) (k:Nat):(D8 m k).length≤2:=by
 unfold D8;split<;>split<;>simp
theorem kW (ms:List Mb): ∀n,(bA ms n).length≤2*n
 | 0 => by simp [bA]
 | n + 1 => by
   rw[oZ,List.length_append]
   have:=kW ms n
   have:=Un (ms.getD n default) n
   omega
theorem qR (a b:List (Int×Int)):cv (a++b)=cv a++cv b:=by simp[cv]
@[simp] theorem Ki (a : List (Int × Int)) : (cv a).length = a.length := by simp [cv]
theorem sN (a:List (Int×Int)):(cv a).take a.length=cv a:=by rw[←Ki a,List.take_length]
theorem aOL (a:List (Int×Int)):(cv a).all (fun e=>e.all V.cl)=true:=by simp[cv,V.cl]
theorem Tp (a:List (Int×Int)): ∀r,r∈cv a→r.length=2:=by
 intro r hr
 obtain⟨n,_,rfl⟩:=List.mem_map.1 hr
 rfl
theorem aBZ {bl:Int→Option Blk} {ns:List (Int×Int)} {v:V} {gs:List Int} :OwnD bl (fl 2 (cv ns)) v gs ↔ (ns= []∧v= .nils∧gs= [])∨ ∃g,v= .lsl g 2 0 ns.length∧gs= [g]∧bl g=some ⟨2,cv ns⟩∧(g<0→ns= []):=by
 rw[uR (aOL ns) (Tp ns)]
 simp[cv]
theorem Ct (s:Str) (hm:s.ms.length≤8):NW Tryz.prog 146 [.ptr s.c] (fl 2 (cv (bD s.ms))):=by
 refine iX Tryz.func146 rfl rfl (by rw[Tryz.ntmps146];simp) fun bl=> ?_
 rw[Tryz.ntmps146,Tryz.results146]
 refine aC ?_
 simp[Str.c]
 refine uK 3 2 (by simp) fun g00 tY=> ?_
 refine aJ (fun p:Nat×Int=> [(3,.lsl p.2 2 0 (bA s.ms p.1).length),(9,.sl (mv s.ms)),(10,.int .i64 s.ms.length),(11,.int .i64 p.1)]) (fun p=>upd bl p.2 (some ⟨2,cv (bA s.ms p.1)⟩)) (fun p=>p.1≤s.ms.length∧bl p.2=none∧(p.2<0→bA s.ms p.1= [])) (fun p=>s.ms.length - p.1) _ (0,g00) ⟨Nat.zero_le _,tY,fun _=>rfl⟩ ⟨rfl,by simp[bA],sub_eq (by simp[bA,cv])⟩ ?_
 rintro⟨i,g⟩ ⟨hi,hg,h0⟩
 simp only at hi hg h0
 have hl:=kW s.ms i
 refine aC ?_
 simp
 refine⟨fun h=> ?_,fun h=> ?_⟩
 ·have w1:IntKind.i64.wrap ((i:Int)+1)=i+1:=i64_in (by omega) (by omega)
  have hsc:=oZ s.ms i
  rw[Ha _ _ _ h] at hsc
  simp[h,Mb.c]
  intro g1 hg1 h1g hb1
  refine⟨fun hf=> ?_,fun hf=> ?_⟩
  ·intro g2 hg2 h21 h2g hb2
   simp[h1g,h21,h2g,Ne.symm h1g,Ne.symm h21,Ne.symm h2g,appV,elsV,Int.not_lt.2 hg2]
   refine⟨by omega,fun g3 hg3 hb3=> ?_⟩
   have h31:g3≠g1:=by grind
   have gG:bl g3=none:=by grind
   simp[h31,Ne.symm h31,h1g,h21,Ne.symm h1g,Ne.symm h21]
   refine⟨fun hf2=> ?_,fun hf2=> ?_⟩
   ·intro g4 hg4 h43 h42
    simp[h43,Ne.symm h43,h31,Ne.symm h31,appV,elsV,Int.not_lt.2 hg4]
    refine⟨by omega,fun g5 hg5 hb5=> ?_⟩
    have aUN:bl g5=none:=by grind
    have hb4:bl g4=none:=by grind
    have hs1:bA s.ms (i+1)=bA s.ms i++ [((i:Int),1)]++ [((i:Int), -1)]:=by rw[hsc,D8,if_neg hf,if_neg hf2,List.append_assoc]
    simp[w1,aB]
    refine⟨i+1,g5,⟨by omega,aUN,by omega⟩,by omega,rfl,by simp[hs1],?_⟩
    rw[hs1,qR,qR]
    exact dK (by rw[sN,List.take_of_length_le (by simp)];rfl) (by simp[hg,hb1,hb2,gG,hb4,h1g,h21,h2g])
   ·have hs1:bA s.ms (i+1)=bA s.ms i++ [((i:Int),1)]:=by rw[hsc,D8,if_neg hf,if_pos hf2,List.append_nil]
    simp[w1,aB]
    refine⟨i+1,g3,⟨by omega,gG,by omega⟩,by omega,rfl,by simp[hs1],?_⟩
    rw[hs1,qR]
    exact dK (by rw[sN];rfl) (by simp[hg,hb1,hb2,h1g,h21,h2g])
  ·refine⟨fun hf2=> ?_,fun hf2=> ?_⟩
   ·intro g2 hg2 h21 h2g hb2
    simp[h1g,h21,h2g,Ne.symm h1g,Ne.symm h21,Ne.symm h2g,appV,elsV,Int.not_lt.2 hg2]
    refine⟨by omega,fun g3 hg3 hb3=> ?_⟩
    have gG:bl g3=none:=by grind
    have hs1:bA s.ms (i+1)=bA s.ms i++ [((i:Int), -1)]:=by rw[hsc,D8,if_pos hf,if_neg hf2,List.nil_append]
    simp[w1,aB]
    refine⟨i+1,g3,⟨by omega,gG,by omega⟩,by omega,rfl,by simp[hs1],?_⟩
    rw[hs1,qR]
    exact dK (by rw[sN];rfl) (by simp[hg,hb1,hb2,h1g,h21,h2g])
   ·omega
 ·have hi:i=s.ms.length:=by omega
  subst hi
  refine gH [.lsl g 2 0 (bA s.ms s.ms.length).length] [g] (by simp) ?_ (by simpa using hg) (by simp[hg])
  refine aBZ.2 (.inr ⟨g,rfl,rfl,by simp[bD],h0⟩)
theorem vZ (a b:Int):iv [a,b]= [[.int .i64 a],[.int .i64 b]]:=rfl
theorem jW (a:Int):iv [a]= [[.int .i64 a]]:=rfl
def who (s:Str):List Int:=(bD s.ms).map (·.1)
def sgn (s:Str):List Int:=(bD s.ms).map (·.2)
def dWS (s:Str):D:= .t [fl 1 (iv (who s)),fl 1 (iv (sgn s))]
structure Two where
 i:Nat
 g:Int
 h:Int
 b:Int→Option Blk
def Oi (bl:Int→Option Blk) (A B:Nat→List Int) (n:Nat) (p:Two):Prop:=
 p.i≤n∧p.g≠p.h∧p.b p.g=some ⟨1,iv (A p.i)⟩∧p.b p.h=some ⟨1,iv (B p.i)⟩∧bl p.g=none∧bl p.h=none∧Sub bl p.b∧(p.g<0→A p.i= [])∧(p.h<0→B p.i= [])
set_option maxHeartbeats 1000000 in
theorem F6 (s:Str) (hm:s.ms.length≤8):NW Tryz.prog 192 [.agg s.c] (dWS s):=by
 refine iX Tryz.func192 rfl rfl (by rw[Tryz.ntmps192];simp) fun bl=> ?_
 rw[Tryz.ntmps192,Tryz.results192]
 refine aC ?_
 simp[Str.c]
 intro gs aBL hgs ga aK5 H7 Dn gb aWG Ug aK9 aK7
 simp[H7,Ne.symm H7,Ug,Ne.symm Ug,aK9,Ne.symm aK9]
 refine aJ (fun p:Two=> [(4,.lsl p.g 1 0 (bA s.ms p.i).length),(5,.lsl p.h 1 0 (bA s.ms p.i).length),(11,.sl (mv s.ms)),(12,.int .i64 s.ms.length),(13,.int .i64 p.i)]) (fun p=>p.b) (Oi bl (fun n=>(bA s.ms n).map (·.1)) (fun n=>(bA s.ms n).map (·.2)) s.ms.length) (fun p=>s.ms.length - p.i) 41 ⟨0,ga,gb,upd (upd (upd bl gs (some ⟨2,[[.sl (jv s.js),.sl (mv s.ms)]]⟩)) ga (some ⟨1,[]⟩)) gb (some ⟨1,[]⟩)⟩ ⟨Nat.zero_le _,Ne.symm Ug,by simp[Ne.symm Ug,bA,iv],by simp[bA,iv],Dn,aK7,by simp[hgs,Dn,aK7],fun _=>rfl,fun _=>rfl⟩ ⟨rfl,by simp[bA],sub_eq (by simp)⟩ ?_
 rintro⟨i,g,h',b⟩ ⟨hi,hgh,hbg,hbh,hg,hh,hsb,h0,h1⟩
 simp only at hi hgh hbg hbh hg hh hsb h0 h1
 have hl:=kW s.ms i
 have fr: ∀x,b x=none→bl x=none:=fun x hx=>aQ hsb hx
 refine aC ?_
 simp
 refine⟨fun h=> ?_,fun h=> ?_⟩
 ·have w1:IntKind.i64.wrap ((i:Int)+1)=i+1:=i64_in (by omega) (by omega)
  have hsc:=oZ s.ms i
  rw[Ha _ _ _ h] at hsc
  have tkA:List.take (bA s.ms i).length (iv ((bA s.ms i).map (·.1)))=iv ((bA s.ms i).map (·.1)):=List.take_of_length_le (by simp)
  have Ja: ∀x:List V,List.take ((bA s.ms i).length+1) (iv ((bA s.ms i).map (·.1))++ [x])=iv ((bA s.ms i).map (·.1))++ [x]:=fun x=>List.take_of_length_le (by simp)
  have Ku: ∀x:List V,List.take ((bA s.ms i).length+1) (iv ((bA s.ms i).map (·.2))++ [x])=iv ((bA s.ms i).map (·.2))++ [x]:=fun x=>List.take_of_length_le (by simp)
  have tkB:List.take (bA s.ms i).length (iv ((bA s.ms i).map (·.2)))=iv ((bA s.ms i).map (·.2)):=List.take_of_length_le (by simp)
  simp[h,Mb.c]
  intro g1 hg1 hb1
  have n1g:g1≠g:=fun e=>by rw[e,hbg] at hb1;cases hb1
  have n1h:g1≠h':=fun e=>by rw[e,hbh] at hb1;cases hb1
  refine⟨fun hf=> ?_,fun hf=> ?_⟩
  ·intro g2 hg2 h21 hb2
   have n2g:g2≠g:=fun e=>by rw[e,hbg] at hb2;cases hb2
   have n2h:g2≠h':=fun e=>by rw[e,hbh] at hb2;cases hb2
   simp[hbg,n1g,h21,n2g,Ne.symm n1g,Ne.symm h21,Ne.symm n2g,appV,elsV,Int.not_lt.2 hg2]
   refine⟨by omega,fun g3 hg3 hb3=> ?_⟩
   have n31:g3≠g1:=by grind
   have n3h:g3≠h':=by grind
   simp[n31,Ne.symm n31,n3h,Ne.symm n3h]
   intro g4 hg4 h43 hb4
   have n41:g4≠g1:=by grind
   have n4h:g4≠h':=by grind
   simp[hgh,Ne.symm hgh,hbh,n1h,Ne.symm n1h,n2h,Ne.symm n2h,n31,Ne.symm n31,n3h,Ne.symm n3h,n41,Ne.symm n41,n4h,Ne.symm n4h,h43,Ne.symm h43,appV,elsV,Int.not_lt.2 hg4]
   refine⟨by omega,fun g5 hg5 hb5=> ?_⟩
   have n51:g5≠g1:=by grind
   have n53:g5≠g3:=by grind
   simp[hgh,Ne.symm hgh,n1h,Ne.symm n1h,n31,Ne.symm n31,n51,Ne.symm n51,n41,Ne.symm n41,h21,Ne.symm h21,n1g,Ne.symm n1g]
   refine⟨fun hf2=> ?_,fun hf2=> ?_⟩
   ·intro g6 hg6 n65 hb6
    have n61:g6≠g1:=by grind
    have n63:g6≠g3:=by grind
    simp[n3h,Ne.symm n3h,n1g,Ne.symm n1g,n31,Ne.symm n31,hgh,Ne.symm hgh,n65,Ne.symm n65,n61,Ne.symm n61,n63,Ne.symm n63,n53,Ne.symm n53,h43,Ne.symm h43,appV,elsV,Int.not_lt.2 hg6,tkA,tkB]
    refine⟨by omega,fun g7 hg7 hb7=> ?_⟩
    have n71:g7≠g1:=by grind
    have n75:g7≠g5:=by grind
    simp[n71,Ne.symm n71,n75,Ne.symm n75]
    intro g8 hg8 n87 hb8
    have n81:g8≠g1:=by grind
    have n85:g8≠g5:=by grind
    simp[n71,Ne.symm n71,n75,Ne.symm n75,n81,Ne.symm n81,n85,Ne.symm n85,n87,Ne.symm n87,n65,Ne.symm n65,n53,Ne.symm n53,appV,elsV,Int.not_lt.2 hg8,tkA,tkB]
    refine⟨by omega,fun g9 hg9 hb9=> ?_⟩
    have n91:g9≠g1:=by grind
    have n97:g9≠g7:=by grind
    have e1:bA s.ms (i+1)=bA s.ms i++ [((i:Int),1)]++ [((i:Int), -1)]:=by rw[hsc,D8,if_neg hf,if_neg hf2,List.append_assoc]
    simp[w1,aB]
    refine⟨⟨i+1,g7,g9,_⟩,⟨by simp only;omega,by simp only;grind,?_,?_,by simp only;grind,by simp only;grind,?_,fun e=>by simp only at e;omega,fun e=>by simp only at e;omega⟩,by simp only;omega,rfl,by simp[e1],sub_eq rfl⟩
    ·simp[hgh,Ne.symm hgh,n1h,Ne.symm n1h,n31,Ne.symm n31,n51,Ne.symm n51,n53,Ne.symm n53,n41,Ne.symm n41,h43,Ne.symm h43,n71,Ne.symm n71,n75,Ne.symm n75,n61,Ne.symm n61,n63,Ne.symm n63,n81,n87,n85,Ne.symm n81,Ne.symm n85,Ne.symm n87,n91,n97,Ne.symm n91,Ne.symm n97,n3h,Ne.symm n3h,n4h,Ne.symm n4h,e1,aV,jW,vZ,tkA,tkB,Ja,Ku]
    ·simp[hgh,Ne.symm hgh,n1h,Ne.symm n1h,n31,Ne.symm n31,n51,Ne.symm n51,n53,Ne.symm n53,n41,Ne.symm n41,h43,Ne.symm h43,n71,Ne.symm n71,n75,Ne.symm n75,n61,Ne.symm n61,n63,Ne.symm n63,n81,n87,n85,Ne.symm n81,Ne.symm n85,Ne.symm n87,n91,n97,Ne.symm n91,Ne.symm n97,n3h,Ne.symm n3h,n4h,Ne.symm n4h,e1,aV,jW,vZ,tkA,tkB,Ja,Ku]
    ·intro x y hx
     have hbx:=hsb x y hx
     have ng:x≠g:=fun e=>by rw[e,hg] at hx;cases hx
     have nh:x≠h':=fun e=>by rw[e,hh] at hx;cases hx
     simp[aA,aF]
     grind
   ·skip
    have e1:bA s.ms (i+1)=bA s.ms i++ [((i:Int),1)]:=by rw[hsc,D8,if_neg hf,if_pos hf2,List.append_nil]
    simp[w1,aB]
    refine⟨⟨i+1,g3,g5,_⟩,⟨by simp only;omega,by simp only;grind,?_,?_,by simp only;grind,by simp only;grind,?_,fun e=>by simp only at e;omega,fun e=>by simp only at e;omega⟩,by simp only;omega,rfl,by simp[e1],sub_eq rfl⟩
    ·simp[hgh,Ne.symm hgh,n1h,Ne.symm n1h,n31,Ne.symm n31,n51,Ne.symm n51,n53,Ne.symm n53,n41,Ne.symm n41,h43,Ne.symm h43,n3h,Ne.symm n3h,n4h,Ne.symm n4h,e1,aV,jW,vZ,tkA,tkB,Ja,Ku]
    ·simp[hgh,Ne.symm hgh,n1h,Ne.symm n1h,n31,Ne.symm n31,n51,Ne.symm n51,n53,Ne.symm n53,n41,Ne.symm n41,h43,Ne.symm h43,n3h,Ne.symm n3h,n4h,Ne.symm n4h,e1,aV,jW,vZ,tkA,tkB,Ja,Ku]
    ·intro x y hx
     have hbx:=hsb x y hx
     have ng:x≠g:=fun e=>by rw[e,hg] at hx;cases hx
     have nh:x≠h':=fun e=>by rw[e,hh] at hx;cases hx
     simp[aA,aF]
     grind
  ·refine⟨fun hf2=> ?_,fun hf2=> ?_⟩
   ·intro g2 hg2 h21 hb2
    have n2g:g2≠g:=fun e=>by rw[e,hbg] at hb2;cases hb2
    have n2h:g2≠h':=fun e=>by rw[e,hbh] at hb2;cases hb2
    simp[hbg,n1g,h21,n2g,Ne.symm n1g,Ne.symm h21,Ne.symm n2g,appV,elsV,Int.not_lt.2 hg2]
    refine⟨by omega,fun g3 hg3 hb3=> ?_⟩
    have n31:g3≠g1:=by grind
    have n3h:g3≠h':=by grind
    simp[n31,Ne.symm n31,n3h,Ne.symm n3h]
    intro g4 hg4 h43 hb4
    have n41:g4≠g1:=by grind
    have n4h:g4≠h':=by grind
    simp[hgh,Ne.symm hgh,hbh,n1h,Ne.symm n1h,n2h,Ne.symm n2h,n31,Ne.symm n31,n3h,Ne.symm n3h,n41,Ne.symm n41,n4h,Ne.symm n4h,h43,Ne.symm h43,appV,elsV,Int.not_lt.2 hg4]
    refine⟨by omega,fun g5 hg5 hb5=> ?_⟩
    have n51:g5≠g1:=by grind
    have n53:g5≠g3:=by grind
    have e1:bA s.ms (i+1)=bA s.ms i++ [((i:Int), -1)]:=by rw[hsc,D8,if_pos hf,if_neg hf2,List.nil_append]
    simp[w1,aB]
    refine⟨⟨i+1,g3,g5,_⟩,⟨by simp only;omega,by simp only;grind,?_,?_,by simp only;grind,by simp only;grind,?_,fun e=>by simp only at e;omega,fun e=>by simp only at e;omega⟩,by simp only;omega,rfl,by simp[e1],sub_eq rfl⟩
    ·simp[hgh,Ne.symm hgh,n1h,Ne.symm n1h,n31,Ne.symm n31,n51,Ne.symm n51,n53,Ne.symm n53,n41,Ne.symm n41,h43,Ne.symm h43,n3h,Ne.symm n3h,n4h,Ne.symm n4h,e1,aV,jW,vZ,tkA,tkB,Ja,Ku]
    ·simp[hgh,Ne.symm hgh,n1h,Ne.symm n1h,n31,Ne.symm n31,n51,Ne.symm n51,n53,Ne.symm n53,n41,Ne.symm n41,h43,Ne.symm h43,n3h,Ne.symm n3h,n4h,Ne.symm n4h,e1,aV,jW,vZ,tkA,tkB,Ja,Ku]
    ·intro x y hx
     have hbx:=hsb x y hx
     have ng:x≠g:=fun e=>by rw[e,hg] at hx;cases hx
     have nh:x≠h':=fun e=>by rw[e,hh] at hx;cases hx
     simp[aA,aF]
     grind
   ·omega
 ·have hi:i=s.ms.length:=by omega
  subst hi
  refine gH [.lsl g 1 0 (bA s.ms s.ms.length).length,.lsl h' 1 0 (bA s.ms s.ms.length).length] [g,h'] (by simp) ?_ (by simp[hg,hh]) hsb
  unfold dWS
  rw[OwnD]
  exact⟨_,rfl,gJ.2 ⟨_,_,[g],[h'],rfl,rfl,by simpa using hgh,dE.2 (.inr ⟨g,by simp[who,bD],rfl,hbg,h0⟩),dE.2 (.inr ⟨h',by simp[sgn,bD],rfl,hbh,h1⟩)⟩⟩
theorem rP (s:Str) (hm:s.ms.length≤8):RO Tryz.prog 192 [.agg s.c] (.tup [.sl (iv (who s)),.sl (iv (sgn s))]):=by
 have:=jE 2 (F6 s hm) (by simp[dWS,D.dep,D.depL,kZ])
 simpa [dWS,D.fz,D.fzL] using this
theorem A9 (s:Str) (hm:s.ms.length≤8):RO Tryz.prog 146 [.ptr s.c] (.sl (cv (bD s.ms))):=by
 have:=jE 1 (Ct s hm) (kZ _ _ 0)
 simpa using this

def vsg (p:Int) (x:Option Rat):Option Rat:=if p<0 then x.map (- ·) else x
def stI (acc:List (Option Rat)) (p:Int×Int) (x:Option Rat):List (Option Rat):=
 acc.set p.1.toNat (if(acc.getD p.1.toNat none).isSome=true then op2 (· + ·) (acc.getD p.1.toNat none) (vsg p.2 x) else vsg p.2 x)
def stS (acc:List (Option Rat)) (p:Int×Int) (x:Option Rat):List (Option Rat):=
 acc.set p.1.toNat (if 0<p.2 then op2 (· + ·) (acc.getD p.1.toNat none) x else op2 (· - ·) (acc.getD p.1.toNat none) x)
def aAE (ms:List Mb) (d:List (Option Rat)) (t:Nat):List (Option Rat):=(List.range t).foldl (fun acc j=>stI acc ((bD ms).getD j (0,0)) (d.getD j none)) (List.replicate ms.length none)
def aW4 (ms:List Mb) (d:List (Option Rat)) (t:Nat):List (Option Rat):=(List.range t).foldl (fun acc j=>stS acc ((bD ms).getD j (0,0)) (d.getD j none)) (List.replicate ms.length (some 0))
theorem getD_set_ne {xs:List (Option Rat)} {i k:Nat} (h:i≠k) (x:Option Rat):(xs.set i x).getD k none=xs.getD k none:=by
 rw[List.getD_eq_getElem?_getD,List.getElem?_set_ne h,List.getD_eq_getElem?_getD]
def aUV (ms:List Mb) (A B:List (Option Rat)) (n:Nat):Prop:= ∀k,k<ms.length→(k<n→A.getD k none=B.getD k none)∧(n≤k→A.getD k none=none∧B.getD k none=some 0)

end Go.Proofs.YticmgmemnpcbbaaGreat.Vm

namespace Go.Proofs.YticmgmemnpcbbaaGreat.Vm
open Go Go.Proofs
set_option linter.unusedSimpArgs false
set_option linter.unusedVariables false
def apX (s:Str) (d:List (Option Rat)) (m:Mb):Option Rat:=op2 (· - ·) (dX s.js d m.b.toNat) (dX s.js d m.a.toNat)
def apY (s:Str) (d:List (Option Rat)) (m:Mb):Option Rat:=op2 (· - ·) (dY s.js d m.b.toNat) (dY s.js d m.a.toNat)
def aBY (s:Str) (d:List (Option Rat)) (k:Nat):Option Rat:=op2 (· + ·) (op2 (· * ·) (some (vx s (mat s k):Rat)) (apX s d (mat s k))) (op2 (· * ·) (some (vy s (mat s k):Rat)) (apY s d (mat s k)))
def aIH (s:Str) (k:Int) (d:List RT):Bool:=Wt s d && (decide (0≤k)&& decide (k<s.ms.length))
def aWJ (s:Str) (k:Int) (d:List RT):Option Rat:=if aIH s k d=true then aBY s (jM d) k.toNat else none

def aVU (rs:List RT):Bool:=rs.all fun r=> !decide (r.d= [])
def Zw (a b:List RT):Bool:=(Pp a && Pp b)&& decide (a.length=b.length)
def aV4 (a b:List RT):List (Option Rat):=if Zw a b=true then List.zipWith (op2 (· + ·)) (jM a) (jM b) else [none]
def aVT (r:RT) (q:List RT):List (Option Rat):=if(r.ok∧Pp q=true) then(jM q).map (op2 (· * ·) (rd r)) else [none]

def atW (s:Str) (i:Nat):Int:=if fxd s.js i=true then -1 else(idx s.js i:Int)

def aTJ (bl:Int→Option Blk) (g6:Int) (p:Int×Int):Prop:=0≤p.1∧0≤p.2∧ ¬ p.1=p.2∧ ¬ p.1=g6∧ ¬ p.2=g6∧bl p.1=none∧bl p.2=none

def Ro (m:Mb) (x:Option Rat):Bool:=(!x.isSome || (decide (m.kind≠2)&& decide (0<sgq x)))|| (decide (m.kind≠1)&& decide (sgq x<0))
def aB2 (s:Str) (d:List (Option Rat)):Bool:=(List.range s.ms.length).all fun k=> !Ro (mat s k) (aBY s d k)
def aR6 (s:Str) (d:List (Option Rat)) (n:Nat):Prop:= ∀k:Nat,k<n→Ro (mat s k) (aBY s d k)=false
def wkTo (s:Str) (l:List Int) (d:List (Option Rat)):Nat→Option Rat
 | 0 => some 0
 | t + 1 => op2 (· + ·) (op2 (· + ·) (wkTo s l d t) (op2 (· * ·) (some (lN l (2 * ((aP s.js).getD t 0).toNat) : Rat)) (d.getD (2 * t) none))) (op2 (· * ·) (some (lN l (2 * ((aP s.js).getD t 0).toNat + 1) : Rat)) (d.getD (2 * t + 1) none))
def wkW (s:Str) (l:List Int) (d:List (Option Rat)):Option Rat:=wkTo s l d (aP s.js).length
def aWR (s:Str) (l:List Int) (d:List RT):Bool:=(Wt s d && lX s.js l)&& (aB2 s (jM d)&& decide (0<sgq (wkW s l (jM d))))

def aKU (s:Str) (d:List RT):Bool:=sOk s && (decide (d.length=(bD s.ms).length)&& At d)
def aW5 (s:Str) (d:List RT):List (Option Rat):=if aKU s d=true then aAE s.ms (jM d) (bD s.ms).length else [none]
def aVP (n:Nat):List RT:=List.replicate n (ro (some 0))

end Go.Proofs.YticmgmemnpcbbaaGreat.Vm

namespace Go.Proofs.YticmgmemnpcbbaaGreat.Vm
open Go Go.Proofs
set_option linter.unusedSimpArgs false
set_option linter.unusedVariables false
def gv (cells:List (List (Option Rat))):List (List V):=cells.map fun r=> [.sl (fvs r)]
def dGr (cells:List (List (Option Rat))):D:= .s 1 (cells.map fun r=> [fl 1 (fvs r)])
def dG (r c:Nat) (cells:List (List (Option Rat))):D:= .a [.c (.int .i64 r),.c (.int .i64 c),dGr cells]
def rowOf (c:Nat) (m:Nat→Nat→Option Rat) (i:Nat):List (Option Rat):=(List.range c).map (m i)
def aTC (r c:Nat) (m:Nat→Nat→Option Rat):List (List (Option Rat)):=(List.range r).map (rowOf c m)
theorem cW (b:Int→Option Blk) (g:Int):Sub (rem b g) b:=fun z y hz=>by
 rw[aF] at hz
 split at hz
 ·cases hz
 ·exact hz

theorem OwnR.append {bl:Int→Option Blk} {sz:Nat} {rs2:List (List D)} {e2:List (List V)} {g2:List Int} (h2:OwnR bl sz rs2 e2 g2): ∀ {rs:List (List D)} {els:List (List V)} {g1:List Int},OwnR bl sz rs els g1→(∀x,x∈g1→x∉g2)→OwnR bl sz (rs++rs2) (els++e2) (g1++g2)
 | [], els, g1, h, hd => by
   rw[OwnR] at h
   obtain⟨rfl,rfl⟩:=h
   exact h2
 | r :: rs, els, g1, h, hd => by
   rw[OwnR] at h
   obtain⟨e,lO,ga,gb,rfl,rfl,h3,h4,h5,h6,h7⟩:=h
   have ih:=OwnR.append h2 h7 fun x hx=>hd x (List.mem_append_right _ hx)
   show OwnR bl sz (r::(rs++rs2)) (e::(lO++e2)) (ga++gb++g2)
   rw[OwnR]
   refine⟨e,lO++e2,ga,gb++g2,rfl,by simp,fun x hx hx2=> ?_,h4,h5,h6,ih⟩
   rcases List.mem_append.1 hx2 with hx2 | hx2
   ·exact h3 x hx hx2
   ·exact hd x (List.mem_append_left _ hx) hx2
structure MX where
 r:Int
 c:Int
 cells:List RT
def MX.c3 (m:MX):List V:= [.int .i64 m.r,.int .i64 m.c,.sl (rv m.cells)]
def dMx (m:MX):List D:= [.c (.int .i64 m.r),.c (.int .i64 m.c),dRs m.cells]
def aM9 (cells:List (List (Option Rat))):Bool:=cells.all yF
def aXP (r c:Int) (cells:List (List (Option Rat))):MX:=if aM9 cells=true then⟨r,c,(cells.map Hq).flatten⟩ else⟨0,0,[]⟩
def dMB (m:MX) (b:Bool):D:= .t [.a (dMx m),.c (.bool b)]
def aT7 (cells:List (List (Option Rat))) (i:Nat):List RT:=((cells.take i).map Hq).flatten

theorem Nz (a b:Rat) (hb:b.num≠0):sg (decide (a.num<0) !=decide (b.num<0)) (a.num.natAbs*b.den)=a.num*(b.num.sign*b.den):=by
 have h1:b.num.sign.natAbs=1:=by rw[Int.natAbs_sign];simp[hb]
 have h2:(b.num.sign*(b.den:Int)).natAbs=b.den:=by rw[Int.natAbs_mul,h1,Nat.one_mul,Int.natAbs_natCast]
 have hd:=b.den_pos
 have h3:decide (b.num.sign*(b.den:Int)<0)=decide (b.num<0):=by
  rw[decide_eq_decide]
  constructor
  ·intro h
   by_cases h4:b.num<0
   ·exact h4
   ·have:b.num.sign=1:=Int.sign_eq_one_of_pos (by omega)
    rw[this] at h;omega
  ·intro h
   rw[Int.sign_eq_neg_one_of_neg h];omega
 have:=sH a.num (b.num.sign*b.den)
 rw[h2,h3] at this
 exact this

def iD (s:Str) (n:Nat):List Int:=((aP s.js).take n).flatMap fun j=>dZ s j++eL s j
def gW (s:Str):List Int:=(aP s.js).flatMap fun j=>dZ s j++eL s j
theorem wX (s:Str) (n:Nat) (h:n<(aP s.js).length):iD s (n+1)=iD s n++dZ s (aP s.js)[n]++eL s (aP s.js)[n]:=by
 unfold iD
 rw[List.take_add_one,List.getElem?_eq_getElem h,List.flatMap_append];simp
theorem jY (s:Str): ∀n,n≤(aP s.js).length→(iD s n).length=2*s.ms.length*n
 | 0, _ => by simp [iD]
 | n + 1, h => by
   rw[wX s n (by omega),List.length_append,List.length_append,jY s n (by omega),mF,mC,Nat.mul_add];omega
structure Yb where
 i:Nat
 g:Int
 b:Int→Option Blk
def Md (bl:Int→Option Blk) (s:Str) (gs:Int) (p:Yb):Prop:=
 p.i≤(aP s.js).length∧p.g≠gs∧p.b p.g=some ⟨1,iv (iD s p.i)⟩∧p.b gs=some ⟨2,[[.sl (jv s.js),.sl (mv s.ms)]]⟩∧bl p.g=none∧Sub bl p.b∧(p.g<0→iD s p.i= [])
def xTo (s:Str) (j:Int) (n:Nat):List Int:=(s.ms.take n).map (eqX s j)
def yTo (s:Str) (j:Int) (n:Nat):List Int:=(s.ms.take n).map (eqY s j)
theorem Mo (s:Str) (j:Int) (n:Nat) (h:n<s.ms.length):xTo s j (n+1)=xTo s j n++ [eqX s j s.ms[n]]:=by
 unfold xTo;rw[List.take_add_one,List.getElem?_eq_getElem h,List.map_append];rfl
theorem Pt (s:Str) (j:Int) (n:Nat) (h:n<s.ms.length):yTo s j (n+1)=yTo s j n++ [eqY s j s.ms[n]]:=by
 unfold yTo;rw[List.take_add_one,List.getElem?_eq_getElem h,List.map_append];rfl
theorem Ub (s:Str) (j:Int):xTo s j s.ms.length=dZ s j:=by simp[xTo,dZ]
theorem Vh (s:Str) (j:Int):yTo s j s.ms.length=eL s j:=by simp[yTo,eL]
theorem Fu (s:Str) (j:Int) (n:Nat) (h:n≤s.ms.length):(xTo s j n).length=n:=by simp[xTo];omega
theorem Dt (s:Str) (j:Int) (n:Nat) (h:n≤s.ms.length):(yTo s j n).length=n:=by simp[yTo];omega
set_option maxHeartbeats 2000000 in
theorem Cq (s:Str) (hs:SOk s):NW Tryz.prog 193 [.agg s.c] (fl 1 (iv (gW s))):=by
 have h6:=hs.nj
 have h8:=hs.nm
 have hfr:=iQ s.js s.js.length
 change(aP s.js).length≤s.js.length at hfr
 refine iX Tryz.func193 rfl rfl (by rw[Tryz.ntmps193];simp) fun bl=> ?_
 rw[Tryz.ntmps193,Tryz.results193]
 refine aC ?_
 simp[Str.c]
 intro gs aBL hgs ga aK5 H7 Dn
 simp[Str.c,H7,Ne.symm H7]
 refine aD (sK s (by omega)) ?_
 simp
 refine aJ (fun p:Yb=> [(1,.loc gs 2 0 0),(3,.lsl p.g 1 0 (2*s.ms.length*p.i)),(14,.sl (iv (aP s.js))),(15,.int .i64 (aP s.js).length),(16,.int .i64 p.i)]) (fun p=>p.b) (Md bl s gs) (fun p=>(aP s.js).length - p.i) 78
  ⟨0,ga,upd (upd bl gs (some ⟨2,[[.sl (jv s.js),.sl (mv s.ms)]]⟩)) ga (some ⟨1,[]⟩)⟩ ⟨Nat.zero_le _,H7,by simp[iD,iv],by simp[Ne.symm H7],Dn,by simp[hgs,Dn],fun _=>rfl⟩ ⟨rfl,by simp,sub_eq (by simp[Str.c])⟩ ?_
 rintro⟨i,g,b⟩ ⟨hi,hgg,hbg,hbs,hg,hsb,h0⟩
 simp only at hi hgg hbg hbs hg hsb h0
 refine aC ?_
 simp
 refine⟨fun h=> ?_,fun h=> ?_⟩
 ·have q:=eG (aP s.js) i h
  simp[h]
  obtain⟨j,hj⟩: ∃j,(aP s.js)[i]=j:=⟨_,rfl⟩
  rw[hj]
  intro gx aK3 hbx gy aTK hyx hby
  have nxs:gx≠gs:=fun e=>by rw[e,hbs] at hbx;cases hbx
  have nys:gy≠gs:=fun e=>by rw[e,hbs] at hby;cases hby
  have nxg:gx≠g:=fun e=>by rw[e,hbg] at hbx;cases hbx
  have nyg:gy≠g:=fun e=>by rw[e,hbg] at hby;cases hby
  simp[nxs,Ne.symm nxs,nys,Ne.symm nys,hbs]
  refine aJ (fun p:Two=> [(1,.loc gs 2 0 0),(3,.lsl g 1 0 (2*s.ms.length*i)),(5,.int .i64 j),(6,.lsl p.g 1 0 p.i),(7,.lsl p.h 1 0 p.i),(14,.sl (iv (aP s.js))),(15,.int .i64 (aP s.js).length),(16,.int .i64 i),(23,.sl (mv s.ms)),(24,.int .i64 s.ms.length),(25,.int .i64 p.i)])
   (fun p=>p.b) (fun p=>Oi b (xTo s j) (yTo s j) s.ms.length p∧0≤p.g∧0≤p.h) (fun p=>s.ms.length - p.i) 78 ⟨0,gx,gy,upd (upd b gx (some ⟨1,[]⟩)) gy (some ⟨1,[]⟩)⟩ ⟨⟨Nat.zero_le _,Ne.symm hyx,by simp[Ne.symm hyx,xTo,iv],by simp[yTo,iv],hbx,hby,by simp[hbx,hby],fun _=>rfl,fun _=>rfl⟩,aK3,aTK⟩ ⟨rfl,by simp,sub_eq (by simp)⟩ ?_
  rintro⟨k,x,y,c⟩ ⟨⟨hk,hxy,hcx,hcy,V8,V2,hsc,_,_⟩,hx0,hy0⟩
  simp only at hk hxy hcx hcy V8 V2 hsc hx0 hy0
  have hcs:=hsc _ _ hbs
  have hcg:=hsc _ _ hbg
  have fr: ∀x,c x=none→b x=none:=fun x hx=>aQ hsc hx
  have lx:=Fu s j k hk
  have ly:=Dt s j k hk
  have tkx:(iv (xTo s j k)).take k=iv (xTo s j k):=List.take_of_length_le (by simp[lx])
  have tky:(iv (yTo s j k)).take k=iv (yTo s j k):=List.take_of_length_le (by simp[ly])
  refine aC ?_
  simp
  refine⟨fun hkl=> ?_,fun hkl=> ?_⟩
  ·have hv:=Jg hs (List.getElem_mem hkl)
   have hm:mat s (k:Int)=s.ms[k]:=yA hkl
   have zH:=O8 s k hs (by omega) (by omega)
   rw[hm] at zH
   have w1:IntKind.i64.wrap ((k:Int)+1)=k+1:=i64_in (by omega) (by omega)
   have nx:IntKind.i64.wrap (-vx s s.ms[k])= -vx s s.ms[k]:=i64_in (by omega) (by omega)
   have ny:IntKind.i64.wrap (-vy s s.ms[k])= -vy s s.ms[k]:=i64_in (by omega) (by omega)
   have sx:=Mo s j k hkl
   have sy:=Pt s j k hkl
   simp[hkl,Mb.c]
   intro g1 hg1 hb1
   have n1s:g1≠gs:=fun e=>by rw[e,hcs] at hb1;cases hb1
   have n1x:g1≠x:=fun e=>by rw[e,hcx] at hb1;cases hb1
   have n1y:g1≠y:=fun e=>by rw[e,hcy] at hb1;cases hb1
   simp[n1s,Ne.symm n1s,hcs]
   refine aD zH ?_
   simp
   refine⟨fun e1=> ?_,fun e1=>⟨fun e2=> ?_,fun e2=> ?_⟩⟩
   ·intro g2 hg2 h21 hb2
    have n2x:g2≠x:=fun e=>by rw[e,hcx] at hb2;cases hb2
    have n2y:g2≠y:=fun e=>by rw[e,hcy] at hb2;cases hb2
    simp[hcx,n1x,h21,n2x,Ne.symm n1x,Ne.symm h21,Ne.symm n2x,lx,tkx,nx,ny,appV,elsV,Int.not_lt.2 hg2]
    refine⟨by omega,fun g3 hg3 hb3=> ?_⟩
    have n31:g3≠g1:=by grind
    have n3y:g3≠y:=by grind
    simp[n31,Ne.symm n31,n3y,Ne.symm n3y,nx,ny]
    intro g4 hg4 h43 hb4
    have n41:g4≠g1:=by grind
    have n4y:g4≠y:=by grind
    simp[hxy,Ne.symm hxy,hcy,n1y,Ne.symm n1y,n2y,Ne.symm n2y,n31,Ne.symm n31,n3y,Ne.symm n3y,n41,Ne.symm n41,n4y,Ne.symm n4y,h43,Ne.symm h43,ly,tky,lx,tkx,nx,ny,appV,elsV,Int.not_lt.2 hg4]
    refine⟨by omega,fun g5 hg5 hb5=> ?_⟩
    have n51:g5≠g1:=by grind
    have n53:g5≠g3:=by grind
    have f1:eqX s j s.ms[k]=vx s s.ms[k]:=by rw[eqX,if_pos e1]
    have f2:eqY s j s.ms[k]=vy s s.ms[k]:=by rw[eqY,if_pos e1]
    rw[f1] at sx
    rw[f2] at sy
    simp[w1,aB]
    refine⟨⟨k+1,g3,g5,_⟩,⟨⟨by simp only;omega,by simp only;grind,?_,?_,by simp only;grind,by simp only;grind,?_,fun e=>by simp only at e;omega,fun e=>by simp only at e;omega⟩,hg3,hg5⟩,by simp only;omega,rfl,by simp,sub_eq rfl⟩
    ·simp[hxy,Ne.symm hxy,n31,Ne.symm n31,n51,Ne.symm n51,n53,Ne.symm n53,n41,Ne.symm n41,h43,Ne.symm h43,n3y,Ne.symm n3y,n4y,Ne.symm n4y,sx,aV,jW,tkx,tky]
    ·simp[hxy,Ne.symm hxy,n31,Ne.symm n31,n51,Ne.symm n51,n53,Ne.symm n53,n41,Ne.symm n41,h43,Ne.symm h43,n3y,Ne.symm n3y,n4y,Ne.symm n4y,sy,aV,jW,tkx,tky]
    ·intro u z hx
     have hbx:=hsc u z hx
     have ng:u≠x:=fun e=>by rw[e,V8] at hx;cases hx
     have nh:u≠y:=fun e=>by rw[e,V2] at hx;cases hx
     simp[aA,aF]
     grind
   ·intro g2 hg2 h21 hb2
    have n2x:g2≠x:=fun e=>by rw[e,hcx] at hb2;cases hb2
    have n2y:g2≠y:=fun e=>by rw[e,hcy] at hb2;cases hb2
    simp[hcx,n1x,h21,n2x,Ne.symm n1x,Ne.symm h21,Ne.symm n2x,lx,tkx,nx,ny,appV,elsV,Int.not_lt.2 hg2]
    refine⟨by omega,fun g3 hg3 hb3=> ?_⟩
    have n31:g3≠g1:=by grind
    have n3y:g3≠y:=by grind
    simp[n31,Ne.symm n31,n3y,Ne.symm n3y,nx,ny]
    intro g4 hg4 h43 hb4
    have n41:g4≠g1:=by grind
    have n4y:g4≠y:=by grind
    simp[hxy,Ne.symm hxy,hcy,n1y,Ne.symm n1y,n2y,Ne.symm n2y,n31,Ne.symm n31,n3y,Ne.symm n3y,n41,Ne.symm n41,n4y,Ne.symm n4y,h43,Ne.symm h43,ly,tky,lx,tkx,nx,ny,appV,elsV,Int.not_lt.2 hg4]
    refine⟨by omega,fun g5 hg5 hb5=> ?_⟩
    have n51:g5≠g1:=by grind
    have n53:g5≠g3:=by grind
    have f1:eqX s j s.ms[k]= -vx s s.ms[k]:=by rw[eqX,if_neg e1,if_pos e2]
    have f2:eqY s j s.ms[k]= -vy s s.ms[k]:=by rw[eqY,if_neg e1,if_pos e2]
    rw[f1] at sx
    rw[f2] at sy
    simp[w1,aB]
    refine⟨⟨k+1,g3,g5,_⟩,⟨⟨by simp only;omega,by simp only;grind,?_,?_,by simp only;grind,by simp only;grind,?_,fun e=>by simp only at e;omega,fun e=>by simp only at e;omega⟩,hg3,hg5⟩,by simp only;omega,rfl,by simp,sub_eq rfl⟩
    ·simp[hxy,Ne.symm hxy,n31,Ne.symm n31,n51,Ne.symm n51,n53,Ne.symm n53,n41,Ne.symm n41,h43,Ne.symm h43,n3y,Ne.symm n3y,n4y,Ne.symm n4y,sx,aV,jW,tkx,tky]
    ·simp[hxy,Ne.symm hxy,n31,Ne.symm n31,n51,Ne.symm n51,n53,Ne.symm n53,n41,Ne.symm n41,h43,Ne.symm h43,n3y,Ne.symm n3y,n4y,Ne.symm n4y,sy,aV,jW,tkx,tky]
    ·intro u z hx
     have hbx:=hsc u z hx
     have ng:u≠x:=fun e=>by rw[e,V8] at hx;cases hx
     have nh:u≠y:=fun e=>by rw[e,V2] at hx;cases hx
     simp[aA,aF]
     grind
   ·intro g2 hg2 h21 hb2
    have n2x:g2≠x:=fun e=>by rw[e,hcx] at hb2;cases hb2
    have n2y:g2≠y:=fun e=>by rw[e,hcy] at hb2;cases hb2
    simp[hcx,n1x,h21,n2x,Ne.symm n1x,Ne.symm h21,Ne.symm n2x,lx,tkx,nx,ny,appV,elsV,Int.not_lt.2 hg2]
    refine⟨by omega,fun g3 hg3 hb3=> ?_⟩
    have n31:g3≠g1:=by grind
    have n3y:g3≠y:=by grind
    simp[n31,Ne.symm n31,n3y,Ne.symm n3y,nx,ny]
    intro g4 hg4 h43 hb4
    have n41:g4≠g1:=by grind
    have n4y:g4≠y:=by grind
    simp[hxy,Ne.symm hxy,hcy,n1y,Ne.symm n1y,n2y,Ne.symm n2y,n31,Ne.symm n31,n3y,Ne.symm n3y,n41,Ne.symm n41,n4y,Ne.symm n4y,h43,Ne.symm h43,ly,tky,lx,tkx,nx,ny,appV,elsV,Int.not_lt.2 hg4]
    refine⟨by omega,fun g5 hg5 hb5=> ?_⟩
    have n51:g5≠g1:=by grind
    have n53:g5≠g3:=by grind
    have f1:eqX s j s.ms[k]=0:=by rw[eqX,if_neg e1,if_neg e2]
    have f2:eqY s j s.ms[k]=0:=by rw[eqY,if_neg e1,if_neg e2]
    rw[f1] at sx
    rw[f2] at sy
    simp[w1,aB]
    refine⟨⟨k+1,g3,g5,_⟩,⟨⟨by simp only;omega,by simp only;grind,?_,?_,by simp only;grind,by simp only;grind,?_,fun e=>by simp only at e;omega,fun e=>by simp only at e;omega⟩,hg3,hg5⟩,by simp only;omega,rfl,by simp,sub_eq rfl⟩
    ·simp[hxy,Ne.symm hxy,n31,Ne.symm n31,n51,Ne.symm n51,n53,Ne.symm n53,n41,Ne.symm n41,h43,Ne.symm h43,n3y,Ne.symm n3y,n4y,Ne.symm n4y,sx,aV,jW,tkx,tky]
    ·simp[hxy,Ne.symm hxy,n31,Ne.symm n31,n51,Ne.symm n51,n53,Ne.symm n53,n41,Ne.symm n41,h43,Ne.symm h43,n3y,Ne.symm n3y,n4y,Ne.symm n4y,sy,aV,jW,tkx,tky]
    ·intro u z hx
     have hbx:=hsc u z hx
     have ng:u≠x:=fun e=>by rw[e,V8] at hx;cases hx
     have nh:u≠y:=fun e=>by rw[e,V2] at hx;cases hx
     simp[aA,aF]
     grind
  ·have:k=s.ms.length:=by omega
   subst this
   rw[Ub] at hcx
   rw[Vh] at hcy
   have aXF:x≠gs:=fun e=>by rw[e,hbs] at V8;cases V8
   have aXY:y≠gs:=fun e=>by rw[e,hbs] at V2;cases V2
   have Ua:x≠g:=fun e=>by rw[e,hbg] at V8;cases V8
   have Uk:y≠g:=fun e=>by rw[e,hbg] at V2;cases V2
   have lr:=jY s i (by omega)
   have tkr:(iv (iD s i)).take (2*s.ms.length*i)=iv (iD s i):=List.take_of_length_le (by simp[lr])
   have tkX:(iv (dZ s j)).take s.ms.length=iv (dZ s j):=List.take_of_length_le (by simp)
   have tkY:(iv (eL s j)).take s.ms.length=iv (eL s j):=List.take_of_length_le (by simp)
   have hi6:2*s.ms.length*i≤2*8*6:=Nat.mul_le_mul (by omega) (by omega)
   simp[hcg,hcx,hcy,Ua,Uk,Ne.symm Ua,Ne.symm Uk,Int.not_lt.2 hx0,Int.not_lt.2 hy0,appV,elsV,lr,tkr,tkX,tkY]
   refine⟨by omega,fun go hgo hbo=> ?_⟩
   have nos:go≠gs:=by grind
   have nox:go≠x:=by grind
   have noy:go≠y:=by grind
   simp[nox,noy,Ne.symm nox,Ne.symm noy,Ua,Uk,Ne.symm Ua,Ne.symm Uk,hcx,hcy,Int.not_lt.2 hx0,Int.not_lt.2 hy0,appV,elsV,lr,tkr,tkX,tkY]
   refine⟨by omega,fun gn hgn hbn=> ?_⟩
   have nns:gn≠gs:=by grind
   have w2:IntKind.i64.wrap ((i:Int)+1)=i+1:=i64_in (by omega) (by omega)
   subst hj
   have rs:=wX s i h
   have h1:bl go=none:=by
    by_cases e:go=g
    ·rw[e];exact hg
    ·exact aQ hsb (fr _ (hbo e))
   have h2:bl gn=none:=by
    by_cases e:gn=go
    ·rw[e];exact h1
    ·by_cases e2:gn=g
     ·rw[e2];exact hg
     ·exact aQ hsb (fr _ (by grind))
   simp[w2,aB]
   refine⟨⟨i+1,gn,_⟩,⟨by simp only;omega,nns,?_,?_,h2,?_,?_⟩,by simp only;omega,rfl,?_,sub_eq rfl⟩
   ·have tk2:(iv (iD s i)++iv (dZ s (aP s.js)[i])).take (2*s.ms.length*i+s.ms.length)=iv (iD s i)++iv (dZ s (aP s.js)[i]):=List.take_of_length_le (by simp[lr])
    simp[rs,aV,tk2]
   ·simp[Ne.symm nns,Ne.symm nos,Ne.symm hgg,hcs]
   ·intro u z hx
    have hbx:=hsc u z (hsb u z hx)
    have n1:u≠g:=fun e=>by rw[e,hg] at hx;cases hx
    have n2:u≠go:=fun e=>by rw[e,h1] at hx;cases hx
    have n3:u≠gn:=fun e=>by rw[e,h2] at hx;cases hx
    simp[n1,n2,n3,hbx]
   ·intro e
    simp only at e ⊢
    have ez:s.ms= []:=by
     rcases hgn with hn | ⟨_,hn⟩
     ·omega
     ·have:=congrArg List.length hn
      simpa using this
    have er:=lr
    rw[ez] at er
    rw[rs]
    simp[dZ,eL,ez] at er ⊢
    exact er
   ·simp[Nat.mul_add];omega
 ·have:i=(aP s.js).length:=by omega
  subst this
  refine gH [.lsl g 1 0 (2*s.ms.length*(aP s.js).length)] [g] (by simp) ?_ (by simpa using hg) hsb
  have e:gW s=iD s (aP s.js).length:=by simp[gW,iD]
  refine dE.2 (.inr ⟨g,?_,rfl,by rw[e];exact hbg,by rw[e];exact h0⟩)
  rw[e,jY s _ (Nat.le_refl _)];rfl
theorem Eg (s:Str) (hs:SOk s):RO Tryz.prog 193 [.agg s.c] (.sl (iv (gW s))):=by
 have:=jE 1 (Cq s hs) (kZ _ _ 0)
 simpa using this
def fL (s:Str) (l:List Int) (n:Nat):List Int:=((aP s.js).take n).flatMap fun j=> [-lat l (2*j).toNat, -lat l (2*j+1).toNat]
def right (s:Str) (l:List Int):List Int:=(aP s.js).flatMap fun j=> [-lat l (2*j).toNat, -lat l (2*j+1).toNat]
theorem tL (s:Str) (l:List Int) (n:Nat) (h:n<(aP s.js).length):fL s l (n+1)=fL s l n++ [-lat l (2*(aP s.js)[n]).toNat, -lat l (2*(aP s.js)[n]+1).toNat]:=by
 unfold fL
 rw[List.take_add_one,List.getElem?_eq_getElem h,List.flatMap_append];simp
theorem jH (s:Str) (l:List Int): ∀n,n≤(aP s.js).length→(fL s l n).length=2*n
 | 0, _ => by simp [fL]
 | n + 1, h => by
   rw[tL s l n (by omega),List.length_append,jH s l n (by omega)];simp;omega
theorem wJ {s:Str} {j:Int} (h:j∈aP s.js):0≤j∧j<s.js.length:=by
 unfold aP cA at h
 obtain⟨k,hk,rfl⟩:=List.mem_map.1 h
 have:=List.mem_range.1 (List.mem_filter.1 hk).1
 omega
theorem kG (s:Str) (l:List Int) (hL:LOk s l):NW Tryz.prog 194 [.agg s.c,.sl (iv l)] (fl 1 (iv (right s l))):=by
 have h6:=hL.sok.nj
 have hfr:=iQ s.js s.js.length
 change(aP s.js).length≤s.js.length at hfr
 refine iX Tryz.func194 rfl rfl (by rw[Tryz.ntmps194];simp) fun bl=> ?_
 rw[Tryz.ntmps194,Tryz.results194]
 refine aC ?_
 simp[Str.c]
 intro gs aBL hgs ga aK5 H7 Dn
 simp[Str.c,H7,Ne.symm H7]
 refine aD (sK s (by omega)) ?_
 simp
 refine aJ (fun p:Nat×Int=> [(1,.sl (iv l)),(5,.lsl p.2 1 0 (2*p.1)),(10,.sl (iv (aP s.js))),(11,.int .i64 (aP s.js).length),(12,.int .i64 p.1)]) (fun p=>upd bl p.2 (some ⟨1,iv (fL s l p.1)⟩)) (fun p=>p.1≤(aP s.js).length∧bl p.2=none∧(p.2<0→fL s l p.1= [])) (fun p=>(aP s.js).length - p.1) 34 (0,ga) ⟨Nat.zero_le _,Dn,fun _=>rfl⟩ (by refine⟨rfl,by simp,?_⟩;exact dK (by simp[fL,iv]) (by simp[hgs])) ?_
 rintro⟨i,g⟩ ⟨hi,hg,h0⟩
 simp only at hi hg h0
 refine aC ?_
 simp
 refine⟨fun h=> ?_,fun h=> ?_⟩
 ·have q:=eG (aP s.js) i h
  obtain⟨r1,r2⟩:=wJ (List.getElem_mem h)
  have rs:=tL s l i h
  simp[h]
  obtain⟨j,hj⟩: ∃j,(aP s.js)[i]=j:=⟨_,rfl⟩
  rw[hj] at r1 r2 rs ⊢
  have a1:(2*j).toNat<l.length:=by rw[hL.n];omega
  have a2:(2*j+1).toNat<l.length:=by rw[hL.n];omega
  have b1:=hL.f _ a1
  have b2:=hL.f _ a2
  have q1:=wW a1
  have q2:=wW a2
  have w1:IntKind.i64.wrap (2*j)=2*j:=i64_in (by omega) (by omega)
  have w2:IntKind.i64.wrap (2*j+1)=2*j+1:=i64_in (by omega) (by omega)
  have w3:IntKind.i64.wrap (-lat l (2*j).toNat)= -lat l (2*j).toNat:=i64_in (by omega) (by omega)
  have w4:IntKind.i64.wrap (-lat l (2*j+1).toNat)= -lat l (2*j+1).toNat:=i64_in (by omega) (by omega)
  have w5:IntKind.i64.wrap ((i:Int)+1)=i+1:=i64_in (by omega) (by omega)
  have p1:0≤2*j:=by omega
  have p2:0≤2*j+1:=by omega
  refine aW aM bl (by simp[hg]) [0,1,2,3,4,5,6,7,8,9,10,11,12,13] 3 (by kernel_rfl) ?_
  simp[-eG,w1,w2,w3,w4,q1,q2,p1,p2]
  have er2:List.range 2= [0,1]:=rfl
  have lr:=jH s l i (by omega)
  have tkr:(iv (fL s l i)).take (2*i)=iv (fL s l i):=List.take_of_length_le (by simp[lr])
  refine Dz 14 ?_
  simp
  intro gp hgp hpg hbp
  refine⟨by simp[hbp,hg],Dz 15 ?_⟩
  simp[er2,hpg,Ne.symm hpg,lr,tkr,appV,elsV,Int.not_lt.2 hgp]
  refine⟨by omega,fun gn hgn hbn=> ?_⟩
  have hgb:bl gn=none:=by grind
  have hsb: ∀X,Sub bl (upd (rem (upd (upd bl g (some ⟨1,iv (fL s l i)⟩)) gp (some ⟨1,[[.int .i64 (-lat l (2*j).toNat)],[.int .i64 (-lat l (2*j+1).toNat)]]⟩)) g) gn X):=fun X=>by simp[hg,hbp,hgb,hpg]
  refine⟨hsb _,Dz 16 ?_⟩
  simp
  refine⟨hsb _,Dy ?_⟩
  simp[w5,aB]
  refine⟨i+1,gn,⟨by omega,?_,by omega⟩,by omega,rfl,by simp;omega,?_⟩
  ·grind
  rw[rs,aV]
  exact dK (by rfl) (by simp[hg,hbp,hpg])
 ·have:i=(aP s.js).length:=by omega
  subst this
  refine gH [.lsl g 1 0 (2*(aP s.js).length)] [g] (by simp) ?_ (by simpa using hg) (by simp[hg])
  have e:right s l=fL s l (aP s.js).length:=by simp[right,fL]
  refine dE.2 (.inr ⟨g,?_,rfl,by rw[e];simp,by rw[e];exact h0⟩)
  rw[e,jH s l _ (Nat.le_refl _)];rfl

structure Pg where
 rows:Int
 bD:Int
 a:List Int
 b:List Int
 c:List Int
def Pg.v (p:Pg):List V:= [.int .i64 p.rows,.int .i64 p.bD,.sl (iv p.a),.sl (iv p.b),.sl (iv p.c)]
def nR (s:Str):Nat:=2*(aP s.js).length
def nC (s:Str):Nat:=(bD s.ms).length
def dJ (s:Str) (c:Nat):Int×Int:=(bD s.ms).getD c (0,0)
def ent (s:Str) (i c:Nat):Int:=(dJ s c).2*lat (gW s) (i*s.ms.length+(dJ s c).1.toNat)
def aTo (s:Str) (n:Nat):List Int:=(List.range n).map fun t=>ent s (t / nC s) (t % nC s)
def bY (s:Str) (l:List Int):Pg:=⟨nR s,nC s,aTo s (nR s*nC s),right s l,List.replicate (nC s) 0⟩
@[simp] theorem aC0 (s : Str) (n : Nat) : (aTo s n).length = n := by simp [aTo]
theorem Qy (s:Str) (i c:Nat) (h:c<nC s):aTo s (i*nC s+c+1)=aTo s (i*nC s+c)++ [ent s i c]:=by
 unfold aTo
 rw[List.range_succ,List.map_append]
 congr 1
 simp only[List.map_cons,List.map_nil]
 rw[Nat.mul_comm i,Nat.mul_add_div (by omega),Nat.mul_add_mod,Nat.div_eq_of_lt h,Nat.mod_eq_of_lt h,Nat.add_zero]
theorem O7 (s:Str):(gW s).length=nR s*s.ms.length:=by
 have e:gW s=iD s (aP s.js).length:=by simp[gW,iD]
 rw[e,jY s _ (Nat.le_refl _),nR,Nat.mul_right_comm]
theorem Of {ms:List Mb} {n:Nat} {p:Int×Int} (h:p∈bA ms n):(0≤p.1∧p.1<n)∧(p.2=1∨p.2= -1):=by
 unfold bA at h
 obtain⟨k,hk,hp⟩:=List.mem_flatMap.1 h
 have:=List.mem_range.1 hk
 unfold D8 at hp
 rcases List.mem_append.1 hp with hp | hp<;>split at hp<;>simp at hp<;>subst hp<;>simp<;>omega
theorem nJ (s:Str) (c:Nat) (h:c<nC s):(0≤(dJ s c).1∧(dJ s c).1<s.ms.length)∧((dJ s c).2=1∨(dJ s c).2= -1):=by
 unfold nC at h
 have:dJ s c=(bD s.ms)[c]:=by simp[dJ,h]
 rw[this]
 exact Of (List.getElem_mem h)
theorem Qq (s:Str) (c:Nat) (h:c<nC s):(iv (who s))[c]? =some [.int .i64 (dJ s c).1]:=by
 unfold nC at h
 simp[who,dJ,h,iv]
theorem Pu (s:Str) (c:Nat) (h:c<nC s):(iv (sgn s))[c]? =some [.int .i64 (dJ s c).2]:=by
 unfold nC at h
 simp[sgn,dJ,h,iv]
theorem zG {s:Str} (hs:SOk s) (n:Nat): -100≤lat (gW s) n∧lat (gW s) n≤100:=by
 have key: ∀x,x∈gW s→ -100≤x∧x≤100:=by
  intro x hx
  unfold gW at hx
  obtain⟨j,_,hx⟩:=List.mem_flatMap.1 hx
  rcases List.mem_append.1 hx with hx | hx
  ·obtain⟨m,hm,rfl⟩:=List.mem_map.1 hx
   have:=Jg hs hm
   unfold eqX;split
   ·omega
   ·split<;>omega
  ·obtain⟨m,hm,rfl⟩:=List.mem_map.1 hx
   have:=Jg hs hm
   unfold eqY;split
   ·omega
   ·split<;>omega
 unfold lat
 rw[List.getD_eq_getElem?_getD]
 cases h:(gW s)[n]? with
 | none => simp
 | some x => exact key x (List.mem_of_getElem? h)
structure PS where
 n:Nat
 g:Int
 b:Int→Option Blk
structure PI (bl : Int → Option Blk) (s : Str) (l : List Int) (gr gp gc : Int) (p : PS) : Prop where
 hr:p.b gr=some ⟨5,[[.int .i64 0,.int .i64 0,.nils,.nils,.nils]]⟩
 hp:p.b gp=some ⟨5,[[.int .i64 (nR s),.int .i64 (nC s),.lsl p.g 1 0 p.n,.sl (iv (right s l)),.lsl gc 1 0 (nC s)]]⟩
 hc:p.b gc=some ⟨1,iv (List.replicate (nC s) 0)⟩
 ha:p.b p.g=some ⟨1,iv (aTo s p.n)⟩
 pr:p.g≠gr
 pp:p.g≠gp
 pc:p.g≠gc
 f:bl p.g=none
 sub:Sub bl p.b
 neg:p.g<0→aTo s p.n= []

theorem P9 {n:Nat} : ∀(rs:List (List Int)),(∀r,r∈rs→r.length=n)→ ∀(i k:Nat) (hi:i<rs.length),k<n→lat rs.flatten (i*n+k)=lat rs[i] k
 | [], _, i, k, hi, _ => by simp at hi
 | r :: rs, h, 0, k, hi, hk => by
   have:=h r List.mem_cons_self
   simp[lat,List.flatten_cons,List.getElem?_append_left (show k<r.length by omega)]
 | r :: rs, h, i + 1, k, hi, hk => by
   have hr:=h r List.mem_cons_self
   have ih:=P9 rs (fun r hr=>h r (List.mem_cons_of_mem _ hr)) i k (by simpa using hi) hk
   have e:(i+1)*n+k=r.length+(i*n+k):=by rw[hr,Nat.add_mul];omega
   rw[List.flatten_cons,e]
   simp only[lat,List.getD_eq_getElem?_getD] at ih ⊢
   rw[List.getElem?_append_right (by omega),Nat.add_sub_cancel_left,ih];rfl
theorem A3 (s:Str):gW s=(gD s).flatten:=by
 unfold gW gD
 induction aP s.js with
 | nil => rfl
 | cons j js ih => simp [ih]
theorem sQ (s:Str): ∀r,r∈gD s→r.length=s.ms.length:=by
 intro r hr
 unfold gD at hr
 obtain⟨j,_,hr⟩:=List.mem_flatMap.1 hr
 simp at hr
 rcases hr with rfl | rfl<;>simp
theorem aBU (s:Str) (n m:Nat) (h:m<n):(iv (aTo s n))[m]'(by simpa using h)= [.int .i64 (ent s (m / nC s) (m % nC s))]:=by simp[aTo]
theorem eR (s:Str) (l:List Int):(right s l).length=nR s:=by
 have e:right s l=fL s l (aP s.js).length:=by simp[right,fL]
 rw[e,jH s l _ (Nat.le_refl _)];rfl
theorem Af (s:Str) (l:List Int): ∀(fs:List Int) (i:Nat) (h:i<fs.length),lat (fs.flatMap fun j=> [-lat l (2*j).toNat, -lat l (2*j+1).toNat]) (2*i)= -lat l (2*fs[i]).toNat∧lat (fs.flatMap fun j=> [-lat l (2*j).toNat, -lat l (2*j+1).toNat]) (2*i+1)= -lat l (2*fs[i]+1).toNat
 | [], i, h => by simp at h
 | f :: fs, 0, _ => by simp [lat]
 | f :: fs, i + 1, h => by
   have ih:=Af s l fs i (by simpa using h)
   have e1:2*(i+1)=(2*i)+1+1:=by omega
   have e2:2*(i+1)+1=(2*i+1)+1+1:=by omega
   rw[e2,e1]
   simpa [lat] using ih
theorem E8 (s:Str) (hs:SOk s):RO Tryz.prog 148 [.ptr s.c] (.sl (ivv (gD s))):=by
 have:=jE 2 (D0 s hs) (Sy _)
 rwa [aAY] at this
def dPg (p:Pg):D:= .a [.c (.int .i64 p.rows),.c (.int .i64 p.bD),fl 1 (iv p.a),fl 1 (iv p.b),fl 1 (iv p.c)]
structure ABC where
 a:Int
 b:Int
 c:Int
structure Xq (bl : Int → Option Blk) (gr gp : Int) (p : ABC) : Prop where
 a0:0≤p.a
 b0:0≤p.b
 c0:0≤p.c
 ba: ¬p.b=p.a
 ca: ¬p.c=p.a
 cb: ¬p.c=p.b
 ar: ¬p.a=gr
 ap: ¬p.a=gp
 br: ¬p.b=gr
 bp: ¬p.b=gp
 cr: ¬p.c=gr
 cp: ¬p.c=gp
 fa:bl p.a=none
 fb:bl p.b=none
 fc:bl p.c=none
theorem ad {p:Prop} {a b:Int} (F:p) (h: ¬a=b):p∧(a=b)=False∧(b=a)=False:=⟨F,eq_false h,eq_false fun e=>h e.symm⟩
theorem an {p q:Prop} (F:p) (h:q):p∧q:=⟨F,h⟩
set_option maxHeartbeats 4000000 in
theorem xQ (s:Str) (l:List Int) (hL:LOk s l):NW Tryz.prog 72 [.ptr s.c,.sl (iv l),.int .i64 0,.int .i64 0] (dPg (bY s l)):=by
 have hs:=hL.sok
 have h6:=hs.nj
 have h8:=hs.nm
 have hfr:=iQ s.js s.js.length
 change(aP s.js).length≤s.js.length at hfr
 have hcn:nC s≤2*s.ms.length:=kW s.ms s.ms.length
 have hrn:nR s≤12:=by unfold nR;omega
 have er:(gD s).length=nR s:=by
  have e:gD s=zL s (aP s.js).length:=by simp[zL,gD]
  rw[e,pK s _ (Nat.le_refl _)];rfl
 have ec:(bD s.ms).length=nC s:=rfl
 refine iX Tryz.func72 rfl rfl (by rw[Tryz.ntmps72];simp) fun bl=> ?_
 rw[Tryz.ntmps72,Tryz.results72]
 refine aE ?_
 simp
 intro gr Yr hbr
 refine aE ?_
 simp
 refine aD (E8 s hs) ?_
 simp
 refine aD (A9 s (by omega)) ?_
 simp
 refine aE ?_
 have w1:IntKind.i64.wrap (nR s:Int)=nR s:=i64_in (by omega) (by omega)
 have w2:IntKind.i64.wrap (nC s:Int)=nC s:=i64_in (by omega) (by omega)
 simp[er,ec,w1,w2]
 intro gp aTO hpr hbp
 obtain⟨nA,hA⟩: ∃n:Nat,n=nR s*nC s:=⟨_,rfl⟩
 have hA2:nA≤12*16:=by rw[hA];exact Nat.mul_le_mul (by omega) (by omega)
 have w3:IntKind.i64.wrap ((nR s:Int)*nC s)=nA:=by
  rw[hA]
  have:((nR s*nC s:Nat):Int)=nR s*nC s:=by simp
  rw[←this]
  exact i64_in (by omega) (by omega)
 let S:ABC→List (Nat×V):=fun _=> [(0,.ptr s.c),(1,.sl (iv l)),(8,.loc gr 5 0 0),(9,.sl (ivv (gD s))),(10,.sl (cv (bD s.ms))),(11,.loc gp 5 0 0)]
 let B:ABC→Int→Option Blk:=fun p=>upd (upd (upd (upd (upd bl gr (some ⟨5,[[.int .i64 0,.int .i64 0,.nils,.nils,.nils]]⟩)) gp (some ⟨5,[[.int .i64 (nR s),.int .i64 (nC s),.lsl p.a 1 0 nA,.lsl p.b 1 0 (nR s),.lsl p.c 1 0 (nC s)]]⟩)) p.a (some ⟨1,List.replicate nA [.int .i64 0]⟩)) p.b (some ⟨1,List.replicate (nR s) [.int .i64 0]⟩)) p.c (some ⟨1,List.replicate (nC s) [.int .i64 0]⟩)
 have leaf: ∀(n:Nat) (σ:St) (ga gb gc:Int),0≤ga→0≤gb→0≤gc→(¬gb=ga∧ ¬gc=ga∧ ¬gc=gb∧ ¬ga=gr∧ ¬ga=gp∧ ¬gb=gr∧ ¬gb=gp∧ ¬gc=gr∧ ¬gc=gp∧bl ga=none∧bl gb=none∧bl gc=none)→σ.n=n→(∀p,p∈S ⟨ga,gb,gc⟩→σ.sl p.1=p.2)→Sub (B ⟨ga,gb,gc⟩) σ.bl→
   ∃a,Xq bl gr gp a∧Fit (S a) n (B a) σ:=fun n σ ga gb gc h1 h2 h3 ⟨h4,h5,h6,h7,h8,h9,h10,h11,h12,h13,h14,h15⟩ h16 h17 h18=>⟨⟨ga,gb,gc⟩,⟨h1,h2,h3,h4,h5,h6,h7,h8,h9,h10,h11,h12,h13,h14,h15⟩,h16,h17,h18⟩
 refine fZ S B (Xq bl gr gp) 113 ?_ ?_
 ·have F:=an (an (ad trivial (show ¬gp=gr from hpr)) hbr) hbp
  refine Jx aM _ (Sub.refl _) [0,1,2,3,4,6,7,9,10] 9 12 (by kernel_rfl) ?_
  simp[w3]
  refine uG (i:=5) (j:=8) (m:=11) false false false (by kernel_rfl) rfl rfl (by kernel_rfl) rfl rfl (by kernel_rfl) rfl rfl (by kernel_rfl) ?_ ?_ ?_
  ·simp[F]
   refine⟨by omega,by unfold maxLen;omega,?_⟩
   intro ga hga
   intros
   have F:=an (ad (ad F (show ¬ga=gr by assumption)) (show ¬ga=gp by assumption)) (show bl ga=none by assumption)
   refine⟨by simp[F],?_⟩
   refine uG (i:=8) (j:=11) (m:=12) false false true (by kernel_rfl) rfl rfl (by kernel_rfl) rfl rfl (by kernel_rfl) rfl rfl (by kernel_rfl) ?_ ?_ ?_
   ·simp[F]
    refine⟨by omega,by unfold maxLen;omega,?_⟩
    intro gb hgb
    intros
    have F:=an (ad (ad (ad F (show ¬gb=gr by assumption)) (show ¬gb=gp by assumption)) (show ¬gb=ga by assumption)) (show bl gb=none by assumption)
    refine⟨by simp[F],?_⟩
    refine Dw 11 12 false true ?_ ?_
    ·simp[F]
     refine⟨by omega,by unfold maxLen;omega,?_⟩
     intro gc hgc
     intros
     have F:=an (ad (ad (ad (ad F (show ¬gc=gr by assumption)) (show ¬gc=gp by assumption)) (show ¬gc=ga by assumption)) (show ¬gc=gb by assumption)) (show bl gc=none by assumption)
     refine⟨by simp[F],?_⟩
     refine Dq 12 true ?_
     simp[F]
     refine Dq 13 true ?_
     simp[F]
     refine Dq 14 true ?_
     simp[F]
     refine Dq 15 true ?_
     simp[F]
     refine Dq 16 true ?_
     simp[F]
     refine Dq 17 true ?_
     simp[F]
     refine Dd ?_
     rw[aH]
     exact leaf _ _ ga gb gc hga hgb hgc (by simp[F]) rfl (by simp[S]) (by intro x y hx;simp only[B,aA] at hx ⊢;grind)
    ·simp[F]
     refine Dw 11 13 true true ?_ ?_
     ·simp[F]
      refine⟨by omega,by unfold maxLen;omega,?_⟩
      intro gc hgc
      intros
      have F:=an (ad (ad (ad (ad F (show ¬gc=gr by assumption)) (show ¬gc=gp by assumption)) (show ¬gc=ga by assumption)) (show ¬gc=gb by assumption)) (show bl gc=none by assumption)
      refine Dq 13 true ?_
      simp[F]
      refine Dq 14 true ?_
      simp[F]
      refine Dq 15 true ?_
      simp[F]
      refine Dq 16 true ?_
      simp[F]
      refine Dq 17 true ?_
      simp[F]
      refine Dd ?_
      rw[aH]
      exact leaf _ _ ga gb gc hga hgb hgc (by simp[F]) rfl (by simp[S]) (by intro x y hx;simp only[B,aA] at hx ⊢;grind)
     ·simp[F]
      refine Dw 11 14 true true ?_ ?_
      ·simp[F]
       refine⟨by omega,by unfold maxLen;omega,?_⟩
       intro gc hgc
       intros
       have F:=an (ad (ad (ad (ad F (show ¬gc=gr by assumption)) (show ¬gc=gp by assumption)) (show ¬gc=ga by assumption)) (show ¬gc=gb by assumption)) (show bl gc=none by assumption)
       refine Dq 14 true ?_
       simp[F]
       refine Dq 15 true ?_
       simp[F]
       refine Dq 16 true ?_
       simp[F]
       refine Dq 17 true ?_
       simp[F]
       refine Dd ?_
       rw[aH]
       exact leaf _ _ ga gb gc hga hgb hgc (by simp[F]) rfl (by simp[S]) (by intro x y hx;simp only[B,aA] at hx ⊢;grind)
      ·simp[F]
       refine Dw 11 15 true true ?_ ?_
       ·simp[F]
        refine⟨by omega,by unfold maxLen;omega,?_⟩
        intro gc hgc
        intros
        have F:=an (ad (ad (ad (ad F (show ¬gc=gr by assumption)) (show ¬gc=gp by assumption)) (show ¬gc=ga by assumption)) (show ¬gc=gb by assumption)) (show bl gc=none by assumption)
        refine Dq 15 true ?_
        simp[F]
        refine Dq 16 true ?_
        simp[F]
        refine Dq 17 true ?_
        simp[F]
        refine Dd ?_
        rw[aH]
        exact leaf _ _ ga gb gc hga hgb hgc (by simp[F]) rfl (by simp[S]) (by intro x y hx;simp only[B,aA] at hx ⊢;grind)
       ·simp[F]
        refine Dq 11 true ?_
        simp[F]
        refine⟨by omega,by unfold maxLen;omega,?_⟩
        intro gc hgc
        intros
        have F:=an (ad (ad (ad (ad F (show ¬gc=gr by assumption)) (show ¬gc=gp by assumption)) (show ¬gc=ga by assumption)) (show ¬gc=gb by assumption)) (show bl gc=none by assumption)
        refine Dq 16 true ?_
        simp[F]
        refine Dq 17 true ?_
        simp[F]
        refine Dd ?_
        rw[aH]
        exact leaf _ _ ga gb gc hga hgb hgc (by simp[F]) rfl (by simp[S]) (by intro x y hx;simp only[B,aA] at hx ⊢;grind)
   ·simp[F]
    refine⟨by omega,by unfold maxLen;omega,?_⟩
    intro gc hgc
    intros
    have F:=an (ad (ad (ad F (show ¬gc=gr by assumption)) (show ¬gc=gp by assumption)) (show ¬gc=ga by assumption)) (show bl gc=none by assumption)
    refine⟨by simp[F],?_⟩
    refine Dw 8 12 false true ?_ ?_
    ·simp[F]
     refine⟨by omega,by unfold maxLen;omega,?_⟩
     intro gb hgb
     intros
     have F:=an (ad (ad (ad (ad F (show ¬gb=gr by assumption)) (show ¬gb=gp by assumption)) (show ¬gb=ga by assumption)) (show ¬gb=gc by assumption)) (show bl gb=none by assumption)
     refine⟨by simp[F],?_⟩
     refine Dq 12 true ?_
     simp[F]
     refine Dq 13 true ?_
     simp[F]
     refine Dq 14 true ?_
     simp[F]
     refine Dq 15 true ?_
     simp[F]
     refine Dq 16 true ?_
     simp[F]
     refine Dq 17 true ?_
     simp[F]
     refine Dd ?_
     rw[aH]
     exact leaf _ _ ga gb gc hga hgb hgc (by simp[F]) rfl (by simp[S]) (by intro x y hx;simp only[B,aA] at hx ⊢;grind)
    ·simp[F]
     refine Dw 8 13 true true ?_ ?_
     ·simp[F]
      refine⟨by omega,by unfold maxLen;omega,?_⟩
      intro gb hgb
      intros
      have F:=an (ad (ad (ad (ad F (show ¬gb=gr by assumption)) (show ¬gb=gp by assumption)) (show ¬gb=ga by assumption)) (show ¬gb=gc by assumption)) (show bl gb=none by assumption)
      refine Dq 13 true ?_
      simp[F]
      refine Dq 14 true ?_
      simp[F]
      refine Dq 15 true ?_
      simp[F]
      refine Dq 16 true ?_
      simp[F]
      refine Dq 17 true ?_
      simp[F]
      refine Dd ?_
      rw[aH]
      exact leaf _ _ ga gb gc hga hgb hgc (by simp[F]) rfl (by simp[S]) (by intro x y hx;simp only[B,aA] at hx ⊢;grind)
     ·simp[F]
      refine Dq 8 true ?_
      simp[F]
      refine⟨by omega,by unfold maxLen;omega,?_⟩
      intro gb hgb
      intros
      have F:=an (ad (ad (ad (ad F (show ¬gb=gr by assumption)) (show ¬gb=gp by assumption)) (show ¬gb=ga by assumption)) (show ¬gb=gc by assumption)) (show bl gb=none by assumption)
      refine Dq 14 true ?_
      simp[F]
      refine Dq 15 true ?_
      simp[F]
      refine Dq 16 true ?_
      simp[F]
      refine Dq 17 true ?_
      simp[F]
      refine Dd ?_
      rw[aH]
      exact leaf _ _ ga gb gc hga hgb hgc (by simp[F]) rfl (by simp[S]) (by intro x y hx;simp only[B,aA] at hx ⊢;grind)
   ·simp[F]
    refine uG (i:=8) (j:=11) (m:=13) true true true (by kernel_rfl) rfl rfl (by kernel_rfl) rfl rfl (by kernel_rfl) rfl rfl (by kernel_rfl) ?_ ?_ ?_
    ·simp[F]
     refine⟨by omega,by unfold maxLen;omega,?_⟩
     intro gb hgb
     intros
     have F:=an (ad (ad (ad F (show ¬gb=gr by assumption)) (show ¬gb=gp by assumption)) (show ¬gb=ga by assumption)) (show bl gb=none by assumption)
     refine Dw 11 13 true true ?_ ?_
     ·simp[F]
      refine⟨by omega,by unfold maxLen;omega,?_⟩
      intro gc hgc
      intros
      have F:=an (ad (ad (ad (ad F (show ¬gc=gr by assumption)) (show ¬gc=gp by assumption)) (show ¬gc=ga by assumption)) (show ¬gc=gb by assumption)) (show bl gc=none by assumption)
      refine Dq 13 true ?_
      simp[F]
      refine Dq 14 true ?_
      simp[F]
      refine Dq 15 true ?_
      simp[F]
      refine Dq 16 true ?_
      simp[F]
      refine Dq 17 true ?_
      simp[F]
      refine Dd ?_
      rw[aH]
      exact leaf _ _ ga gb gc hga hgb hgc (by simp[F]) rfl (by simp[S]) (by intro x y hx;simp only[B,aA] at hx ⊢;grind)
     ·simp[F]
      refine Dw 11 14 true true ?_ ?_
      ·simp[F]
       refine⟨by omega,by unfold maxLen;omega,?_⟩
       intro gc hgc
       intros
       have F:=an (ad (ad (ad (ad F (show ¬gc=gr by assumption)) (show ¬gc=gp by assumption)) (show ¬gc=ga by assumption)) (show ¬gc=gb by assumption)) (show bl gc=none by assumption)
       refine Dq 14 true ?_
       simp[F]
       refine Dq 15 true ?_
       simp[F]
       refine Dq 16 true ?_
       simp[F]
       refine Dq 17 true ?_
       simp[F]
       refine Dd ?_
       rw[aH]
       exact leaf _ _ ga gb gc hga hgb hgc (by simp[F]) rfl (by simp[S]) (by intro x y hx;simp only[B,aA] at hx ⊢;grind)
      ·simp[F]
       refine Dw 11 15 true true ?_ ?_
       ·simp[F]
        refine⟨by omega,by unfold maxLen;omega,?_⟩
        intro gc hgc
        intros
        have F:=an (ad (ad (ad (ad F (show ¬gc=gr by assumption)) (show ¬gc=gp by assumption)) (show ¬gc=ga by assumption)) (show ¬gc=gb by assumption)) (show bl gc=none by assumption)
        refine Dq 15 true ?_
        simp[F]
        refine Dq 16 true ?_
        simp[F]
        refine Dq 17 true ?_
        simp[F]
        refine Dd ?_
        rw[aH]
        exact leaf _ _ ga gb gc hga hgb hgc (by simp[F]) rfl (by simp[S]) (by intro x y hx;simp only[B,aA] at hx ⊢;grind)
       ·simp[F]
        refine Dq 11 true ?_
        simp[F]
        refine⟨by omega,by unfold maxLen;omega,?_⟩
        intro gc hgc
        intros
        have F:=an (ad (ad (ad (ad F (show ¬gc=gr by assumption)) (show ¬gc=gp by assumption)) (show ¬gc=ga by assumption)) (show ¬gc=gb by assumption)) (show bl gc=none by assumption)
        refine Dq 16 true ?_
        simp[F]
        refine Dq 17 true ?_
        simp[F]
        refine Dd ?_
        rw[aH]
        exact leaf _ _ ga gb gc hga hgb hgc (by simp[F]) rfl (by simp[S]) (by intro x y hx;simp only[B,aA] at hx ⊢;grind)
    ·simp[F]
     refine⟨by omega,by unfold maxLen;omega,?_⟩
     intro gc hgc
     intros
     have F:=an (ad (ad (ad F (show ¬gc=gr by assumption)) (show ¬gc=gp by assumption)) (show ¬gc=ga by assumption)) (show bl gc=none by assumption)
     refine Dw 8 13 true true ?_ ?_
     ·simp[F]
      refine⟨by omega,by unfold maxLen;omega,?_⟩
      intro gb hgb
      intros
      have F:=an (ad (ad (ad (ad F (show ¬gb=gr by assumption)) (show ¬gb=gp by assumption)) (show ¬gb=ga by assumption)) (show ¬gb=gc by assumption)) (show bl gb=none by assumption)
      refine Dq 13 true ?_
      simp[F]
      refine Dq 14 true ?_
      simp[F]
      refine Dq 15 true ?_
      simp[F]
      refine Dq 16 true ?_
      simp[F]
      refine Dq 17 true ?_
      simp[F]
      refine Dd ?_
      rw[aH]
      exact leaf _ _ ga gb gc hga hgb hgc (by simp[F]) rfl (by simp[S]) (by intro x y hx;simp only[B,aA] at hx ⊢;grind)
     ·simp[F]
      refine Dq 8 true ?_
      simp[F]
      refine⟨by omega,by unfold maxLen;omega,?_⟩
      intro gb hgb
      intros
      have F:=an (ad (ad (ad (ad F (show ¬gb=gr by assumption)) (show ¬gb=gp by assumption)) (show ¬gb=ga by assumption)) (show ¬gb=gc by assumption)) (show bl gb=none by assumption)
      refine Dq 14 true ?_
      simp[F]
      refine Dq 15 true ?_
      simp[F]
      refine Dq 16 true ?_
      simp[F]
      refine Dq 17 true ?_
      simp[F]
      refine Dd ?_
      rw[aH]
      exact leaf _ _ ga gb gc hga hgb hgc (by simp[F]) rfl (by simp[S]) (by intro x y hx;simp only[B,aA] at hx ⊢;grind)
    ·simp[F]
     refine Dw 8 11 true true ?_ ?_
     ·simp[F]
      refine⟨by omega,by unfold maxLen;omega,?_⟩
      intro gb hgb
      intros
      have F:=an (ad (ad (ad F (show ¬gb=gr by assumption)) (show ¬gb=gp by assumption)) (show ¬gb=ga by assumption)) (show bl gb=none by assumption)
      refine Dw 11 14 true true ?_ ?_
      ·simp[F]
       refine⟨by omega,by unfold maxLen;omega,?_⟩
       intro gc hgc
       intros
       have F:=an (ad (ad (ad (ad F (show ¬gc=gr by assumption)) (show ¬gc=gp by assumption)) (show ¬gc=ga by assumption)) (show ¬gc=gb by assumption)) (show bl gc=none by assumption)
       refine Dq 14 true ?_
       simp[F]
       refine Dq 15 true ?_
       simp[F]
       refine Dq 16 true ?_
       simp[F]
       refine Dq 17 true ?_
       simp[F]
       refine Dd ?_
       rw[aH]
       exact leaf _ _ ga gb gc hga hgb hgc (by simp[F]) rfl (by simp[S]) (by intro x y hx;simp only[B,aA] at hx ⊢;grind)
      ·simp[F]
       refine Dw 11 15 true true ?_ ?_
       ·simp[F]
        refine⟨by omega,by unfold maxLen;omega,?_⟩
        intro gc hgc
        intros
        have F:=an (ad (ad (ad (ad F (show ¬gc=gr by assumption)) (show ¬gc=gp by assumption)) (show ¬gc=ga by assumption)) (show ¬gc=gb by assumption)) (show bl gc=none by assumption)
        refine Dq 15 true ?_
        simp[F]
        refine Dq 16 true ?_
        simp[F]
        refine Dq 17 true ?_
        simp[F]
        refine Dd ?_
        rw[aH]
        exact leaf _ _ ga gb gc hga hgb hgc (by simp[F]) rfl (by simp[S]) (by intro x y hx;simp only[B,aA] at hx ⊢;grind)
       ·simp[F]
        refine Dq 11 true ?_
        simp[F]
        refine⟨by omega,by unfold maxLen;omega,?_⟩
        intro gc hgc
        intros
        have F:=an (ad (ad (ad (ad F (show ¬gc=gr by assumption)) (show ¬gc=gp by assumption)) (show ¬gc=ga by assumption)) (show ¬gc=gb by assumption)) (show bl gc=none by assumption)
        refine Dq 16 true ?_
        simp[F]
        refine Dq 17 true ?_
        simp[F]
        refine Dd ?_
        rw[aH]
        exact leaf _ _ ga gb gc hga hgb hgc (by simp[F]) rfl (by simp[S]) (by intro x y hx;simp only[B,aA] at hx ⊢;grind)
     ·simp[F]
      refine⟨by omega,by unfold maxLen;omega,?_⟩
      intro gc hgc
      intros
      have F:=an (ad (ad (ad F (show ¬gc=gr by assumption)) (show ¬gc=gp by assumption)) (show ¬gc=ga by assumption)) (show bl gc=none by assumption)
      refine Dq 8 true ?_
      simp[F]
      refine⟨by omega,by unfold maxLen;omega,?_⟩
      intro gb hgb
      intros
      have F:=an (ad (ad (ad (ad F (show ¬gb=gr by assumption)) (show ¬gb=gp by assumption)) (show ¬gb=ga by assumption)) (show ¬gb=gc by assumption)) (show bl gb=none by assumption)
      refine Dq 14 true ?_
      simp[F]
      refine Dq 15 true ?_
      simp[F]
      refine Dq 16 true ?_
      simp[F]
      refine Dq 17 true ?_
      simp[F]
      refine Dd ?_
      rw[aH]
      exact leaf _ _ ga gb gc hga hgb hgc (by simp[F]) rfl (by simp[S]) (by intro x y hx;simp only[B,aA] at hx ⊢;grind)
  ·simp[F]
   refine⟨by omega,by unfold maxLen;omega,?_⟩
   intro gb hgb
   intros
   have F:=an (ad (ad F (show ¬gb=gr by assumption)) (show ¬gb=gp by assumption)) (show bl gb=none by assumption)
   refine⟨by simp[F],?_⟩
   refine Dw 5 11 false false ?_ ?_
   ·simp[F]
    refine⟨by omega,by unfold maxLen;omega,?_⟩
    intro ga hga
    intros
    have F:=an (ad (ad (ad F (show ¬ga=gr by assumption)) (show ¬ga=gp by assumption)) (show ¬ga=gb by assumption)) (show bl ga=none by assumption)
    refine⟨by simp[F],?_⟩
    refine Dw 11 12 false true ?_ ?_
    ·simp[F]
     refine⟨by omega,by unfold maxLen;omega,?_⟩
     intro gc hgc
     intros
     have F:=an (ad (ad (ad (ad F (show ¬gc=gr by assumption)) (show ¬gc=gp by assumption)) (show ¬gc=gb by assumption)) (show ¬gc=ga by assumption)) (show bl gc=none by assumption)
     refine⟨by simp[F],?_⟩
     refine Dq 12 true ?_
     simp[F]
     refine Dq 13 true ?_
     simp[F]
     refine Dq 14 true ?_
     simp[F]
     refine Dq 15 true ?_
     simp[F]
     refine Dq 16 true ?_
     simp[F]
     refine Dq 17 true ?_
     simp[F]
     refine Dd ?_
     rw[aH]
     exact leaf _ _ ga gb gc hga hgb hgc (by simp[F]) rfl (by simp[S]) (by intro x y hx;simp only[B,aA] at hx ⊢;grind)
    ·simp[F]
     refine Dw 11 13 true true ?_ ?_
     ·simp[F]
      refine⟨by omega,by unfold maxLen;omega,?_⟩
      intro gc hgc
      intros
      have F:=an (ad (ad (ad (ad F (show ¬gc=gr by assumption)) (show ¬gc=gp by assumption)) (show ¬gc=gb by assumption)) (show ¬gc=ga by assumption)) (show bl gc=none by assumption)
      refine Dq 13 true ?_
      simp[F]
      refine Dq 14 true ?_
      simp[F]
      refine Dq 15 true ?_
      simp[F]
      refine Dq 16 true ?_
      simp[F]
      refine Dq 17 true ?_
      simp[F]
      refine Dd ?_
      rw[aH]
      exact leaf _ _ ga gb gc hga hgb hgc (by simp[F]) rfl (by simp[S]) (by intro x y hx;simp only[B,aA] at hx ⊢;grind)
     ·simp[F]
      refine Dw 11 14 true true ?_ ?_
      ·simp[F]
       refine⟨by omega,by unfold maxLen;omega,?_⟩
       intro gc hgc
       intros
       have F:=an (ad (ad (ad (ad F (show ¬gc=gr by assumption)) (show ¬gc=gp by assumption)) (show ¬gc=gb by assumption)) (show ¬gc=ga by assumption)) (show bl gc=none by assumption)
       refine Dq 14 true ?_
       simp[F]
       refine Dq 15 true ?_
       simp[F]
       refine Dq 16 true ?_
       simp[F]
       refine Dq 17 true ?_
       simp[F]
       refine Dd ?_
       rw[aH]
       exact leaf _ _ ga gb gc hga hgb hgc (by simp[F]) rfl (by simp[S]) (by intro x y hx;simp only[B,aA] at hx ⊢;grind)
      ·simp[F]
       refine Dw 11 15 true true ?_ ?_
       ·simp[F]
        refine⟨by omega,by unfold maxLen;omega,?_⟩
        intro gc hgc
        intros
        have F:=an (ad (ad (ad (ad F (show ¬gc=gr by assumption)) (show ¬gc=gp by assumption)) (show ¬gc=gb by assumption)) (show ¬gc=ga by assumption)) (show bl gc=none by assumption)
        refine Dq 15 true ?_
        simp[F]
        refine Dq 16 true ?_
        simp[F]
        refine Dq 17 true ?_
        simp[F]
        refine Dd ?_
        rw[aH]
        exact leaf _ _ ga gb gc hga hgb hgc (by simp[F]) rfl (by simp[S]) (by intro x y hx;simp only[B,aA] at hx ⊢;grind)
       ·simp[F]
        refine Dq 11 true ?_
        simp[F]
        refine⟨by omega,by unfold maxLen;omega,?_⟩
        intro gc hgc
        intros
        have F:=an (ad (ad (ad (ad F (show ¬gc=gr by assumption)) (show ¬gc=gp by assumption)) (show ¬gc=gb by assumption)) (show ¬gc=ga by assumption)) (show bl gc=none by assumption)
        refine Dq 16 true ?_
        simp[F]
        refine Dq 17 true ?_
        simp[F]
        refine Dd ?_
        rw[aH]
        exact leaf _ _ ga gb gc hga hgb hgc (by simp[F]) rfl (by simp[S]) (by intro x y hx;simp only[B,aA] at hx ⊢;grind)
   ·simp[F]
    refine⟨by omega,by unfold maxLen;omega,?_⟩
    intro gc hgc
    intros
    have F:=an (ad (ad (ad F (show ¬gc=gr by assumption)) (show ¬gc=gp by assumption)) (show ¬gc=gb by assumption)) (show bl gc=none by assumption)
    refine⟨by simp[F],?_⟩
    refine Dq 5 false ?_
    simp[F]
    refine⟨by omega,by unfold maxLen;omega,?_⟩
    intro ga hga
    intros
    have F:=an (ad (ad (ad (ad F (show ¬ga=gr by assumption)) (show ¬ga=gp by assumption)) (show ¬ga=gb by assumption)) (show ¬ga=gc by assumption)) (show bl ga=none by assumption)
    refine⟨by simp[F],?_⟩
    refine Dq 12 true ?_
    simp[F]
    refine Dq 13 true ?_
    simp[F]
    refine Dq 14 true ?_
    simp[F]
    refine Dq 15 true ?_
    simp[F]
    refine Dq 16 true ?_
    simp[F]
    refine Dq 17 true ?_
    simp[F]
    refine Dd ?_
    rw[aH]
    exact leaf _ _ ga gb gc hga hgb hgc (by simp[F]) rfl (by simp[S]) (by intro x y hx;simp only[B,aA] at hx ⊢;grind)
  ·simp[F]
   refine⟨by omega,by unfold maxLen;omega,?_⟩
   intro gc hgc
   intros
   have F:=an (ad (ad F (show ¬gc=gr by assumption)) (show ¬gc=gp by assumption)) (show bl gc=none by assumption)
   refine⟨by simp[F],?_⟩
   refine Dw 5 8 false false ?_ ?_
   ·simp[F]
    refine⟨by omega,by unfold maxLen;omega,?_⟩
    intro ga hga
    intros
    have F:=an (ad (ad (ad F (show ¬ga=gr by assumption)) (show ¬ga=gp by assumption)) (show ¬ga=gc by assumption)) (show bl ga=none by assumption)
    refine⟨by simp[F],?_⟩
    refine Dw 8 12 false true ?_ ?_
    ·simp[F]
     refine⟨by omega,by unfold maxLen;omega,?_⟩
     intro gb hgb
     intros
     have F:=an (ad (ad (ad (ad F (show ¬gb=gr by assumption)) (show ¬gb=gp by assumption)) (show ¬gb=gc by assumption)) (show ¬gb=ga by assumption)) (show bl gb=none by assumption)
     refine⟨by simp[F],?_⟩
     refine Dq 12 true ?_
     simp[F]
     refine Dq 13 true ?_
     simp[F]
     refine Dq 14 true ?_
     simp[F]
     refine Dq 15 true ?_
     simp[F]
     refine Dq 16 true ?_
     simp[F]
     refine Dq 17 true ?_
     simp[F]
     refine Dd ?_
     rw[aH]
     exact leaf _ _ ga gb gc hga hgb hgc (by simp[F]) rfl (by simp[S]) (by intro x y hx;simp only[B,aA] at hx ⊢;grind)
    ·simp[F]
     refine Dw 8 13 true true ?_ ?_
     ·simp[F]
      refine⟨by omega,by unfold maxLen;omega,?_⟩
      intro gb hgb
      intros
      have F:=an (ad (ad (ad (ad F (show ¬gb=gr by assumption)) (show ¬gb=gp by assumption)) (show ¬gb=gc by assumption)) (show ¬gb=ga by assumption)) (show bl gb=none by assumption)
      refine Dq 13 true ?_
      simp[F]
      refine Dq 14 true ?_
      simp[F]
      refine Dq 15 true ?_
      simp[F]
      refine Dq 16 true ?_
      simp[F]
      refine Dq 17 true ?_
      simp[F]
      refine Dd ?_
      rw[aH]
      exact leaf _ _ ga gb gc hga hgb hgc (by simp[F]) rfl (by simp[S]) (by intro x y hx;simp only[B,aA] at hx ⊢;grind)
     ·simp[F]
      refine Dq 8 true ?_
      simp[F]
      refine⟨by omega,by unfold maxLen;omega,?_⟩
      intro gb hgb
      intros
      have F:=an (ad (ad (ad (ad F (show ¬gb=gr by assumption)) (show ¬gb=gp by assumption)) (show ¬gb=gc by assumption)) (show ¬gb=ga by assumption)) (show bl gb=none by assumption)
      refine Dq 14 true ?_
      simp[F]
      refine Dq 15 true ?_
      simp[F]
      refine Dq 16 true ?_
      simp[F]
      refine Dq 17 true ?_
      simp[F]
      refine Dd ?_
      rw[aH]
      exact leaf _ _ ga gb gc hga hgb hgc (by simp[F]) rfl (by simp[S]) (by intro x y hx;simp only[B,aA] at hx ⊢;grind)
   ·simp[F]
    refine⟨by omega,by unfold maxLen;omega,?_⟩
    intro gb hgb
    intros
    have F:=an (ad (ad (ad F (show ¬gb=gr by assumption)) (show ¬gb=gp by assumption)) (show ¬gb=gc by assumption)) (show bl gb=none by assumption)
    refine⟨by simp[F],?_⟩
    refine Dq 5 false ?_
    simp[F]
    refine⟨by omega,by unfold maxLen;omega,?_⟩
    intro ga hga
    intros
    have F:=an (ad (ad (ad (ad F (show ¬ga=gr by assumption)) (show ¬ga=gp by assumption)) (show ¬ga=gc by assumption)) (show ¬ga=gb by assumption)) (show bl ga=none by assumption)
    refine⟨by simp[F],?_⟩
    refine Dq 12 true ?_
    simp[F]
    refine Dq 13 true ?_
    simp[F]
    refine Dq 14 true ?_
    simp[F]
    refine Dq 15 true ?_
    simp[F]
    refine Dq 16 true ?_
    simp[F]
    refine Dq 17 true ?_
    simp[F]
    refine Dd ?_
    rw[aH]
    exact leaf _ _ ga gb gc hga hgb hgc (by simp[F]) rfl (by simp[S]) (by intro x y hx;simp only[B,aA] at hx ⊢;grind)
 rintro⟨ga,gb,gc⟩ ⟨a0,b0,c0,ba,ca,cb,ar,ap,br,bp,cr,cp,fa,fb,fc⟩
 simp only at a0 b0 c0 ba ca cb ar ap br bp cr cp fa fb fc
 simp only[S,B]
 clear leaf S B
 obtain⟨BB,hBB⟩: ∃BB:List (List V)→List (List V)→Int→Option Blk,BB=fun ea eb=>upd (upd (upd (upd (upd bl gr (some ⟨5,[[.int .i64 0,.int .i64 0,.nils,.nils,.nils]]⟩)) gp (some ⟨5,[[.int .i64 (nR s),.int .i64 (nC s),.lsl ga 1 0 nA,.lsl gb 1 0 (nR s),.lsl gc 1 0 (nC s)]]⟩)) ga (some ⟨1,ea⟩)) gb (some ⟨1,eb⟩)) gc (some ⟨1,List.replicate (nC s) [.int .i64 0]⟩):=⟨_,rfl⟩
 have hBr: ∀ea eb,BB ea eb gr=some ⟨5,[[.int .i64 0,.int .i64 0,.nils,.nils,.nils]]⟩:=fun ea eb=>by rw[hBB];simp[hpr,Ne.symm hpr,ar,br,cr,Ne.symm ar,Ne.symm br,Ne.symm cr]
 have hBp: ∀ea eb,BB ea eb gp=some ⟨5,[[.int .i64 (nR s),.int .i64 (nC s),.lsl ga 1 0 nA,.lsl gb 1 0 (nR s),.lsl gc 1 0 (nC s)]]⟩:=fun ea eb=>by rw[hBB];simp[ap,bp,cp,Ne.symm ap,Ne.symm bp,Ne.symm cp]
 have hBa: ∀ea eb,BB ea eb ga=some ⟨1,ea⟩:=fun ea eb=>by rw[hBB];simp[ba,ca,Ne.symm ba,Ne.symm ca]
 have hBb: ∀ea eb,BB ea eb gb=some ⟨1,eb⟩:=fun ea eb=>by rw[hBB];simp[cb,Ne.symm cb]
 have hBc: ∀ea eb,BB ea eb gc=some ⟨1,List.replicate (nC s) [.int .i64 0]⟩:=fun ea eb=>by rw[hBB];simp
 have hBs: ∀ea eb,Sub bl (BB ea eb):=fun ea eb=>by rw[hBB];simp[hbr,hbp,fa,fb,fc]
 have aK8: ∀ea eb e,upd (BB ea eb) ga (some ⟨1,e⟩)=BB e eb:=fun ea eb e=>by
  rw[hBB];funext x;simp only[aA];grind
 have aH8: ∀ea eb e,upd (BB ea eb) gb (some ⟨1,e⟩)=BB ea e:=fun ea eb e=>by
  rw[hBB];funext x;simp only[aA];grind
 have hB0:upd (upd (upd (upd (upd bl gr (some ⟨5,[[.int .i64 0,.int .i64 0,.nils,.nils,.nils]]⟩)) gp (some ⟨5,[[.int .i64 (nR s),.int .i64 (nC s),.lsl ga 1 0 nA,.lsl gb 1 0 (nR s),.lsl gc 1 0 (nC s)]]⟩)) ga (some ⟨1,List.replicate nA [.int .i64 0]⟩)) gb (some ⟨1,List.replicate (nR s) [.int .i64 0]⟩)) gc (some ⟨1,List.replicate (nC s) [.int .i64 0]⟩)=BB (part (iv (aTo s nA)) [.int .i64 0] 0) (part (iv (right s l)) [.int .i64 0] 0):=by
  rw[hBB];simp[eR]
 rw[hB0]
 clear hB0 hBB
 refine aC ?_
 simp[er]
 refine aJ (fun i:Nat=> [(0,.ptr s.c),(1,.sl (iv l)),(8,.loc gr 5 0 0),(10,.sl (cv (bD s.ms))),(11,.loc gp 5 0 0),(46,.sl (ivv (gD s))),(47,.int .i64 (nR s)),(48,.int .i64 i)]) (fun i=>BB (part (iv (aTo s nA)) [.int .i64 0] (i*nC s)) (part (iv (right s l)) [.int .i64 0] 0)) (fun i=>i≤nR s) (fun i=>nR s - i) 113 0 (Nat.zero_le _) ⟨rfl,by simp,sub_eq (by simp)⟩ ?_
 intro i hi
 refine aC ?_
 simp
 refine⟨fun h=> ?_,fun h=> ?_⟩
 ·have hie:i<(gD s).length:=by omega
  simp[hie]
  obtain⟨row,Lm⟩: ∃r,(gD s)[i]=r:=⟨_,rfl⟩
  have aXW:row.length=s.ms.length:=sQ s row (Lm▸List.getElem_mem hie)
  rw[Lm]
  refine aJ (fun c:Nat=> [(0,.ptr s.c),(1,.sl (iv l)),(8,.loc gr 5 0 0),(10,.sl (cv (bD s.ms))),(11,.loc gp 5 0 0),(12,.int .i64 i),(13,.sl (iv row)),(46,.sl (ivv (gD s))),(47,.int .i64 (nR s)),(48,.int .i64 i),(53,.sl (cv (bD s.ms))),(54,.int .i64 (nC s)),(55,.int .i64 c)]) (fun c=>BB (part (iv (aTo s nA)) [.int .i64 0] (i*nC s+c)) (part (iv (right s l)) [.int .i64 0] 0)) (fun c=>c≤nC s) (fun c=>nC s - c) 113 0 (Nat.zero_le _) ⟨rfl,by simp[ec],sub_eq (by simp)⟩ ?_
  intro c hc
  refine aC ?_
  simp
  refine⟨fun hcl=> ?_,fun hcl=> ?_⟩
  ·have hcc:c<(bD s.ms).length:=hcl
   obtain⟨⟨k0,k1⟩,k2⟩:=nJ s c hcl
   have qc:(cv (bD s.ms))[c]? =some [.int .i64 (dJ s c).1,.int .i64 (dJ s c).2]:=by simp[cv,dJ,hcc]
   simp[qc]
   intro g1 hg1 hb1
   have n1p:g1≠gp:=fun e=>by rw[e,hBp] at hb1;cases hb1
   have n1a:g1≠ga:=fun e=>by rw[e,hBa] at hb1;cases hb1
   have f1:=aQ (hBs _ _) hb1
   obtain⟨⟨k,sg⟩,hk⟩: ∃k,dJ s c=k:=⟨_,rfl⟩
   rw[hk] at k0 k1 k2 ⊢
   simp only at k0 k1 k2 ⊢
   have en:ent s i c=sg*lat row k.toNat:=by
    unfold ent
    rw[hk,A3,P9 _ (sQ s) i k.toNat hie (by omega),Lm]
   have bd: -100≤lat row k.toNat∧lat row k.toNat≤100:=by
    rw[←Lm,←P9 _ (sQ s) i k.toNat hie (by omega),←A3];exact zG hs _
   have qr:(iv row)[k.toNat]? =some [.int .i64 (lat row k.toNat)]:=wW (by omega)
   have w6:IntKind.i64.wrap (sg*lat row k.toNat)=ent s i c:=by
    rw[en];rcases k2 with rfl | rfl<;>exact i64_in (by omega) (by omega)
   have mc:(i+1)*nC s≤nA:=by rw[hA];exact Nat.mul_le_mul_right _ h
   rw[Nat.add_mul] at mc
   have mi:((i*nC s:Nat):Int)=(i:Int)*nC s:=by simp
   have w4:IntKind.i64.wrap ((i:Int)*nC s)=(i:Int)*nC s:=i64_in (by omega) (by omega)
   have w5:IntKind.i64.wrap ((i:Int)*nC s+c)=(i:Int)*nC s+c:=i64_in (by omega) (by omega)
   have w7:IntKind.i64.wrap ((c:Int)+1)=c+1:=i64_in (by omega) (by omega)
   have e1:((i:Int)*nC s+c).toNat=i*nC s+c:=by omega
   have p1:0≤(i:Int)*nC s+c:=by omega
   have p2:(i:Int)*nC s+c<nA:=by omega
   have p3:k<row.length:=by omega
   have hlt:i*nC s+c<(iv (aTo s nA)).length:=by simp;omega
   have ps:=cU (iv (aTo s nA)) [.int .i64 0] (i*nC s+c) hlt [.int .i64 (ent s i c)] (by
    rw[aBU s nA _ (by omega),Nat.mul_comm i,Nat.mul_add_div (by omega),Nat.mul_add_mod,Nat.div_eq_of_lt hcl,Nat.mod_eq_of_lt hcl,Nat.add_zero])
   have hK:Sub (upd (upd bl gp (some ⟨5,[[.int .i64 (nR s),.int .i64 (nC s),.lsl ga 1 0 nA,.lsl gb 1 0 (nR s),.lsl gc 1 0 (nC s)]]⟩)) g1 (some ⟨2,[[.int .i64 k,.int .i64 sg]]⟩)) (upd (BB (part (iv (aTo s nA)) [.int .i64 0] (i*nC s+c)) (List.replicate (right s l).length [.int .i64 0])) g1 (some ⟨2,[[.int .i64 k,.int .i64 sg]]⟩)):=by
    refine X5 fun x y hx=> ?_
    rw[aA] at hx
    split at hx
    ·rename_i e;rw[e,hBp];exact hx
    ·exact hBs _ _ x y hx
   have hkr:k.toNat<row.length:=by omega
   have er2:row[k.toNat]'hkr=lat row k.toNat:=by simp[lat,hkr]
   refine aW aM _ hK [0,1,2,3,4,5,6,7,8,9,10,11,12,13,14,15,16] 1 (by kernel_rfl) ?_
   simp[-eG,n1p,Ne.symm n1p,w4,w5,w6,qr,k0,p1,p2,p3,er2]
   refine Dz 17 ?_
   have pg:=dP (iv (aTo s nA)) [.int .i64 0] (i*nC s+c) hlt
   simp[n1a,Ne.symm n1a,hBa,e1,pg,ps,er2,w6]
   have hK2: ∀z,Sub (upd (upd bl gp (some ⟨5,[[.int .i64 (nR s),.int .i64 (nC s),.lsl ga 1 0 nA,.lsl gb 1 0 (nR s),.lsl gc 1 0 (nC s)]]⟩)) g1 (some ⟨2,[[.int .i64 k,.int .i64 sg]]⟩)) (upd (upd (BB (part (iv (aTo s nA)) [.int .i64 0] (i*nC s+c)) (List.replicate (right s l).length [.int .i64 0])) g1 (some ⟨2,[[.int .i64 k,.int .i64 sg]]⟩)) ga z):=by
    intro z x y hx
    have hxa:x≠ga:=fun e=>by
     rw[e,aA,if_neg (Ne.symm n1a),aA,if_neg ap,fa] at hx;cases hx
    rw[aA,if_neg hxa]
    exact hK x y hx
   refine⟨hK2 _,Dy ?_⟩
   simp[w7,aB]
   refine⟨c+1,by omega,by omega,rfl,by simp,?_⟩
   intro x y hx
   show upd (upd (BB _ _) g1 _) ga _ x=some y
   rw[aA,aA]
   split
   ·rename_i e;rw[e,hBa] at hx;exact hx
   ·rename_i e
    rw[if_neg (fun e=>by rw[e] at hx;rw[←aK8 (part (iv (aTo s nA)) [.int .i64 0] (i*nC s+c)),aA,if_neg n1a,hb1] at hx;cases hx)]
    rw[←aK8 (part (iv (aTo s nA)) [.int .i64 0] (i*nC s+c)),aA,if_neg e] at hx
    exact hx
  ·have:c=nC s:=by omega
   subst this
   have w7:IntKind.i64.wrap ((i:Int)+1)=i+1:=i64_in (by omega) (by omega)
   simp[w7,aB]
   exact⟨i+1,by omega,by omega,rfl,by simp,sub_eq (by rw[Nat.add_mul,Nat.one_mul])⟩
 ·have:i=nR s:=by omega
  subst this
  rw[←hA,eP _ _ _ (by simp)]
  refine aD (rJ s (by omega)) ?_
  simp
  refine aJ (fun i:Nat=> [(1,.sl (iv l)),(8,.loc gr 5 0 0),(11,.loc gp 5 0 0),(80,.sl (iv (aP s.js))),(81,.int .i64 (aP s.js).length),(82,.int .i64 i)]) (fun i=>BB (iv (aTo s nA)) (part (iv (right s l)) [.int .i64 0] (2*i))) (fun i=>i≤(aP s.js).length) (fun i=>(aP s.js).length - i) 113 0 (Nat.zero_le _) ⟨rfl,by simp,sub_eq (by simp)⟩ ?_
  intro i hi
  refine aC ?_
  simp
  refine⟨fun h=> ?_,fun h=> ?_⟩
  ·obtain⟨r1,r2⟩:=wJ (List.getElem_mem h)
   have ra:=Af s l (aP s.js) i h
   simp[h]
   obtain⟨j,hj⟩: ∃j,(aP s.js)[i]=j:=⟨_,rfl⟩
   rw[hj] at r1 r2 ra ⊢
   change lat (right s l) (2*i)=_∧lat (right s l) (2*i+1)=_ at ra
   have a1:(2*j).toNat<l.length:=by rw[hL.n];omega
   have a2:(2*j+1).toNat<l.length:=by rw[hL.n];omega
   have b1:=hL.f _ a1
   have b2:=hL.f _ a2
   have q1:=wW a1
   have q2:=wW a2
   have w1:IntKind.i64.wrap (2*j)=2*j:=i64_in (by omega) (by omega)
   have w2:IntKind.i64.wrap (2*j+1)=2*j+1:=i64_in (by omega) (by omega)
   have w3:IntKind.i64.wrap (-lat l (2*j).toNat)=lat (right s l) (2*i):=by rw[ra.1];exact i64_in (by omega) (by omega)
   have w4:IntKind.i64.wrap (-lat l (2*j+1).toNat)=lat (right s l) (2*i+1):=by rw[ra.2];exact i64_in (by omega) (by omega)
   have w5:IntKind.i64.wrap ((i:Int)+1)=i+1:=i64_in (by omega) (by omega)
   have w6:IntKind.i64.wrap (2*(i:Int))=2*i:=i64_in (by omega) (by omega)
   have w7:IntKind.i64.wrap (2*(i:Int)+1)=2*i+1:=i64_in (by omega) (by omega)
   have p1:0≤2*j:=by omega
   have p2:0≤2*j+1:=by omega
   have p3:2*(i:Int)<nR s:=by unfold nR;omega
   have p4:2*(i:Int)+1<nR s:=by unfold nR;omega
   have t1:(2*(i:Int)).toNat=2*i:=by omega
   have t2:(2*(i:Int)+1).toNat=2*i+1:=by omega
   have hl1:2*i<(iv (right s l)).length:=by rw[jX,eR];omega
   have hl2:2*i+1<(iv (right s l)).length:=by rw[jX,eR];omega
   have hK:Sub (upd bl gp (some ⟨5,[[.int .i64 (nR s),.int .i64 (nC s),.lsl ga 1 0 nA,.lsl gb 1 0 (nR s),.lsl gc 1 0 (nC s)]]⟩)) (BB (iv (aTo s nA)) (part (iv (right s l)) [.int .i64 0] (2*i))):=by
    intro x y hx
    rw[aA] at hx
    split at hx
    ·rename_i e;rw[e,hBp];exact hx
    ·exact hBs _ _ x y hx
   have hK2: ∀e,Sub (upd bl gp (some ⟨5,[[.int .i64 (nR s),.int .i64 (nC s),.lsl ga 1 0 nA,.lsl gb 1 0 (nR s),.lsl gc 1 0 (nC s)]]⟩)) (BB (iv (aTo s nA)) e):=by
    intro e x y hx
    rw[aA] at hx
    split at hx
    ·rename_i e;rw[e,hBp];exact hx
    ·exact hBs _ _ x y hx
   have g1:=dP (iv (right s l)) [.int .i64 0] (2*i) hl1
   have g2:=dP (iv (right s l)) [.int .i64 0] (2*i+1) hl2
   have s1:=cU (iv (right s l)) [.int .i64 0] (2*i) hl1 [.int .i64 (lat (right s l) (2*i))] (by
    have:=wW (l:=right s l) (i:=2*i) (by simpa using hl1);rw[List.getElem?_eq_getElem hl1] at this;exact(Option.some.inj this).symm)
   have s2:=cU (iv (right s l)) [.int .i64 0] (2*i+1) hl2 [.int .i64 (lat (right s l) (2*i+1))] (by
    have:=wW (l:=right s l) (i:=2*i+1) (by simpa using hl2);rw[List.getElem?_eq_getElem hl2] at this;exact(Option.some.inj this).symm)
   refine aW aM _ hK [0,1,2,3,4,5,6,7,8,9,10,11,12,13,14,15,16,17,18,19,20,21,22] 3 (by kernel_rfl) ?_
   have p5:0≤2*(i:Int):=by omega
   have p6:0≤2*(i:Int)+1:=by omega
   simp[-eG,w1,w2,w3,w4,w6,w7,q1,q2,p1,p2,p3,p4,p5,p6]
   refine tJ (i:=23) (by kernel_rfl) (by rfl) (by rfl) ?_
   simp[hBb,t1,g1,s1,aH8]
   refine⟨hK2 _,tJ (i:=24) (by kernel_rfl) (by rfl) (by rfl) ?_⟩
   simp[p4,p6]
   refine⟨hK2 _,tJ (i:=25) (by kernel_rfl) (by rfl) (by rfl) ?_⟩
   simp[hBb,t2,g2,s2,aH8]
   refine⟨hK2 _,Dy ?_⟩
   simp[w5,aB]
   exact⟨i+1,by omega,by omega,rfl,by simp,sub_eq (by rw[Nat.mul_add])⟩
  ·have:i=(aP s.js).length:=by omega
   subst this
   have cD:part (iv (right s l)) [.int .i64 0] (2*(aP s.js).length)=iv (right s l):=by
    have e:(iv (right s l)).length=2*(aP s.js).length:=by rw[jX,eR];rfl
    rw[←e];exact eP _ _ _ (Nat.le_refl _)
   rw[cD]
   simp[hBp,hBr]
   refine gH [.agg [.int .i64 (nR s),.int .i64 (nC s),.lsl ga 1 0 nA,.lsl gb 1 0 (nR s),.lsl gc 1 0 (nC s)]] [ga,gb,gc] (by simp) ?_ (by simp[fa,fb,fc]) ?_
   ·show OwnD _ (.a _) (.agg _) _
    rw[OwnD]
    refine⟨_,rfl,fQ (yI _) (fQ (yI _) (fQ (g1:= [ga]) (dE.2 (.inr ⟨ga,by simp[bY,hA],rfl,?_,by omega⟩)) (fQ (g1:= [gb]) (dE.2 (.inr ⟨gb,by simp[bY,eR],rfl,?_,by omega⟩)) (fQ (g1:= [gc]) (dE.2 (.inr ⟨gc,by simp[bY],rfl,?_,by omega⟩)) Ga (by simp)) (by simp[Ne.symm cb])) (by simp[Ne.symm ba,Ne.symm ca])) (by simp)) (by simp)⟩
    ·simp[ar,hBa,bY,hA]
    ·simp[br,hBb,bY]
    ·simp[cr,hBc,bY,iv]
   ·intro x y hx
    have hxr:x≠gr:=fun e=>by rw[e,hbr] at hx;cases hx
    simp[hxr]
    exact hBs _ _ x y hx

theorem lK {bl bl0:Int→Option Blk} {g h:Int} {ns ms:List Int} {b:Bool} (h0:0≤g∨ms= []) (h1:0≤h∨ns= []) (hg:bl0 g=none) (hh:bl0 h=none) (hb:bl g=some ⟨1,iv ms⟩) (hc:bl h=some ⟨1,iv ns⟩):frz (dropB bl bl0) 2 (.agg [.bool b,.lsl g 1 0 ms.length,.lsl h 1 0 ns.length])=some (.agg [.bool b,.sl (iv ms),.sl (iv ns)]):=by
 have e1:=qV h0 hg hb
 have e2:=qV h1 hh hc
 have e3:frz (dropB bl bl0) 1 (.bool b)=some (.bool b):=by simp[frz]
 rw[qU]
 simp only[List.mapM_cons,List.mapM_nil,e1,e2,e3]
 rfl
theorem Fh (r:RT) (hm:r.m.length≤1048576) (hd:r.d.length≤1048576):RO Tryz.prog 203 [.agg r.c] (.agg r.c):=by
 have cD: ∀m:List Int,((iv m).all fun c=>c.length==1 && c.all V.one)=true:=fun m=>by simp[iv]
 refine aI Tryz.func203 rfl rfl (by rw[Tryz.ntmps203];simp) fun bl=> ?_
 rw[Tryz.ntmps203,Tryz.results203]
 refine aE ?_
 simp[RT.c]
 intro g1 hg1 hb1 g2 hg2 h21 hb2
 refine cP 1 1 (.ptr r.c) (upd bl g2 (some ⟨3,[[.bool false,.nils,.nils]]⟩)) (by intro z b hz;simp only[aA,RT.c] at hz ⊢;grind) (by simp[frz,dropB,hb1,h21,Ne.symm h21,RT.c,V.cl]) ?_
 refine aC ?_
 simp
 have F:=trivial
 refine aW aM bl (by simp[hb2]) [0,1,2,4,5,6,10,11] 7 (by kernel_rfl) ?_
 simp[RT.c]
 refine iZ (i:=3) (j:=9) (by kernel_rfl) rfl rfl rfl rfl ?_ ?_
 ·simp[]
  intro g3 hg3
  intros
  have aCL: ¬ g3=g2:=by first | assumption | grind
  have F:=ad F aCL
  have b3:bl g3=none:=by first | assumption | grind
  refine⟨by intro z b hz;simp only[aA,aF] at hz ⊢;grind,?_⟩
  refine iZ (i:=7) (j:=9) (by kernel_rfl) rfl rfl rfl rfl ?_ ?_
  ·simp[F,appV,elsV,Int.not_lt.2 hg3,cD]
   refine⟨by omega,fun g7 hg7 hb7=> ?_⟩
   have Pj: ¬ g7=g2:=by grind
   have F:=ad F Pj
   have b7:bl g7=none:=by grind
   have z7:0≤g7∨r.m= []:=hg7.imp id (fun h=>by simpa [iv] using h)
   refine⟨by intro z b hz;simp only[aA,aF] at hz ⊢;grind,?_⟩
   refine iZ (i:=8) (j:=9) (by kernel_rfl) rfl rfl rfl rfl ?_ ?_
   ·simp[F]
    refine⟨by intro z b hz;simp only[aA,aF] at hz ⊢;grind,?_⟩
    refine Dz 9 ?_
    simp[F]
    intro g9 hg9
    intros
    have Cx: ¬ g9=g2:=by first | assumption | grind
    have aCF: ¬ g9=g7:=by first | assumption | grind
    have F:=ad (ad F Cx) aCF
    have b9:bl g9=none:=by first | assumption | grind
    refine⟨by intro z b hz;simp only[aA,aF] at hz ⊢;grind,?_⟩
    refine Dz 12 ?_
    simp[F,appV,elsV,Int.not_lt.2 hg9,cD]
    refine⟨by omega,fun g12 tB oM=> ?_⟩
    have mU: ¬ g12=g2:=by grind
    have nF: ¬ g12=g7:=by grind
    have F:=ad (ad F mU) nF
    have b12:bl g12=none:=by grind
    have z12:0≤g12∨r.d= []:=tB.imp id (fun h=>by simpa [iv] using h)
    refine⟨by intro z b hz;simp only[aA,aF] at hz ⊢;grind,?_⟩
    refine Dz 13 ?_
    simp[F]
    refine⟨by intro z b hz;simp only[aA,aF] at hz ⊢;grind,?_⟩
    refine Dz 14 ?_
    simp[F]
    refine⟨by intro z b hz;simp only[aA,aF] at hz ⊢;grind,?_⟩
    refine Dy ?_
    simp[F]
    refine aK [.agg [.bool r.neg,.lsl g7 1 0 r.m.length,.lsl g12 1 0 r.d.length]] 2 (by simp[F]) (lK z7 z12 b7 b12 ?_ ?_) ?_
    ·simp[F]
    ·simp[F]
    ·intro z b hz;simp only[aA,aF] at hz ⊢;grind
   ·simp[F]
    intro g9 hg9
    intros
    have Cx: ¬ g9=g2:=by first | assumption | grind
    have aCF: ¬ g9=g7:=by first | assumption | grind
    have F:=ad (ad F Cx) aCF
    have b9:bl g9=none:=by first | assumption | grind
    refine⟨by intro z b hz;simp only[aA,aF] at hz ⊢;grind,?_⟩
    refine iZ (i:=8) (j:=12) (by kernel_rfl) rfl rfl rfl rfl ?_ ?_
    ·simp[F]
     refine⟨by intro z b hz;simp only[aA,aF] at hz ⊢;grind,?_⟩
     refine Dz 12 ?_
     simp[F,appV,elsV,Int.not_lt.2 hg9,cD]
     refine⟨by omega,fun g12 tB oM=> ?_⟩
     have mU: ¬ g12=g2:=by grind
     have nF: ¬ g12=g7:=by grind
     have F:=ad (ad F mU) nF
     have b12:bl g12=none:=by grind
     have z12:0≤g12∨r.d= []:=tB.imp id (fun h=>by simpa [iv] using h)
     refine⟨by intro z b hz;simp only[aA,aF] at hz ⊢;grind,?_⟩
     refine Dz 13 ?_
     simp[F]
     refine⟨by intro z b hz;simp only[aA,aF] at hz ⊢;grind,?_⟩
     refine Dz 14 ?_
     simp[F]
     refine⟨by intro z b hz;simp only[aA,aF] at hz ⊢;grind,?_⟩
     refine Dy ?_
     simp[F]
     refine aK [.agg [.bool r.neg,.lsl g7 1 0 r.m.length,.lsl g12 1 0 r.d.length]] 2 (by simp[F]) (lK z7 z12 b7 b12 ?_ ?_) ?_
     ·simp[F]
     ·simp[F]
     ·intro z b hz;simp only[aA,aF] at hz ⊢;grind
    ·simp[F,appV,elsV,Int.not_lt.2 hg9,cD]
     refine⟨by omega,fun g12 tB oM=> ?_⟩
     have mU: ¬ g12=g2:=by grind
     have nF: ¬ g12=g7:=by grind
     have F:=ad (ad F mU) nF
     have b12:bl g12=none:=by grind
     have z12:0≤g12∨r.d= []:=tB.imp id (fun h=>by simpa [iv] using h)
     refine⟨by intro z b hz;simp only[aA,aF] at hz ⊢;grind,?_⟩
     refine Dz 8 ?_
     simp[F]
     refine⟨by intro z b hz;simp only[aA,aF] at hz ⊢;grind,?_⟩
     refine Dz 13 ?_
     simp[F]
     refine⟨by intro z b hz;simp only[aA,aF] at hz ⊢;grind,?_⟩
     refine Dz 14 ?_
     simp[F]
     refine⟨by intro z b hz;simp only[aA,aF] at hz ⊢;grind,?_⟩
     refine Dy ?_
     simp[F]
     refine aK [.agg [.bool r.neg,.lsl g7 1 0 r.m.length,.lsl g12 1 0 r.d.length]] 2 (by simp[F]) (lK z7 z12 b7 b12 ?_ ?_) ?_
     ·simp[F]
     ·simp[F]
     ·intro z b hz;simp only[aA,aF] at hz ⊢;grind
  ·simp[F]
   intro g9 hg9
   intros
   have Cx: ¬ g9=g2:=by first | assumption | grind
   have aSA: ¬ g9=g3:=by first | assumption | grind
   have F:=ad (ad F Cx) aSA
   have b9:bl g9=none:=by first | assumption | grind
   refine⟨by intro z b hz;simp only[aA,aF] at hz ⊢;grind,?_⟩
   refine Dz 7 ?_
   simp[F,appV,elsV,Int.not_lt.2 hg3,cD]
   refine⟨by omega,fun g7 hg7 hb7=> ?_⟩
   have Pj: ¬ g7=g2:=by grind
   have aA2: ¬ g7=g9:=by grind
   have F:=ad (ad F Pj) aA2
   have b7:bl g7=none:=by grind
   have z7:0≤g7∨r.m= []:=hg7.imp id (fun h=>by simpa [iv] using h)
   refine⟨by intro z b hz;simp only[aA,aF] at hz ⊢;grind,?_⟩
   refine iZ (i:=8) (j:=12) (by kernel_rfl) rfl rfl rfl rfl ?_ ?_
   ·simp[F]
    refine⟨by intro z b hz;simp only[aA,aF] at hz ⊢;grind,?_⟩
    refine Dz 12 ?_
    simp[F,appV,elsV,Int.not_lt.2 hg9,cD]
    refine⟨by omega,fun g12 tB oM=> ?_⟩
    have mU: ¬ g12=g2:=by grind
    have nF: ¬ g12=g7:=by grind
    have F:=ad (ad F mU) nF
    have b12:bl g12=none:=by grind
    have z12:0≤g12∨r.d= []:=tB.imp id (fun h=>by simpa [iv] using h)
    refine⟨by intro z b hz;simp only[aA,aF] at hz ⊢;grind,?_⟩
    refine Dz 13 ?_
    simp[F]
    refine⟨by intro z b hz;simp only[aA,aF] at hz ⊢;grind,?_⟩
    refine Dz 14 ?_
    simp[F]
    refine⟨by intro z b hz;simp only[aA,aF] at hz ⊢;grind,?_⟩
    refine Dy ?_
    simp[F]
    refine aK [.agg [.bool r.neg,.lsl g7 1 0 r.m.length,.lsl g12 1 0 r.d.length]] 2 (by simp[F]) (lK z7 z12 b7 b12 ?_ ?_) ?_
    ·simp[F]
    ·simp[F]
    ·intro z b hz;simp only[aA,aF] at hz ⊢;grind
   ·simp[F,appV,elsV,Int.not_lt.2 hg9,cD]
    refine⟨by omega,fun g12 tB oM=> ?_⟩
    have mU: ¬ g12=g2:=by grind
    have nF: ¬ g12=g7:=by grind
    have F:=ad (ad F mU) nF
    have b12:bl g12=none:=by grind
    have z12:0≤g12∨r.d= []:=tB.imp id (fun h=>by simpa [iv] using h)
    refine⟨by intro z b hz;simp only[aA,aF] at hz ⊢;grind,?_⟩
    refine Dz 8 ?_
    simp[F]
    refine⟨by intro z b hz;simp only[aA,aF] at hz ⊢;grind,?_⟩
    refine Dz 13 ?_
    simp[F]
    refine⟨by intro z b hz;simp only[aA,aF] at hz ⊢;grind,?_⟩
    refine Dz 14 ?_
    simp[F]
    refine⟨by intro z b hz;simp only[aA,aF] at hz ⊢;grind,?_⟩
    refine Dy ?_
    simp[F]
    refine aK [.agg [.bool r.neg,.lsl g7 1 0 r.m.length,.lsl g12 1 0 r.d.length]] 2 (by simp[F]) (lK z7 z12 b7 b12 ?_ ?_) ?_
    ·simp[F]
    ·simp[F]
    ·intro z b hz;simp only[aA,aF] at hz ⊢;grind
 ·simp[]
  intro g9 hg9
  intros
  have Cx: ¬ g9=g2:=by first | assumption | grind
  have F:=ad F Cx
  have b9:bl g9=none:=by first | assumption | grind
  refine⟨by intro z b hz;simp only[aA,aF] at hz ⊢;grind,?_⟩
  refine Dz 3 ?_
  simp[F]
  intro g3 hg3
  intros
  have aCL: ¬ g3=g2:=by first | assumption | grind
  have aTQ: ¬ g3=g9:=by first | assumption | grind
  have F:=ad (ad F aCL) aTQ
  have b3:bl g3=none:=by first | assumption | grind
  refine⟨by intro z b hz;simp only[aA,aF] at hz ⊢;grind,?_⟩
  refine Dz 7 ?_
  simp[F,appV,elsV,Int.not_lt.2 hg3,cD]
  refine⟨by omega,fun g7 hg7 hb7=> ?_⟩
  have Pj: ¬ g7=g2:=by grind
  have aA2: ¬ g7=g9:=by grind
  have F:=ad (ad F Pj) aA2
  have b7:bl g7=none:=by grind
  have z7:0≤g7∨r.m= []:=hg7.imp id (fun h=>by simpa [iv] using h)
  refine⟨by intro z b hz;simp only[aA,aF] at hz ⊢;grind,?_⟩
  refine iZ (i:=8) (j:=12) (by kernel_rfl) rfl rfl rfl rfl ?_ ?_
  ·simp[F]
   refine⟨by intro z b hz;simp only[aA,aF] at hz ⊢;grind,?_⟩
   refine Dz 12 ?_
   simp[F,appV,elsV,Int.not_lt.2 hg9,cD]
   refine⟨by omega,fun g12 tB oM=> ?_⟩
   have mU: ¬ g12=g2:=by grind
   have nF: ¬ g12=g7:=by grind
   have F:=ad (ad F mU) nF
   have b12:bl g12=none:=by grind
   have z12:0≤g12∨r.d= []:=tB.imp id (fun h=>by simpa [iv] using h)
   refine⟨by intro z b hz;simp only[aA,aF] at hz ⊢;grind,?_⟩
   refine Dz 13 ?_
   simp[F]
   refine⟨by intro z b hz;simp only[aA,aF] at hz ⊢;grind,?_⟩
   refine Dz 14 ?_
   simp[F]
   refine⟨by intro z b hz;simp only[aA,aF] at hz ⊢;grind,?_⟩
   refine Dy ?_
   simp[F]
   refine aK [.agg [.bool r.neg,.lsl g7 1 0 r.m.length,.lsl g12 1 0 r.d.length]] 2 (by simp[F]) (lK z7 z12 b7 b12 ?_ ?_) ?_
   ·simp[F]
   ·simp[F]
   ·intro z b hz;simp only[aA,aF] at hz ⊢;grind
  ·simp[F,appV,elsV,Int.not_lt.2 hg9,cD]
   refine⟨by omega,fun g12 tB oM=> ?_⟩
   have mU: ¬ g12=g2:=by grind
   have nF: ¬ g12=g7:=by grind
   have F:=ad (ad F mU) nF
   have b12:bl g12=none:=by grind
   have z12:0≤g12∨r.d= []:=tB.imp id (fun h=>by simpa [iv] using h)
   refine⟨by intro z b hz;simp only[aA,aF] at hz ⊢;grind,?_⟩
   refine Dz 8 ?_
   simp[F]
   refine⟨by intro z b hz;simp only[aA,aF] at hz ⊢;grind,?_⟩
   refine Dz 13 ?_
   simp[F]
   refine⟨by intro z b hz;simp only[aA,aF] at hz ⊢;grind,?_⟩
   refine Dz 14 ?_
   simp[F]
   refine⟨by intro z b hz;simp only[aA,aF] at hz ⊢;grind,?_⟩
   refine Dy ?_
   simp[F]
   refine aK [.agg [.bool r.neg,.lsl g7 1 0 r.m.length,.lsl g12 1 0 r.d.length]] 2 (by simp[F]) (lK z7 z12 b7 b12 ?_ ?_) ?_
   ·simp[F]
   ·simp[F]
   ·intro z b hz;simp only[aA,aF] at hz ⊢;grind

def aTL (row:List Int):List (Option Rat):=row.map fun(n:Int)=>some (n:Rat)
def aV2 (rows:List (List Int)):List (List (Option Rat)):=rows.map aTL
def aCO (l:List Int):List RT:=l.map fun(n:Int)=>ro (some (n:Rat))
def small (rows:List (List Int)):Prop:= ∀w,w∈rows→ ∀n,n∈w→ -100≤n∧n≤100
def aWU (s:Str):MX:=if sOk s=true then⟨(gD s).length,s.ms.length,aCO (gW s)⟩ else⟨0,0,[]⟩

def r6 (n:Int):Rat:=mkRat n 6
def q6 (n:Int):Option Rat:=some (r6 n)
def dotTo (a u:List Int):Nat→Int
 | 0 => 0
 | n + 1 => dotTo a u n + lN a n * lN u n
def aHJ (a b:List (Option Rat)):Nat→Option Rat
 | 0 => some 0
 | n + 1 => op2 (· + ·) (aHJ a b n) (op2 (· * ·) (a.getD n none) (b.getD n none))

theorem Ew {bl:Int→Option Blk} {p:Pg} {v:V} {gs:List Int} :OwnD bl (dPg p) v gs ↔ ∃va vb vc ga gb gc,v= .agg [.int .i64 p.rows,.int .i64 p.bD,va,vb,vc]∧gs=ga++(gb++gc)∧(∀g,g∈ga→g∉gb++gc)∧(∀g,g∈gb→g∉gc)∧
  OwnD bl (fl 1 (iv p.a)) va ga∧OwnD bl (fl 1 (iv p.b)) vb gb∧OwnD bl (fl 1 (iv p.c)) vc gc:=by
 unfold dPg
 rw[OwnD]
 constructor
 ·rintro⟨vs,rfl,h⟩
  rw[OwnL] at h
  obtain⟨v1,vs1,g1,r1,rfl,rfl,_,h1,h⟩:=h
  rw[OwnD] at h1
  obtain⟨rfl,_,rfl⟩:=h1
  rw[OwnL] at h
  obtain⟨v2,vs2,g2,r2,rfl,rfl,_,h2,h⟩:=h
  rw[OwnD] at h2
  obtain⟨rfl,_,rfl⟩:=h2
  rw[OwnL] at h
  obtain⟨va,vs3,ga,r3,rfl,rfl,ha,h3,h⟩:=h
  obtain⟨vb,vc,gb,gc,rfl,rfl,hd,h4,h5⟩:=gJ.1 h
  exact⟨va,vb,vc,ga,gb,gc,rfl,rfl,ha,hd,h3,h4,h5⟩
 ·rintro⟨va,vb,vc,ga,gb,gc,rfl,rfl,ha,hb,h1,h2,h3⟩
  refine⟨_,rfl,?_⟩
  show OwnL bl [_,_,_,_,_] [_,_,_,_,_] ([]++([]++(ga++(gb++gc))))
  exact fQ (yI _) (fQ (yI _) (fQ h1 (gJ.2 ⟨vb,vc,gb,gc,rfl,rfl,hb,h2,h3⟩) ha) (fun x hx=>by cases hx)) (fun x hx=>by cases hx)
def aS4 :Pg:=⟨0,0,[],[],[]⟩
def aXM (s:Str) (l:List Int):Pg:=if lOk s l=true then bY s l else aS4
def aW0 (p q:Pg):Bool:=decide (p.rows=q.rows)&& (decide (p.bD=q.bD)&& (decide (p.a=q.a)&& (decide (p.b=q.b)&& decide (p.c=q.c))))
def mkP (k:Nat) (p:Pg):Pg:=⟨p.rows,p.bD,marks k p.a.length,marks (k+p.a.length:Nat) p.b.length,marks (k+p.a.length+p.b.length:Nat) p.c.length⟩
def aWB (k:Nat) (p:Pg):Nat:=k+p.a.length+p.b.length+p.c.length

end Go.Proofs.YticmgmemnpcbbaaGreat.Vm

namespace Go.Proofs.YticmgmemnpcbbaaGreat.Vm
open Go Go.Proofs
set_option linter.unusedSimpArgs false
set_option linter.unusedVariables false
def bv (bs:List Int):List (List V):=bs.map fun b=> [.int .u8 b]
def cur (bs:List Int) (i h:Int):Blk:=⟨3,[[.sl (bv bs),.int .i64 i,.int .i64 h]]⟩
def lo8 (a:Int):Int:=IntKind.i64.wrap ((BitVec.ofInt 64 a &&& BitVec.ofInt 64 255).toNat)
@[simp high] theorem aLC (P : Program) (t : TypeId) (a : Int) : binV P .and t (.int .i64 a) (.int .i64 255) = some (.int .i64 (lo8 a)) := rfl
def aG6 (a:Int) (n:Nat):Int:=a.fdiv (2^n)
def aUF (a b:Int):Int:=IntKind.i64.wrap ((BitVec.ofInt 64 a^^^BitVec.ofInt 64 b).toNat)
@[simp high] theorem aPV (P : Program) (t : TypeId) (a : Int) : binV P .shr t (.int .i64 a) (.int .u64 33) = some (.int .i64 (aG6 a 33)) := rfl
@[simp high] theorem aRP (P : Program) (t : TypeId) (a : Int) : binV P .shr t (.int .i64 a) (.int .u64 45) = some (.int .i64 (aG6 a 45)) := rfl
@[simp high] theorem aDO (P : Program) (t : TypeId) (a b : Int) : binV P .xor t (.int .i64 a) (.int .i64 b) = some (.int .i64 (aUF a b)) := rfl
structure aHD (bs : List Int) (i : Int) : Prop where
 n:bs.length≤1048576
 b: ∀x,x∈bs→0≤x∧x<256
 i0:0≤i
 i1:i≤bs.length

def msk (a b:Int):Int:=IntKind.i64.wrap ((BitVec.ofInt 64 a &&& BitVec.ofInt 64 b).toNat)

structure LD where
 k:Nat
 ns:List Int
 i:Int
 h:Int

def aXC (bl:Int→Option Blk) (K:V→(Int→Option Blk)→Prop) (bs:List Int) (g:Int):Prop:=
 ∀(s:Str) (i' h':Int) bl',sOk s=true→3≤s.js.length→aHD bs i'→bl' g=some (cur bs i' h')→(∀x y,x≠g→bl x=some y→bl' x=some y)→K (.agg s.c) bl'
def nmA :ByteArray:= { data:= #[97] }
def nmB :ByteArray:= { data:= #[98] }
def nmC :ByteArray:= { data:= #[99] }
def nmD :ByteArray:= { data:= #[100] }
def js3 (x1 x2 x3 x4 x5 x6:Int):List J:= [⟨nmA, -1 - x1,x2,true⟩,⟨nmB,3+x3,x4,true⟩,⟨nmC,x5 - 1, -1 - x6,false⟩]
def ms2 (x7:Int):List Mb:= [⟨0,2,1⟩,⟨1,2,x7⟩]
def js4 (x1 x2 x3 x4 x5 x6 x8:Int):List J:=js3 x1 x2 x3 x4 x5 x6++ [⟨nmD,x8 - 1, -7,true⟩]
def ms3 (x7 x9:Int):List Mb:=ms2 x7++ [⟨3,2,x9⟩]

def tj (x1 x2 x3 x4 x5 x6:Int):List J:= [⟨nmA, -2,x1,true⟩,⟨nmB,6,x2,true⟩,⟨nmC,x3, -1 - x4,false⟩,⟨nmD,3+x5, -1 - x6,false⟩]
structure TD where
 n:Nat
 ms:List Mb
 g:Int
 i:Int
 h:Int
def aVN (m:Mb):Prop:=(m.a=0∨m.a=1∨m.a=2∨m.a=3)∧(m.b=1∨m.b=2∨m.b=3)∧(1≤m.kind∧m.kind≤3)∧((m.a≤1∧2≤m.b)∨(m.a=2∧m.b=3)∨(m.a=3∧m.b=1))

end Go.Proofs.YticmgmemnpcbbaaGreat.Vm

namespace Go.Proofs.YticmgmemnpcbbaaGreat.Vm
open Go Go.Proofs
set_option linter.unusedSimpArgs false
set_option linter.unusedVariables false
structure MD where
 us:List Int
 g:Int
 i:Int
 h:Int
 b:Int→Option Blk
def rq6 (us:List Int):List RT:=us.map fun u=>ro (q6 u)

def MX.fit (m:MX):Prop:=aKQ m.cells 1048576∧aSB m.cells≤100000000
def aXV (k:Nat) (m:MX):MX:=⟨m.r,m.c,mkQs k m.cells⟩

def aWC (cells:List (List (Option Rat))) (v:List (Option Rat)):List (Option Rat):=cells.map fun row=>aHJ row v row.length

def aIC (s:Str) (l:List Int) (j x y:Int):Bool:=lOk s l && (decide (0≤j)&& decide (j<s.js.length))&& (decide (-200≤x)&& decide (x≤200))&& (decide (-200≤y)&& decide (y≤200))&&
 fF (lat l (2*j.toNat)+x)&& fF (lat l (2*j.toNat+1)+y)
def aSJ (l:List Int) (j x:Int):List Int:=l.set (2*j.toNat) (lat l (2*j.toNat)+x)
def aSN (l:List Int) (j x y:Int):List Int:=(aSJ l j x).set (2*j.toNat+1) (lat l (2*j.toNat+1)+y)
def aX5 (s:Str) (l:List Int) (j x y:Int):List Int:=if aIC s l j x y=true then aSN l j x y else []
def aXE (ns:List Int) (b:Bool):D:= .t [fl 1 (iv ns),.c (.bool b)]

end Go.Proofs.YticmgmemnpcbbaaGreat.Vm

namespace Go.Proofs.YticmgmemnpcbbaaGreat.Vm
open Go Go.Proofs
set_option linter.unusedSimpArgs false
set_option linter.unusedVariables false

def szW :List (List Int)→Int→Int
 | [], left => left
 | w :: ws, left => if less left w.length < 0 then -1 else szW ws (less left w.length)
def aWI (ws:List (List Int)) (left:Int):Int:=if less left ws.length<0 then -1 else szW ws (less left ws.length)
def aV6 (ws:List (List Int)) (i:Nat):Nat:=(ws.take i).flatten.length
def aVG (bl:Int→Option Blk) (n:Nat) (v:V) (gs:List Int):Prop:= ∃rows els,rows.length=n∧((rows= []∧v= .nils∧gs= [])∨ ∃g gs',v= .lsl g 1 0 n∧gs=g::gs'∧g∉gs'∧bl g=some ⟨1,els⟩∧(g<0→els= [])∧OwnR bl 1 rows els gs')
structure St2 where
 i:Nat
 b:Int→Option Blk
structure aW2 (ws : List (List Int)) : Prop where
 n:ws.length≤140737488351232
 w: ∀w,w∈ws→w.length≤140737488351232

def mixC (ws:List (List Int)) (wt:List Int) (i:Nat):Nat→Int
 | 0 => 0
 | c + 1 => mixC ws wt i c + lat wt c * lat (ws.getD c []) i
def aHY (m:Nat) (ws:List (List Int)) (wt:List Int) (c:Nat):List Int:=(List.range m).map fun i=>mixC ws wt i c
def cOk (s:Str) (ws:List (List Int)) (wt:List Int) (c:Nat):Bool:=lX s.js (ws.getD c [])&& (decide (0≤lat wt c)&& decide (lat wt c≤100))
def aKY (s:Str) (ws:List (List Int)) (wt:List Int):Bool:=decide (ws.length=wt.length)&& decide (ws.length≤10)&& sOk s && decide (∀c,c<ws.length→cOk s ws wt c=true)&& lX s.js (aHY (2*s.js.length) ws wt ws.length)
def aWD (s:Str) (ws:List (List Int)) (wt:List Int):List Int:=if aKY s ws wt=true then aHY (2*s.js.length) ws wt ws.length else []

end Go.Proofs.YticmgmemnpcbbaaGreat.Vm

namespace Go.Proofs.YticmgmemnpcbbaaGreat.Vm
open Go Go.Proofs
set_option linter.unusedSimpArgs false
set_option linter.unusedVariables false

def aVF (P:Program) (ops:Array Oper) (blK:Int→Option Blk) (last:List Nat) (K:St→Prop):List (List Nat×Nat)→St→Prop
 | [] => HoistF P (ops.toList.map (·.dst)) blK (last.filterMap fun i => ops[i]?) K
 | (is, i) :: r => HoistF P (ops.toList.map (·.dst)) blK (is.filterMap fun i => ops[i]?) (HStep P ops blK i (aVF P ops blK last K r))
def hIdx (last:List Nat):List (List Nat×Nat)→List Nat
 | [] => last
 | (is, i) :: r => is ++ i :: hIdx last r

def aWO (s:Str) (us:List Int):List Int:=(gD s).map fun w=>dotTo w us s.ms.length

def dMf (m:MX):List D:= [.c (.int .i64 m.r),.c (.int .i64 m.c),fl 3 (rv m.cells)]

structure MOk (m : MX) (r c : Nat) : Prop where
 hr:m.r=r
 hc:m.c=c
 r24:r≤24
 c24:c≤24
 len:m.cells.length=r*c
 ok:At m.cells=true
 fq:aKQ m.cells 1048576
def trC (cells:List RT) (r c k:Nat) (i:Nat):List RT:=(List.range i).map fun i=>cells.getD (i*c+k) rz
def aTW (cells:List RT) (r c k i:Nat):List RT:=((List.range k).flatMap fun k=>trC cells r c k r)++trC cells r c k i
def trM (m:MX) (r c:Nat):MX:=⟨c,r,aTW m.cells r c c 0⟩

abbrev MF :=Nat→Nat→Option Rat
def aWX (M:MF) (i j:Nat) (v:Option Rat):MF:=fun a b=>if a=i∧b=j then v else M a b
def aLO (r c:Nat) (M:MF):List RT:=(List.range (r*c)).map fun t=>ro (M (t / c) (t % c))
def Y9 (M:MF) (i n:Nat):MF:=fun a b=>if a=i then M n b else if a=n then M i b else M a b
def aTB (M:MF) (n:Nat) (p:Option Rat):MF:=fun a b=>if a=n then op2 (· / ·) (M a b) p else M a b
def aKJ (M:MF) (n k:Nat):MF:=fun a b=>if a=n∨nm (M a k)=0 then M a b else op2 (· - ·) (M a b) (op2 (· * ·) (M a k) (M n b))
def Yf (M:MF) (n k i:Nat):MF:=aKJ (aTB (Y9 M i n) n (Y9 M i n n k)) n k
def Hv (M:MF) (r k:Nat) (n:Nat):Nat:=if n<r then if nm (M n k)=0 then Hv M r k (n+1) else n else r
termination_by r - n
def okM (r c:Nat) (M:MF):Bool:=(List.range r).all fun i=>(List.range c).all fun j=>(M i j).isSome
structure RS where
 M:MF
 P:List Nat
def Tr (r c k:Nat) (s:RS):Option RS:=
 if s.P.length<r then
  if Hv s.M r k s.P.length=r then some s
  else if okM r c (Yf s.M s.P.length k (Hv s.M r k s.P.length))=true then some ⟨Yf s.M s.P.length k (Hv s.M r k s.P.length),s.P++ [k]⟩ else none
 else some s
def redTo (r c:Nat) (M:MF):Nat→Option RS
 | 0 => some ⟨M, []⟩
 | k + 1 => (redTo r c M k).bind (Tr r c k)
structure RI (r c k : Nat) (s : RS) : Prop where
 le:s.P.length≤r
 ok:okM r c s.M=true
 fit: ∀i j,okQ (s.M i j)
 zero: ∀i j,s.P.length≤i→i<r→j<k→j<c→s.M i j=some 0
 piv: ∀n (h:n<s.P.length),s.P[n]<k
 inc: ∀m n (hm:m<n) (hn:n<s.P.length),s.P[m]<s.P[n]
def Zs (r c n k:Nat) (M:MF):Prop:= ∀i j,n≤i→i<r→j<k→j<c→M i j=some 0
def aTS (M:MF) (n k:Nat) (p:Option Rat):MF:=fun a b=>if a=n∧k≤b then op2 (· / ·) (M a b) p else M a b
def aBE (M:MF) (n k:Nat):MF:=fun a b=>if a=n∨nm (M a k)=0∨b<k∨nm (M n b)=0 then M a b else op2 (· - ·) (M a b) (op2 (· * ·) (M a k) (M n b))
def aV0 (M:MF) (n k i:Nat):MF:=aBE (aTS (Y9 M i n) n k (Y9 M i n n k)) n k

theorem zX {P:Program} {f:FuncId} {xs:List V} {bl blK:Int→Option Blk} {r:V} {k:V→(Int→Option Blk)→Prop} (h:RL P blK f xs r) (hs:Sub blK bl) (hk:k r bl):bW P f xs bl k:=(h bl hs).mono fun v b ⟨hv,hb⟩=>by subst hv hb;exact hk
def aV9 (M:MF) (n k i:Nat):MF:=fun a b=>if a<i then aBE M n k a b else M a b
def aW8 (M:MF) (n k i j:Nat):MF:=fun a b=>if a<i∨a=i∧b<j then aBE M n k a b else M a b

def pz (P:List Nat):List Int:=P.map fun(m:Nat)=>(m:Int)
def aXL (M:MF) (i n j:Nat):MF:=fun a b=>if b<j then Y9 M i n a b else M a b
def aWZ (M:MF) (n k j:Nat) (p:Option Rat):MF:=fun a b=>if a=n∧k≤b∧b<j then op2 (· / ·) (M a b) p else M a b
inductive Oj (r c : Nat) (M : MF) : MF → List Nat → Prop
 | good (s : RS) (h : redTo r c M c = some s) (P : List Nat) (e : P = s.P) : Oj r c M s.M P
 | bad (X : MF) (P : List Nat) (h : redTo r c M c = none) (ho : okM r c X = false) : Oj r c M X P
structure LR where
 k:Nat
 s:RS
 gp:Int
 gf:Int
 fs:List RT

def aWT (cells:List RT) (c:Nat):MF:=fun i j=>rd (cells.getD (i*c+j) rz)
def aXB (r c:Nat) (M:MF):V:=match redTo r c M c with
 | some s => .tup [.agg [.int .i64 r, .int .i64 c, .sl (rv (aLO r c s.M))], .sl (iv (pz s.P)), .bool true]
 | none => .tup [.agg [.int .i64 0, .int .i64 0, .sl []], .sl [], .bool false]

def ix :List Nat→Nat→Option Nat
 | [], _ => none
 | p :: ps, j => if p = j then some 0 else (ix ps j).map (· + 1)
def aCY (M:MF) (P:List Nat) (k j:Nat):Option Rat:=match ix P j with
 | some i => (M i k).map (- ·)
 | none => if j = k then some 1 else some 0
def aKH (M:MF) (P:List Nat) (c k:Nat):List (Option Rat):=(List.range c).map (aCY M P k)
def aAB (P:List Nat) (n:Nat):List Nat:=(List.range n).filter fun k=>(ix P k).isNone
def Tw (M:MF) (P:List Nat) (c n:Nat):List (List (Option Rat)):=(aAB P n).map (aKH M P c)

def rvv (ls:List (List RT)):List (List V):=ls.map fun w=> [.sl (rv w)]
def aW1 (r c:Nat) (M:MF):List (List RT)×Bool:=match redTo r c M c with
 | some s => ((Tw s.M s.P c c).map Hq, true)
 | none => ([], false)
def aW6 (x:List (List RT)×Bool):V:= .tup [.sl (rvv x.1),.bool x.2]
structure NG where
 k:Nat
 g:Int
end Go.Proofs.YticmgmemnpcbbaaGreat.Vm

namespace Go.Proofs.YticmgmemnpcbbaaGreat.Vm
open Go Go.RowKit Go.Proofs
set_option linter.unusedSimpArgs false
set_option linter.unusedVariables false
theorem lI {α:Type} {l:Array α} {i j:Nat} {x:α} (d:α) (h:i≠j):(l.setIfInBounds i x).getD j d=l.getD j d:=by simp[Array.getD_eq_getD_getElem?,Array.getElem?_setIfInBounds_ne h]
def pureOp :Op→Bool
 | .move _ | .nilCheck _ | .fieldAddr .. | .indexAddr .. => true
 | _ => false
theorem SV.pure {P:Program} {blK:Int→Option Blk} {o:Oper} {σ:St} {v:V} (hp:pureOp o.op=true) (h:SV P blK o σ v):SV P (fun _=>none) o σ v:=by
 rcases h with ⟨hq,hT⟩| ⟨c,f,p,n,ys,ho,hc,hp2,hro⟩
 ·refine .inl ⟨hq,?_⟩
  have fin: ∀ {v':V},(σ.iF blK).put o.dst v'=(σ.iF blK).put o.dst v→(σ.iF fun _=>none).put o.dst v'=(σ.iF fun _=>none).put o.dst v:=by
   intro v' h
   cases hd:o.dst with
   | none => rfl
   | some d =>
     rw[hd] at h
     have h2:upd σ.sl d v'=upd σ.sl d v:=congrArg St.sl h
     show({ n:=σ.n,sl:=upd σ.sl d v',bl:=fun _=>none } :St)= { n:=σ.n,sl:=upd σ.sl d v,bl:=fun _=>none }
     rw[h2]
  unfold Vm.T at hT ⊢
  cases ho:o.op<;>rw[ho] at hT hp<;>simp only[fV] at hT ⊢ <;>try (simp[pureOp] at hp;done)
  case move x=>exact fin hT
  case nilCheck x=>obtain⟨u,h1,h2⟩:=hT;exact⟨u,h1,fin h2⟩
  case fieldAddr=>obtain⟨u,h1,h2⟩:=hT;exact⟨u,h1,fin h2⟩
  case indexAddr=>obtain⟨u,h1,h2⟩:=hT;exact⟨u,h1,fin h2⟩
 ·rw[ho] at hp;simp[pureOp] at hp
theorem DY.pure {P:Program} {ops:Array Oper} {blK:Int→Option Blk} {o:Oper} {σ:St} {v:V} (hp:pureOp o.op=true) (h:DY P ops blK o σ v):DY P ops (fun _=>none) o σ v:=by
 unfold DY at h ⊢
 split
 ·rename_i hg;simp only[hg] at h;exact h.pure hp
 ·rename_i j b hg
  simp only[hg] at h
  split
  ·rename_i d hd
   simp only[hd] at h
   rcases iJ h with ⟨q,hq,h1,h2⟩| ⟨hq,h1⟩
   ·rw[hq];exact⟨fun hh=>(h1 hh).pure hp,h2⟩
   ·rw[hq];exact h1
  ·rename_i hd;simp only[hd] at h
section
variable {P : Program} {ops : Array Oper}
theorem Ks {blK:Int→Option Blk} {tl:Nat→Bool} {K:St→Prop} {i:Nat} {oi:Oper} {v:V} (hi:ops[i]? =some oi) (hti:tl i=false): ∀(fuel:Nat) (l:Array Bool) (σ:St),
  (∀j oj,ops[j]? =some oj→j≠i→l.getD j true=false→(∀e∈oj.after,Region.binds .any e=true→e.on≠i)→oi.apart ops oj=true)→(late tl l i=false→Sub blK σ.bl)→
  i∈Region.ready .any ops l→DY P ops (fun _=>none) oi σ v→DL P ops blK tl K fuel (l.setIfInBounds i true) (σ.put oi.dst v)→DL P ops blK tl K (fuel+1) l σ:=by
 have hbl: ∀(σ:St),(σ.put oi.dst v).bl=σ.bl:=fun σ=>by cases oi.dst<;>rfl
 have L8: ∀(σ:St),Sub (fun _=>none) σ.bl:=fun σ g b h=>by cases h
 intro fuel
 induction fuel with
 | zero =>
   intro l σ _ hS hr hy H
   refine⟨fun h=>(by rw[h] at hr;cases hr),fun j hj=> ?_⟩
   by_cases hji:j=i
   ·subst hji;exact hy.step hi (L8 σ) ⟨fun h=>by rw[hbl];exact hS h,H⟩
   ·have:=ready_mono hj hji
    rw[H.1] at this
    cases this
 | succ fuel ih =>
   intro l σ wL hS hr hy H
   refine⟨fun h=>(by rw[h] at hr;cases hr),fun j hj=> ?_⟩
   by_cases hji:j=i
   ·subst hji;exact hy.step hi (L8 σ) ⟨fun h=>by rw[hbl];exact hS h,H⟩
   ·have h1:=H.2 j (ready_mono hj hji)
    obtain⟨Q5,oj,hoj,cD⟩:=mem_ready.1 hj
    have Cn: ∀e∈oj.after,Region.binds .any e=true→e.on≠i:=fun e he hb heq=>by
     have h1:=cD e he hb
     have h0:=(mem_ready.1 hr).1
     rw[heq] at h1
     rcases Nat.lt_or_ge i l.size with h' | h'
     ·simp[h'] at h0 h1;rw[h0] at h1;cases h1
     ·simp[Array.getElem?_eq_none h'] at h1
    have h2:=DY.put hoj (wL j oj hoj hji Q5 Cn) hy h1
    have zY: ∀k ok,ops[k]? =some ok→k≠i→(l.setIfInBounds j true).getD k true=false→
      (∀e∈ok.after,Region.binds .any e=true→e.on≠i)→oi.apart ops ok=true:=fun k ok hk hki hun hno=>by
     refine wL k ok hk hki ?_ hno
     by_cases hjk:j=k
     ·subst hjk;exact Q5
     ·rw[lI true hjk] at hun;exact hun
    refine R8 h2 fun σ' ⟨h3,h4,h5⟩=> ?_
    have Th:(σ'.put oi.dst v).bl=σ'.bl:=hbl σ'
    have hS':late tl (l.setIfInBounds j true) i=false→Sub blK σ'.bl:=fun hl=>by
     rw[←Th]
     refine h4 ?_
     unfold late at hl ⊢
     rw[Bool.or_eq_false_iff,List.any_eq_false] at hl ⊢
     have hjs:j<l.size:=by
      rcases Nat.lt_or_ge j l.size with h' | h'
      ·exact h'
      ·simp[Array.getD_eq_getD_getElem?,Array.getElem?_eq_none h'] at Q5
     have htj:tl j=false:=by
      have:=hl.2 j (by simp[hjs])
      rw[Array.getD_eq_getD_getElem?,Array.getElem?_setIfInBounds_self_of_lt hjs] at this
      simpa using this
     refine⟨htj,fun k hk hh=> ?_⟩
     simp only[Bool.and_eq_true] at hh
     have hkj:k≠j:=fun e=>by rw[e,htj] at hh;cases hh.1
     have hki:k≠i:=fun e=>by rw[e,hti] at hh;cases hh.1
     refine hl.2 k (by simpa using hk) ?_
     rw[lI false (Ne.symm hki)] at hh
     rw[lI false (Ne.symm hkj),hh.1,hh.2];rfl
    refine⟨fun h=>hS' ?_,ih (l.setIfInBounds j true) σ' zY hS' (ready_mono hr (Ne.symm hji)) h3 ?_⟩
    ·unfold late at h ⊢
     rw[Bool.or_eq_false_iff,List.any_eq_false] at h ⊢
     refine⟨hti,fun k hk hh=> ?_⟩
     simp only[Bool.and_eq_true] at hh
     by_cases hkj:k=j
     ·subst hkj;rw[h.1] at hh;cases hh.1
     ·rw[lI false (Ne.symm hkj)] at hh
      exact h.2 k (by simpa using hk) (by rw[hh.1,hh.2];rfl)
    ·rw[Array.setIfInBounds_comm _ _ hji]
     exact h5
theorem I1 {blK:Int→Option Blk} {tl:Nat→Bool} {K:St→Prop} (fuel:Nat): ∀(is:List Nat) (l:Array Bool) (σ:St),(∀i,i∈is→tl i=false)→(∀k,tl k=true→l.getD k false=false)→(∀i,i∈is→(∃o,ops[i]? =some o∧pureOp o.op=true)∨ ∀j oj,tl j=true→ops[j]? =some oj→ ∃e∈oj.after,Region.binds .any e=true∧e.on=i)→hoistB ops is l=true→Sub blK σ.bl→
  Hoist P ops blK is (DL P ops blK tl K fuel (jN is l)) σ→DL P ops blK tl K (fuel+is.length) l σ
 | [], l, σ, _, _, _, _, _, h => h
 | i :: is, l, σ, hI, hN, hT, hB, hs, h => by
   simp only[hoistB,Bool.and_eq_true] at hB
   obtain⟨⟨hr,hf⟩,hB'⟩:=hB
   unfold Hoist at h
   split at h
   ·rename_i o ho
    obtain⟨v,hy,hK⟩:=h
    have:fuel+(i::is).length=(fuel+is.length)+1:=by simp;omega
    rw[this]
    have hN': ∀k,tl k=true→(l.setIfInBounds i true).getD k false=false:=fun k hk=>by
     by_cases hki:i=k
     ·subst hki;rw[hI i List.mem_cons_self] at hk;cases hk
     ·rw[lI false hki];exact hN k hk
    have next:=I1 fuel is (l.setIfInBounds i true) (σ.put o.dst v) (fun i hi=>hI i (List.mem_cons_of_mem _ hi)) hN' (fun i hi=>hT i (List.mem_cons_of_mem _ hi)) hB' (by cases o.dst<;>exact hs) hK
    rcases hT i List.mem_cons_self with ⟨o',ho',hp⟩| hT'
    ·rw[ho] at ho';cases ho'
     exact Ks ho (hI i List.mem_cons_self) _ _ _ (Region.free_spec ho hf) (fun _=>hs) (by simpa using hr) (hy.pure hp) next
    ·exact Aw ho (hI i List.mem_cons_self) hT' _ _ _ (Region.free_spec ho hf) hN (by simpa using hr) hs hy next
   ·exact h.elim
def tailP (ops:Array Oper) (tl:Nat→Bool) (is:List Nat):Bool:=is.all fun i=>(match ops[i]? with | some o=>pureOp o.op | none=>false)|| Hr ops tl [i]
theorem dD {id:Nat} {K:Ex→St→Prop} {σ:St} (hm:P.follows .mixedOrders=true) (blK:Int→Option Blk) (hs:Sub blK σ.bl) (is:List Nat) (fuel n:Nat) (hn:(ops.size==fuel+is.length && is.all (fun i=>decide (i<ops.size))&& hoistB ops is (Array.replicate ops.size false)&& tailP ops (fun j=>decide (n≤j)) is && is.all (fun i=>decide (i<n)))=true)
  (h:HoistF P (ops.toList.map (·.dst)) blK (is.filterMap fun i=>ops[i]?) (DL P ops blK (fun j=>decide (n≤j)) (K .normal) fuel (jN is (Array.replicate ops.size false))) σ):AW P (.region id ops true) K σ:=by
 simp only[Bool.and_eq_true,beq_iff_eq] at hn
 refine Bi hm blK (tl:=fun j=>decide (n≤j)) ?_
 have:=I1 (P:=P) (ops:=ops) (blK:=blK) (tl:=fun j=>decide (n≤j)) (K:=K .normal) fuel is (Array.replicate ops.size false) σ
  (fun i hi=>by have:=List.all_eq_true.1 hn.2 i hi;simp at this ⊢;exact this) (fun k _=>by
    rw[Array.getD_eq_getD_getElem?,Array.getElem?_replicate];split<;>rfl) (fun i hi=>by
    have h5:=List.all_eq_true.1 hn.1.2 i hi
    rw[Bool.or_eq_true] at h5
    rcases h5 with h5 | h5
    ·refine .inl ?_
     split at h5
     ·rename_i o ho;exact⟨o,ho,h5⟩
     ·cases h5
    ·exact .inr (sM h5 i (by simp))) hn.1.1.2 hs (lR _ is σ (filter_some is hn.1.1.1.2) h)
 rw[←hn.1.1.1.1] at this
 exact this
end
end Go.Proofs.YticmgmemnpcbbaaGreat.Vm

namespace Go.Proofs.YticmgmemnpcbbaaGreat.Vm
open Go Go.Proofs
set_option linter.unusedSimpArgs false
set_option linter.unusedVariables false
structure mQ (b : Int → Option Blk) (g0 : Int) (ids : List Int) (r c : Nat) (M : MF) : Prop where
 len:ids.length=r
 top:b g0=some ⟨1,ids.map fun g=> [.lsl g 1 0 c]⟩
 row: ∀(i:Nat) (g:Int),ids[i]? =some g→b g=some ⟨1,fvs (rowOf c M i)⟩
 pos: ∀g,g∈ids→0≤g
 inj: ∀(i j:Nat) (g:Int),ids[i]? =some g→ids[j]? =some g→i=j
 no0:g0∉ids
theorem wG {c:Nat} {M M':MF} {i:Nat} (h: ∀j,j<c→M i j=M' i j):rowOf c M i=rowOf c M' i:=by
 unfold rowOf
 exact List.map_congr_left fun j hj=>h j (by simpa using hj)
theorem mQ.congr {b:Int→Option Blk} {g0:Int} {ids:List Int} {r c:Nat} {M M':MF} (h:mQ b g0 ids r c M) (hM: ∀i j,i<r→j<c→M i j=M' i j):mQ b g0 ids r c M':=
 ⟨h.len,h.top,fun i g hi=>by
   rw[h.row i g hi,wG fun j hj=>hM i j (by rw[←h.len];exact(List.getElem?_eq_some_iff.1 hi).1) hj],h.pos,h.inj,h.no0⟩
theorem mQ.put {b:Int→Option Blk} {g0 g:Int} {ids:List Int} {r c i:Nat} {M M':MF} (h:mQ b g0 ids r c M) (hi:ids[i]? =some g) (hM: ∀a j,a≠i→j<c→M a j=M' a j):mQ (upd b g (some ⟨1,fvs (rowOf c M' i)⟩)) g0 ids r c M':=by
 have hm:=List.mem_of_getElem? hi
 refine⟨h.len,?_,fun k g' hk=> ?_,h.pos,h.inj,h.no0⟩
 ·rw[aG _ _ _ _ (fun e=>h.no0 (by rw[e];exact hm))];exact h.top
 ·by_cases e:k=i
  ·subst e
   rw[hi] at hk;cases hk
   rw[aY]
  ·have hne:g'≠g:=fun e2=>e (h.inj k i g (by rw[hk,e2]) hi)
   rw[aG _ _ _ _ hne,h.row k g' hk,wG fun j hj=>hM k j e hj]
theorem mQ.bI {b b':Int→Option Blk} {g0:Int} {ids:List Int} {r c:Nat} {M:MF} (h:mQ b g0 ids r c M) (hk: ∀x y,x=g0∨x∈ids→b x=some y→b' x=some y):mQ b' g0 ids r c M:=
 ⟨h.len,hk _ _ (.inl rfl) h.top,fun i g hi=>hk _ _ (.inr (List.mem_of_getElem? hi)) (h.row i g hi),h.pos,h.inj,h.no0⟩
def aVW (ids:List Int) (i n:Nat) (gi gn:Int):List Int:=(ids.set i gn).set n gi
structure aVH (b : Int → Option Blk) (gr g0 gp : Int) (ids : List Int) (r c : Nat) (s : RS) (d : Option Rat) : Prop where
 fE:mQ b g0 ids r c s.M
 hd:b gr=some ⟨5,[[.int .i64 r,.int .i64 c,.lsl g0 1 0 r,.lsl gp 1 0 s.P.length,fv d]]⟩
 pv:b gp=some ⟨1,iv (pz s.P)⟩
 pn:gp<0→s.P= []
 dq:okQ d
 g00:0≤g0
 d1:gr≠g0
 d2:gr∉ids
 d3:gp≠gr
 d4:gp≠g0
 d5:gp∉ids
def Fr (bl b:Int→Option Blk) (gr g0:Int) (ids:List Int):Prop:= ∀x y,bl x=some y→x≠gr→x≠g0→x∉ids→b x=some y
def aWP (M:MF) (n k i j:Nat):MF:=fun a b=>if a<i∨a=i∧b<j then aKJ M n k a b else M a b
end Go.Proofs.YticmgmemnpcbbaaGreat.Vm
