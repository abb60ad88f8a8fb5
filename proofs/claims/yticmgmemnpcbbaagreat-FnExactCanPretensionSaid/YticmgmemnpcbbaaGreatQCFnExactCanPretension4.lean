import Derived.Test.YticmgmemnpcbbaaGreatQCFnExactCanPretension3

namespace Go.Proofs.YticmgmemnpcbbaaGreat.Vm
open Go Go.Proofs
set_option linter.unusedSimpArgs false
set_option linter.unusedVariables false
def dK (s:Str) (j:Int):List Int:=s.ms.map (eqX s j)
def dZ (s:Str) (j:Int):List Int:=s.ms.map (eqY s j)
def cA (s:Str):List (List Int):=(aO s.js).flatMap fun j=> [dK s j,dZ s j]
def sS (s:Str) (n:Nat):List (List Int):=((aO s.js).take n).flatMap fun j=> [dK s j,dZ s j]
theorem C9 (s:Str) (n:Nat) (h:n<(aO s.js).length):sS s (n+1)=sS s n++ [dK s (aO s.js)[n],dZ s (aO s.js)[n]]:=by
 unfold sS
 rw[List.take_add_one,List.getElem?_eq_getElem h,List.flatMap_append]
 simp
theorem lC (s:Str): ∀n,n≤(aO s.js).length→(sS s n).length=2*n
 | 0, _ => by simp [sS]
 | n + 1, h => by
   rw[C9 s n (by omega),List.length_append,lC s n (by omega)]
   simp;omega
@[simp] theorem lG (s : Str) (j : Int) : (dK s j).length = s.ms.length := by simp [dK]
@[simp] theorem kU (s : Str) (j : Int) : (dZ s j).length = s.ms.length := by simp [dZ]
theorem uZ {s:Str} {k:Nat} (h:k<s.ms.length):mat s k=s.ms[k]:=by simp[mat,h]
theorem Fb {s:Str} (hs:SOk s) {m:Mb} (hm:m∈s.ms):(-100≤vx s m∧vx s m≤100)∧(-100≤vy s m∧vy s m≤100):=by
 obtain⟨⟨a1,a2⟩,⟨b1,b2⟩⟩:=hs.ix _ hm
 have ca:=hs.at a1 a2
 have cb:=hs.at b1 b2
 unfold vx vy
 omega
structure Ql where
 i:Nat
 g:Int
 els:List (List V)
 gs:List Int
 b:Int→Option Blk
theorem jT (xs:List (List V)) (z:List V) (i:Nat) (h:i<xs.length) (hz:xs[i]=z):part xs z i=part xs z (i+1):=by
 rw[←cP xs z i h z hz.symm]
 have:=fC xs z i h
 apply List.ext_getElem?
 intro j
 rw[List.getElem?_set]
 split
 ·rename_i e;subst e;rw[if_pos (by rw[tR];exact h)];exact this
 ·rfl
def Fs (bl:Int→Option Blk) (s:Str) (p:Ql):Prop:=
 p.i≤(aO s.js).length∧p.b p.g=some ⟨1,p.els⟩∧p.els.length=2*p.i∧OwnR p.b 1 ((sS s p.i).map fun w=> [fl 1 (iv w)]) p.els p.gs∧p.g∉p.gs∧bl p.g=none∧(∀x,x∈p.gs→bl x=none)∧Sub bl p.b∧(p.g<0→p.els= [])
theorem qQ {bl:Int→Option Blk} {s:Str} {i:Nat} {g:Int} {els:List (List V)} {gs:List Int} {b:Int→Option Blk} (H:Fs bl s ⟨i,g,els,gs,b⟩) (h:i<(aO s.js).length)
  {ga gb gp gn:Int} (hga:0≤ga) (hba:b ga=none) (hgb:0≤gb) (hab: ¬gb=ga) (hbb:b gb=none) (hpa: ¬gp=ga) (hpb: ¬gp=gb) (hbp:b gp=none) (hgn:0≤gn)
  (hbn: ¬gn=g→ ¬gn=gp∧ ¬gn=gb∧ ¬gn=ga∧b gn=none):
  Fs bl s ⟨i+1,gn,els++ [[.lsl ga 1 0 s.ms.length]]++ [[.lsl gb 1 0 s.ms.length]],gs++ [ga]++ [gb],
   upd (rem (upd (upd (upd b ga (some ⟨1,iv (dK s (aO s.js)[i])⟩)) gb (some ⟨1,iv (dZ s (aO s.js)[i])⟩)) gp (some ⟨1,[[.lsl ga 1 0 s.ms.length],[.lsl gb 1 0 s.ms.length]]⟩)) g) gn
    (some ⟨1,els.take (2*i)++ [[.lsl ga 1 0 s.ms.length],[.lsl gb 1 0 s.ms.length]]⟩)⟩:=by
 obtain⟨hi,hb,hel,ho,hn,hg,hf,hsb,cL⟩:=H
 simp only at hi hb hel ho hn hg hf hsb cL
 have nga:ga≠g:=fun e=>by rw[e,hb] at hba;cases hba
 have ngb:gb≠g:=fun e=>by rw[e,hb] at hbb;cases hbb
 have ngp:gp≠g:=fun e=>by rw[e,hb] at hbp;cases hbp
 have fa:=aQ hsb hba
 have fb:=aQ hsb hbb
 have fp:=aQ hsb hbp
 have na:gn≠ga:=fun e=>by
  by_cases c:gn=g
  ·exact nga (e.symm.trans c)
  ·exact(hbn c).2.2.1 e
 have nb:gn≠gb:=fun e=>by
  by_cases c:gn=g
  ·exact ngb (e.symm.trans c)
  ·exact(hbn c).2.1 e
 have fn:bl gn=none:=by
  by_cases c:gn=g
  ·rw[c];exact hg
  ·exact aQ hsb (hbn c).2.2.2
 have nn:gn∉gs:=by
  by_cases c:gn=g
  ·rw[c];exact hn
  ·exact ho.not (hbn c).2.2.2
 have key: ∀(B:Int→Option Blk) (u v w z:Option Blk),B=upd (rem (upd (upd (upd b ga u) gb v) gp w) g) gn z→ ∀x y,x≠g→x≠gn→b x=some y→B x=some y:=by
  intro B u v w z hB x y c1 c2 hx
  have c3:x≠ga:=fun e=>by rw[e,hba] at hx;cases hx
  have c4:x≠gb:=fun e=>by rw[e,hbb] at hx;cases hx
  have c5:x≠gp:=fun e=>by rw[e,hbp] at hx;cases hx
  rw[hB];simp[c1,c2,c3,c4,c5,hx]
 have vx1: ∀xs:List Int,(iv xs).all (fun r=>r.all V.cl)=true:=fun xs=>by simp[iv,V.cl]
 have vx2: ∀(xs:List Int) r,r∈iv xs→r.length=1:=fun xs r hr=>by
  simp[iv] at hr
  obtain⟨_,_,rfl⟩:=hr;rfl
 have et:els.take (2*i)=els:=List.take_of_length_le (by omega)
 refine⟨by simp only;omega,by simp[et],by simp[hel];omega,?_,?_,fn,?_,?_,fun e=>by simp only at e;omega⟩
 ·simp only
  rw[C9 s i h,List.map_append,show(∀(A:List (List D)) (x y:List Int),A++ [x,y].map (fun w=> [fl 1 (iv w)])=A++ [[fl 1 (iv x)]]++ [[fl 1 (iv y)]]) from fun A x y=>by simp]
  generalize hB:upd (rem (upd (upd (upd b ga (some ⟨1,iv (dK s (aO s.js)[i])⟩)) gb (some ⟨1,iv (dZ s (aO s.js)[i])⟩)) gp (some ⟨1,[[.lsl ga 1 0 s.ms.length],[.lsl gb 1 0 s.ms.length]]⟩)) g) gn
    (some ⟨1,els.take (2*i)++ [[.lsl ga 1 0 s.ms.length],[.lsl gb 1 0 s.ms.length]]⟩)=B
  have o0:=ho.cW fun x hx y hy=>key _ _ _ _ _ hB.symm x y (fun e=>hn (e▸hx)) (fun e=>nn (e▸hx)) hy
  have oa:OwnD B (fl 1 (iv (dK s (aO s.js)[i]))) (.lsl ga 1 0 s.ms.length) [ga]:=(I6 (vx1 _) (vx2 _)).2 (.inr ⟨ga,by simp,rfl,by rw[←hB];simp[Ne.symm na,Ne.symm hpa,Ne.symm hab,nga],by omega⟩)
  have ob:OwnD B (fl 1 (iv (dZ s (aO s.js)[i]))) (.lsl gb 1 0 s.ms.length) [gb]:=(I6 (vx1 _) (vx2 _)).2 (.inr ⟨gb,by simp,rfl,by rw[←hB];simp[Ne.symm nb,Ne.symm hpb,ngb],by omega⟩)
  refine OwnR.snoc (xL.2 ob) rfl (by simp) (OwnR.snoc (xL.2 oa) rfl (by simp) o0 ?_) ?_
  ·intro x hx hx2
   rw[List.mem_singleton] at hx2
   exact ho.not hba (hx2▸hx)
  ·intro x hx hx2
   rw[List.mem_singleton] at hx2
   subst hx2
   rcases List.mem_append.1 hx with hx | hx
   ·exact ho.not hbb hx
   ·rw[List.mem_singleton] at hx;exact hab hx
 ·simp[nn,na,nb]
 ·intro x hx
  simp at hx
  rcases hx with hx | hx | hx
  ·exact hf x hx
  ·rw[hx];exact fa
  ·rw[hx];exact fb
 ·intro x y hx
  exact key _ _ _ _ _ rfl x y (fun e=>by rw[e,hg] at hx;cases hx) (fun e=>by rw[e,fn] at hx;cases hx) (hsb x y hx)
set_option maxHeartbeats 2000000 in
theorem vP (s:Str) (hs:SOk s):NW Tryz.prog 148 [.ptr s.c] (dII (cA s)):=by
 have h6:=hs.nj
 have h8:=hs.nm
 have hfr:=gY s.js s.js.length
 change(aO s.js).length≤s.js.length at hfr
 refine lR Tryz.func148 rfl rfl (by rw[Tryz.ntmps148];simp) fun bl=> ?_
 rw[Tryz.ntmps148,Tryz.results148]
 refine aC ?_
 simp
 refine aE (pO s (by omega)) ?_
 simp
 refine rJ 3 1 (by simp) fun g00 sA=> ?_
 simp at sA
 refine aI (fun p:Ql=> [(0,.ptr s.c),(3,.lsl p.g 1 0 (2*p.i)),(13,.sl (iv (aO s.js))),(14,.int .i64 (aO s.js).length),(15,.int .i64 p.i)]) (fun p=>p.b)
  (Fs bl s)
  (fun p=>(aO s.js).length - p.i) 82 ⟨0,g00,[],[],upd bl g00 (some ⟨1,[]⟩)⟩ ⟨Nat.zero_le _,by simp,rfl,by simp[sS,OwnR],by simp,sA,by simp,by simp[sA],fun _=>rfl⟩ ⟨rfl,by simp,by simp⟩ ?_
 rintro⟨i,g,els,gs,b⟩ ⟨hi,hb,hel,ho,hn,hg,hf,hsb,cL⟩
 simp only at hi hb hel ho hn hg hf hsb cL
 refine aC ?_
 simp
 refine⟨fun h=> ?_,fun h=> ?_⟩
 ·have q:=dC (aO s.js) i h
  simp[h]
  obtain⟨j,hj⟩: ∃j,(aO s.js)[i]=j:=⟨_,rfl⟩
  rw[hj]
  refine nJ aN [0,1,2,3,4,6,7,8,9,10] 4 (by kernel_rfl) ?_
  simp[Str.c]
  refine iH (i:=5) (j:=11) (by kernel_rfl) rfl rfl rfl rfl ?_ ?_
  ·simp
   refine⟨by omega,by unfold maxLen;omega,fun ga hga hba=>⟨by simp[hba],?_⟩⟩
   refine iH (i:=11) (j:=12) (by kernel_rfl) rfl rfl rfl rfl ?_ ?_
   ·simp
    refine⟨by omega,by unfold maxLen;omega,fun gb hgb hab hbb=>⟨by simp[hba,hbb,hab],?_⟩⟩
    refine Dz 12 ?_
    simp
    refine⟨by simp[hba,hbb,hab],Dz 13 ?_⟩
    simp
    refine⟨by simp[hba,hbb,hab],Dy ?_⟩
    simp[Str.c]
    have nga:ga≠g:=fun e=>by rw[e,hb] at hba;cases hba
    have ngb:gb≠g:=fun e=>by rw[e,hb] at hbb;cases hbb
    have fa:=aQ hsb hba
    have fb:=aQ hsb hbb
    have er:List.replicate s.ms.length [V.int IntKind.i64 0]=part (iv (dK s j)) [.int .i64 0] 0:=by simp
    have er':List.replicate s.ms.length [V.int IntKind.i64 0]=part (iv (dZ s j)) [.int .i64 0] 0:=by simp
    refine aI (fun k:Nat=> [(0,.ptr s.c),(3,.lsl g 1 0 (2*i)),(5,.int .i64 j),(6,.lsl ga 1 0 s.ms.length),(7,.lsl gb 1 0 s.ms.length),(13,.sl (iv (aO s.js))),(14,.int .i64 (aO s.js).length),(15,.int .i64 i),(34,.sl (mv s.ms)),(35,.int .i64 s.ms.length),(36,.int .i64 k)])
     (fun k=>upd (upd b ga (some ⟨1,part (iv (dK s j)) [.int .i64 0] k⟩)) gb (some ⟨1,part (iv (dZ s j)) [.int .i64 0] k⟩)) (fun k=>k≤s.ms.length) (fun k=>s.ms.length - k) 82 0 (Nat.zero_le _) ⟨rfl,by simp[Str.c],?_⟩ ?_
    ·intro x y hx
     simp only[aA,tL,iU,lG,kU] at hx ⊢
     grind
    intro k hk
    refine aC ?_
    simp
    refine⟨fun hkl=> ?_,fun hkl=> ?_⟩
    ·have hv:=Fb hs (List.getElem_mem hkl)
     have hm:mat s (k:Int)=s.ms[k]:=uZ hkl
     have yA:=sN s k hs (by omega) (by omega)
     rw[hm] at yA
     have hx:k<(iv (dK s j)).length:=by simpa using hkl
     have hy:k<(iv (dZ s j)).length:=by simpa using hkl
     have w1:IntKind.i64.wrap ((k:Int)+1)=k+1:=i64_in (by omega) (by omega)
     have nx:IntKind.i64.wrap (-vx s s.ms[k])= -vx s s.ms[k]:=i64_in (by omega) (by omega)
     have ny:IntKind.i64.wrap (-vy s s.ms[k])= -vy s s.ms[k]:=i64_in (by omega) (by omega)
     have px:=fC (iv (dK s j)) [.int .i64 0] k hx
     have py:=fC (iv (dZ s j)) [.int .i64 0] k hy
     simp[hkl,Mb.c]
     intro g9 hg9 h9b h9a hb9
     refine aE yA ?_
     simp
     refine⟨fun e1=> ?_,fun e1=> ?_⟩
     ·simp[hab,Ne.symm hab,h9a,h9b,Ne.symm h9a,Ne.symm h9b,hkl,px,py,w1,aB]
      have sx:=cP (iv (dK s j)) [.int .i64 0] k hx [.int .i64 (vx s s.ms[k])] (by simp[dK,eqX,e1])
      have sy:=cP (iv (dZ s j)) [.int .i64 0] k hy [.int .i64 (vy s s.ms[k])] (by simp[dZ,eqY,e1])
      refine⟨k+1,by omega,by omega,rfl,by simp,?_⟩
      intro x y hx'
      rw[←sx,←sy] at hx'
      simp only[aA] at hx' ⊢
      grind
     ·simp[hab,Ne.symm hab,h9a,h9b,Ne.symm h9a,Ne.symm h9b,hkl,px,py,w1,nx,ny,aB]
      refine⟨fun e2=> ?_,fun e2=> ?_⟩
      ·have fx:eqX s j s.ms[k]= -vx s s.ms[k]:=by rw[eqX,if_neg e1,if_pos e2]
       have fy:eqY s j s.ms[k]= -vy s s.ms[k]:=by rw[eqY,if_neg e1,if_pos e2]
       have sx:=cP (iv (dK s j)) [.int .i64 0] k hx [.int .i64 (-vx s s.ms[k])] (by simp[dK,fx])
       have sy:=cP (iv (dZ s j)) [.int .i64 0] k hy [.int .i64 (-vy s s.ms[k])] (by simp[dZ,fy])
       refine⟨k+1,by omega,by omega,rfl,by simp,?_⟩
       intro x y hx'
       rw[←sx,←sy] at hx'
       simp only[aA] at hx' ⊢
       grind
      ·have sx:=jT (iv (dK s j)) [.int .i64 0] k hx (by simp[dK,eqX,e1,e2])
       have sy:=jT (iv (dZ s j)) [.int .i64 0] k hy (by simp[dZ,eqY,e1,e2])
       refine⟨k+1,by omega,by omega,rfl,by simp,?_⟩
       intro x y hx'
       rw[←sx,←sy] at hx'
       simp only[aA] at hx' ⊢
       grind
    ·have:k=s.ms.length:=by omega
     subst this
     rw[gK _ _ _ (by simp),gK _ _ _ (by simp)]
     intro gp hgp hpb hpa hbp
     have npg:gp≠g:=fun e=>by rw[e,hb] at hbp;cases hbp
     have er2:List.range 2= [0,1]:=rfl
     simp[er2,appV,elsV,Int.not_lt.2 hgp,hpb,hpa,Ne.symm hpb,Ne.symm hpa,nga,ngb,Ne.symm nga,Ne.symm ngb,npg,Ne.symm npg,hb,hel]
     refine⟨by omega,fun gn hgn hbn=> ?_⟩
     have w9:IntKind.i64.wrap ((i:Int)+1)=i+1:=i64_in (by omega) (by omega)
     rw[aB]
     subst hj
     have nx:=qQ ⟨hi,hb,hel,ho,hn,hg,hf,hsb,cL⟩ h hga hba hgb hab hbb hpa hpb hbp hgn hbn
     refine⟨_,nx,by simp only;omega,rfl,?_,sub_eq rfl⟩
     simp[w9];exact⟨rfl,by omega⟩
   ·simp
    refine⟨by simp[hba],Dz 11 ?_⟩
    simp
    refine⟨by omega,by unfold maxLen;omega,fun gb hgb hab hbb=>⟨by simp[hba,hbb,hab],?_⟩⟩
    refine Dz 13 ?_
    simp
    refine⟨by simp[hba,hbb,hab],Dy ?_⟩
    simp[Str.c]
    have nga:ga≠g:=fun e=>by rw[e,hb] at hba;cases hba
    have ngb:gb≠g:=fun e=>by rw[e,hb] at hbb;cases hbb
    have fa:=aQ hsb hba
    have fb:=aQ hsb hbb
    have er:List.replicate s.ms.length [V.int IntKind.i64 0]=part (iv (dK s j)) [.int .i64 0] 0:=by simp
    have er':List.replicate s.ms.length [V.int IntKind.i64 0]=part (iv (dZ s j)) [.int .i64 0] 0:=by simp
    refine aI (fun k:Nat=> [(0,.ptr s.c),(3,.lsl g 1 0 (2*i)),(5,.int .i64 j),(6,.lsl ga 1 0 s.ms.length),(7,.lsl gb 1 0 s.ms.length),(13,.sl (iv (aO s.js))),(14,.int .i64 (aO s.js).length),(15,.int .i64 i),(34,.sl (mv s.ms)),(35,.int .i64 s.ms.length),(36,.int .i64 k)])
     (fun k=>upd (upd b ga (some ⟨1,part (iv (dK s j)) [.int .i64 0] k⟩)) gb (some ⟨1,part (iv (dZ s j)) [.int .i64 0] k⟩)) (fun k=>k≤s.ms.length) (fun k=>s.ms.length - k) 82 0 (Nat.zero_le _) ⟨rfl,by simp[Str.c],?_⟩ ?_
    ·intro x y hx
     simp only[aA,tL,iU,lG,kU] at hx ⊢
     grind
    intro k hk
    refine aC ?_
    simp
    refine⟨fun hkl=> ?_,fun hkl=> ?_⟩
    ·have hv:=Fb hs (List.getElem_mem hkl)
     have hm:mat s (k:Int)=s.ms[k]:=uZ hkl
     have yA:=sN s k hs (by omega) (by omega)
     rw[hm] at yA
     have hx:k<(iv (dK s j)).length:=by simpa using hkl
     have hy:k<(iv (dZ s j)).length:=by simpa using hkl
     have w1:IntKind.i64.wrap ((k:Int)+1)=k+1:=i64_in (by omega) (by omega)
     have nx:IntKind.i64.wrap (-vx s s.ms[k])= -vx s s.ms[k]:=i64_in (by omega) (by omega)
     have ny:IntKind.i64.wrap (-vy s s.ms[k])= -vy s s.ms[k]:=i64_in (by omega) (by omega)
     have px:=fC (iv (dK s j)) [.int .i64 0] k hx
     have py:=fC (iv (dZ s j)) [.int .i64 0] k hy
     simp[hkl,Mb.c]
     intro g9 hg9 h9b h9a hb9
     refine aE yA ?_
     simp
     refine⟨fun e1=> ?_,fun e1=> ?_⟩
     ·simp[hab,Ne.symm hab,h9a,h9b,Ne.symm h9a,Ne.symm h9b,hkl,px,py,w1,aB]
      have sx:=cP (iv (dK s j)) [.int .i64 0] k hx [.int .i64 (vx s s.ms[k])] (by simp[dK,eqX,e1])
      have sy:=cP (iv (dZ s j)) [.int .i64 0] k hy [.int .i64 (vy s s.ms[k])] (by simp[dZ,eqY,e1])
      refine⟨k+1,by omega,by omega,rfl,by simp,?_⟩
      intro x y hx'
      rw[←sx,←sy] at hx'
      simp only[aA] at hx' ⊢
      grind
     ·simp[hab,Ne.symm hab,h9a,h9b,Ne.symm h9a,Ne.symm h9b,hkl,px,py,w1,nx,ny,aB]
      refine⟨fun e2=> ?_,fun e2=> ?_⟩
      ·have fx:eqX s j s.ms[k]= -vx s s.ms[k]:=by rw[eqX,if_neg e1,if_pos e2]
       have fy:eqY s j s.ms[k]= -vy s s.ms[k]:=by rw[eqY,if_neg e1,if_pos e2]
       have sx:=cP (iv (dK s j)) [.int .i64 0] k hx [.int .i64 (-vx s s.ms[k])] (by simp[dK,fx])
       have sy:=cP (iv (dZ s j)) [.int .i64 0] k hy [.int .i64 (-vy s s.ms[k])] (by simp[dZ,fy])
       refine⟨k+1,by omega,by omega,rfl,by simp,?_⟩
       intro x y hx'
       rw[←sx,←sy] at hx'
       simp only[aA] at hx' ⊢
       grind
      ·have sx:=jT (iv (dK s j)) [.int .i64 0] k hx (by simp[dK,eqX,e1,e2])
       have sy:=jT (iv (dZ s j)) [.int .i64 0] k hy (by simp[dZ,eqY,e1,e2])
       refine⟨k+1,by omega,by omega,rfl,by simp,?_⟩
       intro x y hx'
       rw[←sx,←sy] at hx'
       simp only[aA] at hx' ⊢
       grind
    ·have:k=s.ms.length:=by omega
     subst this
     rw[gK _ _ _ (by simp),gK _ _ _ (by simp)]
     intro gp hgp hpb hpa hbp
     have npg:gp≠g:=fun e=>by rw[e,hb] at hbp;cases hbp
     have er2:List.range 2= [0,1]:=rfl
     simp[er2,appV,elsV,Int.not_lt.2 hgp,hpb,hpa,Ne.symm hpb,Ne.symm hpa,nga,ngb,Ne.symm nga,Ne.symm ngb,npg,Ne.symm npg,hb,hel]
     refine⟨by omega,fun gn hgn hbn=> ?_⟩
     have w9:IntKind.i64.wrap ((i:Int)+1)=i+1:=i64_in (by omega) (by omega)
     rw[aB]
     subst hj
     have nx:=qQ ⟨hi,hb,hel,ho,hn,hg,hf,hsb,cL⟩ h hga hba hgb hab hbb hpa hpb hbp hgn hbn
     refine⟨_,nx,by simp only;omega,rfl,?_,sub_eq rfl⟩
     simp[w9];exact⟨rfl,by omega⟩
  ·simp
   refine⟨by omega,by unfold maxLen;omega,fun gb hgb hbb=>⟨by simp[hbb],?_⟩⟩
   refine Dz 5 ?_
   simp
   refine⟨by omega,by unfold maxLen;omega,fun ga hga hab hba=>⟨by simp[hba,hbb,hab],?_⟩⟩
   refine Dz 12 ?_
   simp
   refine⟨by simp[hba,hbb,hab],Dz 13 ?_⟩
   simp
   refine⟨by simp[hba,hbb,hab],Dy ?_⟩
   simp[Str.c]
   have nga:ga≠g:=fun e=>by rw[e,hb] at hba;cases hba
   have ngb:gb≠g:=fun e=>by rw[e,hb] at hbb;cases hbb
   have fa:=aQ hsb hba
   have fb:=aQ hsb hbb
   have er:List.replicate s.ms.length [V.int IntKind.i64 0]=part (iv (dK s j)) [.int .i64 0] 0:=by simp
   have er':List.replicate s.ms.length [V.int IntKind.i64 0]=part (iv (dZ s j)) [.int .i64 0] 0:=by simp
   refine aI (fun k:Nat=> [(0,.ptr s.c),(3,.lsl g 1 0 (2*i)),(5,.int .i64 j),(6,.lsl ga 1 0 s.ms.length),(7,.lsl gb 1 0 s.ms.length),(13,.sl (iv (aO s.js))),(14,.int .i64 (aO s.js).length),(15,.int .i64 i),(34,.sl (mv s.ms)),(35,.int .i64 s.ms.length),(36,.int .i64 k)])
    (fun k=>upd (upd b ga (some ⟨1,part (iv (dK s j)) [.int .i64 0] k⟩)) gb (some ⟨1,part (iv (dZ s j)) [.int .i64 0] k⟩)) (fun k=>k≤s.ms.length) (fun k=>s.ms.length - k) 82 0 (Nat.zero_le _) ⟨rfl,by simp[Str.c],?_⟩ ?_
   ·intro x y hx
    simp only[aA,tL,iU,lG,kU] at hx ⊢
    grind
   intro k hk
   refine aC ?_
   simp
   refine⟨fun hkl=> ?_,fun hkl=> ?_⟩
   ·have hv:=Fb hs (List.getElem_mem hkl)
    have hm:mat s (k:Int)=s.ms[k]:=uZ hkl
    have yA:=sN s k hs (by omega) (by omega)
    rw[hm] at yA
    have hx:k<(iv (dK s j)).length:=by simpa using hkl
    have hy:k<(iv (dZ s j)).length:=by simpa using hkl
    have w1:IntKind.i64.wrap ((k:Int)+1)=k+1:=i64_in (by omega) (by omega)
    have nx:IntKind.i64.wrap (-vx s s.ms[k])= -vx s s.ms[k]:=i64_in (by omega) (by omega)
    have ny:IntKind.i64.wrap (-vy s s.ms[k])= -vy s s.ms[k]:=i64_in (by omega) (by omega)
    have px:=fC (iv (dK s j)) [.int .i64 0] k hx
    have py:=fC (iv (dZ s j)) [.int .i64 0] k hy
    simp[hkl,Mb.c]
    intro g9 hg9 h9b h9a hb9
    refine aE yA ?_
    simp
    refine⟨fun e1=> ?_,fun e1=> ?_⟩
    ·simp[hab,Ne.symm hab,h9a,h9b,Ne.symm h9a,Ne.symm h9b,hkl,px,py,w1,aB]
     have sx:=cP (iv (dK s j)) [.int .i64 0] k hx [.int .i64 (vx s s.ms[k])] (by simp[dK,eqX,e1])
     have sy:=cP (iv (dZ s j)) [.int .i64 0] k hy [.int .i64 (vy s s.ms[k])] (by simp[dZ,eqY,e1])
     refine⟨k+1,by omega,by omega,rfl,by simp,?_⟩
     intro x y hx'
     rw[←sx,←sy] at hx'
     simp only[aA] at hx' ⊢
     grind
    ·simp[hab,Ne.symm hab,h9a,h9b,Ne.symm h9a,Ne.symm h9b,hkl,px,py,w1,nx,ny,aB]
     refine⟨fun e2=> ?_,fun e2=> ?_⟩
     ·have fx:eqX s j s.ms[k]= -vx s s.ms[k]:=by rw[eqX,if_neg e1,if_pos e2]
      have fy:eqY s j s.ms[k]= -vy s s.ms[k]:=by rw[eqY,if_neg e1,if_pos e2]
      have sx:=cP (iv (dK s j)) [.int .i64 0] k hx [.int .i64 (-vx s s.ms[k])] (by simp[dK,fx])
      have sy:=cP (iv (dZ s j)) [.int .i64 0] k hy [.int .i64 (-vy s s.ms[k])] (by simp[dZ,fy])
      refine⟨k+1,by omega,by omega,rfl,by simp,?_⟩
      intro x y hx'
      rw[←sx,←sy] at hx'
      simp only[aA] at hx' ⊢
      grind
     ·have sx:=jT (iv (dK s j)) [.int .i64 0] k hx (by simp[dK,eqX,e1,e2])
      have sy:=jT (iv (dZ s j)) [.int .i64 0] k hy (by simp[dZ,eqY,e1,e2])
      refine⟨k+1,by omega,by omega,rfl,by simp,?_⟩
      intro x y hx'
      rw[←sx,←sy] at hx'
      simp only[aA] at hx' ⊢
      grind
   ·have:k=s.ms.length:=by omega
    subst this
    rw[gK _ _ _ (by simp),gK _ _ _ (by simp)]
    intro gp hgp hpb hpa hbp
    have npg:gp≠g:=fun e=>by rw[e,hb] at hbp;cases hbp
    have er2:List.range 2= [0,1]:=rfl
    simp[er2,appV,elsV,Int.not_lt.2 hgp,hpb,hpa,Ne.symm hpb,Ne.symm hpa,nga,ngb,Ne.symm nga,Ne.symm ngb,npg,Ne.symm npg,hb,hel]
    refine⟨by omega,fun gn hgn hbn=> ?_⟩
    have w9:IntKind.i64.wrap ((i:Int)+1)=i+1:=i64_in (by omega) (by omega)
    rw[aB]
    subst hj
    have nx:=qQ ⟨hi,hb,hel,ho,hn,hg,hf,hsb,cL⟩ h hga hba hgb (Ne.symm hab) hbb hpa hpb hbp hgn hbn
    refine⟨_,nx,by simp only;omega,rfl,?_,sub_eq rfl⟩
    simp[w9];exact⟨rfl,by omega⟩
 ·have:i=(aO s.js).length:=by omega
  subst this
  refine kJ [.lsl g 1 0 (2*(aO s.js).length)] (g::gs) (by simp) ?_ ?_ hsb
  ·unfold dII
   rw[OwnD]
   have e:cA s=sS s (aO s.js).length:=by simp[sS,cA]
   refine .inr ⟨g,els,gs,by rw[e,List.length_map,lC s _ (Nat.le_refl _)];rfl,rfl,hn,hb,cL,?_⟩
   rw[e];exact ho
  ·intro x hx
   rcases List.mem_cons.1 hx with rfl | hx
   ·exact hg
   ·exact hf x hx

def uF (m:Mb) (k:Nat):List (Int×Int):=(if m.kind=2 then [] else [((k:Int),1)])++(if m.kind=1 then [] else [((k:Int), -1)])
def aV (ms:List Mb) (n:Nat):List (Int×Int):=(List.range n).flatMap fun k=>uF (ms.getD k default) k
def aY (ms:List Mb):List (Int×Int):=aV ms ms.length
def cv (cs:List (Int×Int)):List (List V):=cs.map fun p=> [.int .i64 p.1,.int .i64 p.2]
theorem lE (ms:List Mb) (n:Nat):aV ms (n+1)=aV ms n++uF (ms.getD n default) n:=by
 unfold aV
 rw[List.range_succ,List.flatMap_append];simp
theorem Mw (m:Mb) (k:Nat):(uF m k).length≤2:=by
 unfold uF;split<;>split<;>simp
theorem jU (ms:List Mb): ∀n,(aV ms n).length≤2*n
 | 0 => by simp [aV]
 | n + 1 => by
   rw[lE,List.length_append]
   have:=jU ms n
   have:=Mw (ms.getD n default) n
   omega
theorem oM (a b:List (Int×Int)):cv (a++b)=cv a++cv b:=by simp[cv]
@[simp] theorem Cy (a : List (Int × Int)) : (cv a).length = a.length := by simp [cv]
theorem qC (a:List (Int×Int)):(cv a).take a.length=cv a:=by rw[←Cy a,List.take_length]
theorem aCN (a:List (Int×Int)):(cv a).all (fun e=>e.all V.cl)=true:=by simp[cv,V.cl]
theorem Ma (a:List (Int×Int)): ∀r,r∈cv a→r.length=2:=by
 intro r hr
 obtain⟨n,_,rfl⟩:=List.mem_map.1 hr
 rfl
theorem Wt {bl:Int→Option Blk} {ns:List (Int×Int)} {v:V} {gs:List Int} :OwnD bl (fl 2 (cv ns)) v gs ↔ (ns= []∧v= .nils∧gs= [])∨ ∃g,v= .lsl g 2 0 ns.length∧gs= [g]∧bl g=some ⟨2,cv ns⟩∧(g<0→ns= []):=by
 rw[I6 (aCN ns) (Ma ns)]
 simp[cv]
theorem W3 (s:Str) (hm:s.ms.length≤8):NW Tryz.prog 146 [.ptr s.c] (fl 2 (cv (aY s.ms))):=by
 refine lR Tryz.func146 rfl rfl (by rw[Tryz.ntmps146];simp) fun bl=> ?_
 rw[Tryz.ntmps146,Tryz.results146]
 refine aC ?_
 simp[Str.c]
 refine rJ 3 2 (by simp) fun g00 sA=> ?_
 refine aI (fun p:Nat×Int=> [(3,.lsl p.2 2 0 (aV s.ms p.1).length),(9,.sl (mv s.ms)),(10,.int .i64 s.ms.length),(11,.int .i64 p.1)]) (fun p=>upd bl p.2 (some ⟨2,cv (aV s.ms p.1)⟩)) (fun p=>p.1≤s.ms.length∧bl p.2=none∧(p.2<0→aV s.ms p.1= [])) (fun p=>s.ms.length - p.1) _ (0,g00) ⟨Nat.zero_le _,sA,fun _=>rfl⟩ ⟨rfl,by simp[aV],sub_eq (by simp[aV,cv])⟩ ?_
 rintro⟨i,g⟩ ⟨hi,hg,h0⟩
 simp only at hi hg h0
 have hl:=jU s.ms i
 refine aC ?_
 simp
 refine⟨fun h=> ?_,fun h=> ?_⟩
 ·have w1:IntKind.i64.wrap ((i:Int)+1)=i+1:=i64_in (by omega) (by omega)
  have hsc:=lE s.ms i
  rw[oW _ _ _ h] at hsc
  simp[h,Mb.c]
  intro g1 hg1 h1g hb1
  refine⟨fun hf=> ?_,fun hf=> ?_⟩
  ·intro g2 hg2 h21 h2g hb2
   simp[h1g,h21,h2g,Ne.symm h1g,Ne.symm h21,Ne.symm h2g,appV,elsV,Int.not_lt.2 hg2]
   refine⟨by omega,fun g3 hg3 hb3=> ?_⟩
   have h31:g3≠g1:=by grind
   have fK:bl g3=none:=by grind
   simp[h31,Ne.symm h31,h1g,h21,Ne.symm h1g,Ne.symm h21]
   refine⟨fun hf2=> ?_,fun hf2=> ?_⟩
   ·intro g4 hg4 h43 h42
    simp[h43,Ne.symm h43,h31,Ne.symm h31,appV,elsV,Int.not_lt.2 hg4]
    refine⟨by omega,fun g5 hg5 hb5=> ?_⟩
    have aNS:bl g5=none:=by grind
    have hb4:bl g4=none:=by grind
    have hs1:aV s.ms (i+1)=aV s.ms i++ [((i:Int),1)]++ [((i:Int), -1)]:=by rw[hsc,uF,if_neg hf,if_neg hf2,List.append_assoc]
    simp[w1,aB]
    refine⟨i+1,g5,⟨by omega,aNS,by omega⟩,by omega,rfl,by simp[hs1],?_⟩
    rw[hs1,oM,oM]
    exact cX (by rw[qC,List.take_of_length_le (by simp)];rfl) (by simp[hg,hb1,hb2,fK,hb4,h1g,h21,h2g])
   ·have hs1:aV s.ms (i+1)=aV s.ms i++ [((i:Int),1)]:=by rw[hsc,uF,if_neg hf,if_pos hf2,List.append_nil]
    simp[w1,aB]
    refine⟨i+1,g3,⟨by omega,fK,by omega⟩,by omega,rfl,by simp[hs1],?_⟩
    rw[hs1,oM]
    exact cX (by rw[qC];rfl) (by simp[hg,hb1,hb2,h1g,h21,h2g])
  ·refine⟨fun hf2=> ?_,fun hf2=> ?_⟩
   ·intro g2 hg2 h21 h2g hb2
    simp[h1g,h21,h2g,Ne.symm h1g,Ne.symm h21,Ne.symm h2g,appV,elsV,Int.not_lt.2 hg2]
    refine⟨by omega,fun g3 hg3 hb3=> ?_⟩
    have fK:bl g3=none:=by grind
    have hs1:aV s.ms (i+1)=aV s.ms i++ [((i:Int), -1)]:=by rw[hsc,uF,if_pos hf,if_neg hf2,List.nil_append]
    simp[w1,aB]
    refine⟨i+1,g3,⟨by omega,fK,by omega⟩,by omega,rfl,by simp[hs1],?_⟩
    rw[hs1,oM]
    exact cX (by rw[qC];rfl) (by simp[hg,hb1,hb2,h1g,h21,h2g])
   ·omega
 ·have hi:i=s.ms.length:=by omega
  subst hi
  refine kJ [.lsl g 2 0 (aV s.ms s.ms.length).length] [g] (by simp) ?_ (by simpa using hg) (by simp[hg])
  refine Wt.2 (.inr ⟨g,rfl,rfl,by simp[aY],h0⟩)
theorem tJ (a b:Int):iv [a,b]= [[.int .i64 a],[.int .i64 b]]:=rfl
theorem jA (a:Int):iv [a]= [[.int .i64 a]]:=rfl
def who (s:Str):List Int:=(aY s.ms).map (·.1)
def sgn (s:Str):List Int:=(aY s.ms).map (·.2)
def dWS (s:Str):D:= .t [fl 1 (iv (who s)),fl 1 (iv (sgn s))]
structure Two where
 i:Nat
 g:Int
 h:Int
 b:Int→Option Blk
def Je (bl:Int→Option Blk) (A B:Nat→List Int) (n:Nat) (p:Two):Prop:=
 p.i≤n∧p.g≠p.h∧p.b p.g=some ⟨1,iv (A p.i)⟩∧p.b p.h=some ⟨1,iv (B p.i)⟩∧bl p.g=none∧bl p.h=none∧Sub bl p.b∧(p.g<0→A p.i= [])∧(p.h<0→B p.i= [])
set_option maxHeartbeats 1000000 in
theorem zT (s:Str) (hm:s.ms.length≤8):NW Tryz.prog 192 [.agg s.c] (dWS s):=by
 refine lR Tryz.func192 rfl rfl (by rw[Tryz.ntmps192];simp) fun bl=> ?_
 rw[Tryz.ntmps192,Tryz.results192]
 refine aC ?_
 simp[Str.c]
 intro gs Vf hgs ga aEJ zI Al gb aQD Ng aBE aBI
 simp[zI,Ne.symm zI,Ng,Ne.symm Ng,aBE,Ne.symm aBE]
 refine aI (fun p:Two=> [(4,.lsl p.g 1 0 (aV s.ms p.i).length),(5,.lsl p.h 1 0 (aV s.ms p.i).length),(11,.sl (mv s.ms)),(12,.int .i64 s.ms.length),(13,.int .i64 p.i)]) (fun p=>p.b) (Je bl (fun n=>(aV s.ms n).map (·.1)) (fun n=>(aV s.ms n).map (·.2)) s.ms.length) (fun p=>s.ms.length - p.i) 41 ⟨0,ga,gb,upd (upd (upd bl gs (some ⟨2,[[.sl (jv s.js),.sl (mv s.ms)]]⟩)) ga (some ⟨1,[]⟩)) gb (some ⟨1,[]⟩)⟩ ⟨Nat.zero_le _,Ne.symm Ng,by simp[Ne.symm Ng,aV,iv],by simp[aV,iv],Al,aBI,by simp[hgs,Al,aBI],fun _=>rfl,fun _=>rfl⟩ ⟨rfl,by simp[aV],sub_eq (by simp)⟩ ?_
 rintro⟨i,g,h',b⟩ ⟨hi,hgh,hbg,hbh,hg,hh,hsb,h0,h1⟩
 simp only at hi hgh hbg hbh hg hh hsb h0 h1
 have hl:=jU s.ms i
 have fr: ∀x,b x=none→bl x=none:=fun x hx=>aQ hsb hx
 refine aC ?_
 simp
 refine⟨fun h=> ?_,fun h=> ?_⟩
 ·have w1:IntKind.i64.wrap ((i:Int)+1)=i+1:=i64_in (by omega) (by omega)
  have hsc:=lE s.ms i
  rw[oW _ _ _ h] at hsc
  have tkA:List.take (aV s.ms i).length (iv ((aV s.ms i).map (·.1)))=iv ((aV s.ms i).map (·.1)):=List.take_of_length_le (by simp)
  have Fo: ∀x:List V,List.take ((aV s.ms i).length+1) (iv ((aV s.ms i).map (·.1))++ [x])=iv ((aV s.ms i).map (·.1))++ [x]:=fun x=>List.take_of_length_le (by simp)
  have Ff: ∀x:List V,List.take ((aV s.ms i).length+1) (iv ((aV s.ms i).map (·.2))++ [x])=iv ((aV s.ms i).map (·.2))++ [x]:=fun x=>List.take_of_length_le (by simp)
  have tkB:List.take (aV s.ms i).length (iv ((aV s.ms i).map (·.2)))=iv ((aV s.ms i).map (·.2)):=List.take_of_length_le (by simp)
  simp[h,Mb.c]
  intro g1 hg1 hb1
  have n1g:g1≠g:=fun e=>by rw[e,hbg] at hb1;cases hb1
  have n1h:g1≠h':=fun e=>by rw[e,hbh] at hb1;cases hb1
  refine⟨fun hf=> ?_,fun hf=> ?_⟩
  ·intro g2 hg2 h21 hb2
   have n2g:g2≠g:=fun e=>by rw[e,hbg] at hb2;cases hb2
   have n2h:g2≠h':=fun e=>by rw[e,hbh] at hb2;cases hb2
   simp[hbg,n1g,h21,n2g,Ne.symm n1g,Ne.symm h21,Ne.symm n2g,appV,elsV,Int.not_lt.2 hg2]
   refine⟨by omega,fun g3 hg3 hb3=> ?_⟩
   have n31:g3≠g1:=by grind
   have n3h:g3≠h':=by grind
   simp[n31,Ne.symm n31,n3h,Ne.symm n3h]
   intro g4 hg4 h43 hb4
   have n41:g4≠g1:=by grind
   have n4h:g4≠h':=by grind
   simp[hgh,Ne.symm hgh,hbh,n1h,Ne.symm n1h,n2h,Ne.symm n2h,n31,Ne.symm n31,n3h,Ne.symm n3h,n41,Ne.symm n41,n4h,Ne.symm n4h,h43,Ne.symm h43,appV,elsV,Int.not_lt.2 hg4]
   refine⟨by omega,fun g5 hg5 hb5=> ?_⟩
   have n51:g5≠g1:=by grind
   have n53:g5≠g3:=by grind
   simp[hgh,Ne.symm hgh,n1h,Ne.symm n1h,n31,Ne.symm n31,n51,Ne.symm n51,n41,Ne.symm n41,h21,Ne.symm h21,n1g,Ne.symm n1g]
   refine⟨fun hf2=> ?_,fun hf2=> ?_⟩
   ·intro g6 hg6 n65 hb6
    have n61:g6≠g1:=by grind
    have n63:g6≠g3:=by grind
    simp[n3h,Ne.symm n3h,n1g,Ne.symm n1g,n31,Ne.symm n31,hgh,Ne.symm hgh,n65,Ne.symm n65,n61,Ne.symm n61,n63,Ne.symm n63,n53,Ne.symm n53,h43,Ne.symm h43,appV,elsV,Int.not_lt.2 hg6,tkA,tkB]
    refine⟨by omega,fun g7 hg7 hb7=> ?_⟩
    have n71:g7≠g1:=by grind
    have n75:g7≠g5:=by grind
    simp[n71,Ne.symm n71,n75,Ne.symm n75]
    intro g8 hg8 n87 hb8
    have n81:g8≠g1:=by grind
    have n85:g8≠g5:=by grind
    simp[n71,Ne.symm n71,n75,Ne.symm n75,n81,Ne.symm n81,n85,Ne.symm n85,n87,Ne.symm n87,n65,Ne.symm n65,n53,Ne.symm n53,appV,elsV,Int.not_lt.2 hg8,tkA,tkB]
    refine⟨by omega,fun g9 hg9 hb9=> ?_⟩
    have n91:g9≠g1:=by grind
    have n97:g9≠g7:=by grind
    have e1:aV s.ms (i+1)=aV s.ms i++ [((i:Int),1)]++ [((i:Int), -1)]:=by rw[hsc,uF,if_neg hf,if_neg hf2,List.append_assoc]
    simp[w1,aB]
    refine⟨⟨i+1,g7,g9,_⟩,⟨by simp only;omega,by simp only;grind,?_,?_,by simp only;grind,by simp only;grind,?_,fun e=>by simp only at e;omega,fun e=>by simp only at e;omega⟩,by simp only;omega,rfl,by simp[e1],sub_eq rfl⟩
    ·simp[hgh,Ne.symm hgh,n1h,Ne.symm n1h,n31,Ne.symm n31,n51,Ne.symm n51,n53,Ne.symm n53,n41,Ne.symm n41,h43,Ne.symm h43,n71,Ne.symm n71,n75,Ne.symm n75,n61,Ne.symm n61,n63,Ne.symm n63,n81,n87,n85,Ne.symm n81,Ne.symm n85,Ne.symm n87,n91,n97,Ne.symm n91,Ne.symm n97,n3h,Ne.symm n3h,n4h,Ne.symm n4h,e1,aT,jA,tJ,tkA,tkB,Fo,Ff]
    ·simp[hgh,Ne.symm hgh,n1h,Ne.symm n1h,n31,Ne.symm n31,n51,Ne.symm n51,n53,Ne.symm n53,n41,Ne.symm n41,h43,Ne.symm h43,n71,Ne.symm n71,n75,Ne.symm n75,n61,Ne.symm n61,n63,Ne.symm n63,n81,n87,n85,Ne.symm n81,Ne.symm n85,Ne.symm n87,n91,n97,Ne.symm n91,Ne.symm n97,n3h,Ne.symm n3h,n4h,Ne.symm n4h,e1,aT,jA,tJ,tkA,tkB,Fo,Ff]
    ·intro x y hx
     have hbx:=hsb x y hx
     have ng:x≠g:=fun e=>by rw[e,hg] at hx;cases hx
     have nh:x≠h':=fun e=>by rw[e,hh] at hx;cases hx
     simp[aA,aF]
     grind
   ·skip
    have e1:aV s.ms (i+1)=aV s.ms i++ [((i:Int),1)]:=by rw[hsc,uF,if_neg hf,if_pos hf2,List.append_nil]
    simp[w1,aB]
    refine⟨⟨i+1,g3,g5,_⟩,⟨by simp only;omega,by simp only;grind,?_,?_,by simp only;grind,by simp only;grind,?_,fun e=>by simp only at e;omega,fun e=>by simp only at e;omega⟩,by simp only;omega,rfl,by simp[e1],sub_eq rfl⟩
    ·simp[hgh,Ne.symm hgh,n1h,Ne.symm n1h,n31,Ne.symm n31,n51,Ne.symm n51,n53,Ne.symm n53,n41,Ne.symm n41,h43,Ne.symm h43,n3h,Ne.symm n3h,n4h,Ne.symm n4h,e1,aT,jA,tJ,tkA,tkB,Fo,Ff]
    ·simp[hgh,Ne.symm hgh,n1h,Ne.symm n1h,n31,Ne.symm n31,n51,Ne.symm n51,n53,Ne.symm n53,n41,Ne.symm n41,h43,Ne.symm h43,n3h,Ne.symm n3h,n4h,Ne.symm n4h,e1,aT,jA,tJ,tkA,tkB,Fo,Ff]
    ·intro x y hx
     have hbx:=hsb x y hx
     have ng:x≠g:=fun e=>by rw[e,hg] at hx;cases hx
     have nh:x≠h':=fun e=>by rw[e,hh] at hx;cases hx
     simp[aA,aF]
     grind
  ·refine⟨fun hf2=> ?_,fun hf2=> ?_⟩
   ·intro g2 hg2 h21 hb2
    have n2g:g2≠g:=fun e=>by rw[e,hbg] at hb2;cases hb2
    have n2h:g2≠h':=fun e=>by rw[e,hbh] at hb2;cases hb2
    simp[hbg,n1g,h21,n2g,Ne.symm n1g,Ne.symm h21,Ne.symm n2g,appV,elsV,Int.not_lt.2 hg2]
    refine⟨by omega,fun g3 hg3 hb3=> ?_⟩
    have n31:g3≠g1:=by grind
    have n3h:g3≠h':=by grind
    simp[n31,Ne.symm n31,n3h,Ne.symm n3h]
    intro g4 hg4 h43 hb4
    have n41:g4≠g1:=by grind
    have n4h:g4≠h':=by grind
    simp[hgh,Ne.symm hgh,hbh,n1h,Ne.symm n1h,n2h,Ne.symm n2h,n31,Ne.symm n31,n3h,Ne.symm n3h,n41,Ne.symm n41,n4h,Ne.symm n4h,h43,Ne.symm h43,appV,elsV,Int.not_lt.2 hg4]
    refine⟨by omega,fun g5 hg5 hb5=> ?_⟩
    have n51:g5≠g1:=by grind
    have n53:g5≠g3:=by grind
    have e1:aV s.ms (i+1)=aV s.ms i++ [((i:Int), -1)]:=by rw[hsc,uF,if_pos hf,if_neg hf2,List.nil_append]
    simp[w1,aB]
    refine⟨⟨i+1,g3,g5,_⟩,⟨by simp only;omega,by simp only;grind,?_,?_,by simp only;grind,by simp only;grind,?_,fun e=>by simp only at e;omega,fun e=>by simp only at e;omega⟩,by simp only;omega,rfl,by simp[e1],sub_eq rfl⟩
    ·simp[hgh,Ne.symm hgh,n1h,Ne.symm n1h,n31,Ne.symm n31,n51,Ne.symm n51,n53,Ne.symm n53,n41,Ne.symm n41,h43,Ne.symm h43,n3h,Ne.symm n3h,n4h,Ne.symm n4h,e1,aT,jA,tJ,tkA,tkB,Fo,Ff]
    ·simp[hgh,Ne.symm hgh,n1h,Ne.symm n1h,n31,Ne.symm n31,n51,Ne.symm n51,n53,Ne.symm n53,n41,Ne.symm n41,h43,Ne.symm h43,n3h,Ne.symm n3h,n4h,Ne.symm n4h,e1,aT,jA,tJ,tkA,tkB,Fo,Ff]
    ·intro x y hx
     have hbx:=hsb x y hx
     have ng:x≠g:=fun e=>by rw[e,hg] at hx;cases hx
     have nh:x≠h':=fun e=>by rw[e,hh] at hx;cases hx
     simp[aA,aF]
     grind
   ·omega
 ·have hi:i=s.ms.length:=by omega
  subst hi
  refine kJ [.lsl g 1 0 (aV s.ms s.ms.length).length,.lsl h' 1 0 (aV s.ms s.ms.length).length] [g,h'] (by simp) ?_ (by simp[hg,hh]) hsb
  unfold dWS
  rw[OwnD]
  exact⟨_,rfl,vO.2 ⟨_,_,[g],[h'],rfl,rfl,by simpa using hgh,eJ.2 (.inr ⟨g,by simp[who,aY],rfl,hbg,h0⟩),eJ.2 (.inr ⟨h',by simp[sgn,aY],rfl,hbh,h1⟩)⟩⟩
theorem pS (s:Str) (hm:s.ms.length≤8):RO Tryz.prog 192 [.agg s.c] (.tup [.sl (iv (who s)),.sl (iv (sgn s))]):=by
 have:=gU 2 (zT s hm) (by simp[dWS,D.dep,D.depL,mX])
 simpa [dWS,D.fz,D.fzL] using this
theorem Z7 (s:Str) (hm:s.ms.length≤8):RO Tryz.prog 146 [.ptr s.c] (.sl (cv (aY s.ms))):=by
 have:=gU 1 (W3 s hm) (mX _ _ 0)
 simpa using this
end Go.Proofs.YticmgmemnpcbbaaGreat.Vm

namespace Go.Proofs.YticmgmemnpcbbaaGreat.Vm
open Go Go.RowKit
set_option linter.unusedVariables false
section
variable {P : Program} {ops : Array Oper} {w0 : World} {M F : Nat → Prop} {a : Act} {w : World}
def late (tl:Nat→Bool) (l:Array Bool) (i:Nat):Bool:=tl i || (List.range l.size).any fun k=>tl k && l.getD k false
def DL (P:Program) (ops:Array Oper) (blK:Int→Option Blk) (tl:Nat→Bool) (K:St→Prop):Nat→Array Bool→St→Prop
 | 0, l, σ => Region.ready .any ops l = [] ∧ K σ
 | fuel + 1, l, σ => (Region.ready .any ops l = [] → K σ) ∧ ∀ i ∈ Region.ready .any ops l, D1 P ops i (fun σ' => (late tl l i = false → Sub blK σ'.bl) ∧ DL P ops blK tl K fuel (l.setIfInBounds i true) σ') σ
theorem P9 {blK:Int→Option Blk} {tl:Nat→Bool} {K:St→Prop} {Q:Exit→Act→World→Prop} {F0:Nat→Prop} (hQ: ∀σ F a w,(∀b,F0 b→F b)→Sim w0 M F σ a w→K σ→Q .normal a w):
  ∀(fuel:Nat) (l:Array Bool) (σ:St) (F:Nat→Prop) (a:Act) (w:World),(∀b,F0 b→F b)→DL P ops blK tl K fuel l σ→Sim w0 M F σ a w→wpAny P .any ops Q fuel l a w
 | 0, l, σ, F, a, w, hF, h, hs => ⟨h.1, hQ σ F a w hF hs h.2⟩
 | fuel + 1, l, σ, F, a, w, hF, h, hs => ⟨fun h0 => hQ σ F a w hF hs (h.1 h0), fun i hi => L4 (h.2 i hi) hs fun σ' F' a' w' hF' hs' hk => P9 hQ fuel _ σ' F' a' w' (fun b hb => hF' b (hF b hb)) hk.2 hs'⟩
theorem L9 {id:Nat} {K:Ex→St→Prop} {σ:St} (hm:P.follows .mixedOrders=true) (blK:Int→Option Blk) {tl:Nat→Bool} (h:DL P ops blK tl (K .normal) ops.size (Array.replicate ops.size false) σ):AW P (.region id ops true) K σ:=by
 intro w0 M F a w hs
 refine wp_region_any hm (P9 (F0:=F) (w0:=w0) (M:=M) (fun σ' F' a' w' hF' hs' hK=>⟨.normal,σ',F',rfl,hF',hs',hK⟩) _ _ σ F a _ (fun _ h=>h) h ?_)
 have hsh:eS w { w with drawn:=w.drawn+1 } :=fun b c t f hc=>⟨c,f,hc,rfl⟩
 refine⟨⟨hs.mem.os,hs.mem.tape,hs.mem.output,hs.mem.size,hs.mem.frame,hs.mem.iX,hs.mem.fr,hs.mem.fin,hs.mem.own,fun g b hb=> ?_⟩,hs.size,fun t ht=> ?_,hs.defers⟩
 ·have hh: ∀b,F b→({ w with drawn:=w.drawn+1 } :World).heap[b]? =w.heap[b]? :=fun _ _=>rfl
  have hg:0≤g→({ w with drawn:=w.drawn+1 } :World).heap[g.toNat]? =w.heap[g.toNat]? :=fun _=>rfl
  refine cY.mono (fun _ h=>h) (fun h0 hFg=> ?_) hh hsh hg (hs.mem.blk g b hb)
  have:=hs.mem.blk g b hb
  unfold cY at this
  rw[if_neg (by omega)] at this
  exact this.1 hFg
 ·have hh: ∀b,F b→({ w with drawn:=w.drawn+1 } :World).heap[b]? =w.heap[b]? :=fun _ _=>rfl
  exact Rep.mono (fun _ h=>h) hh hsh (hs.sl t ht)
theorem P5 {blK:Int→Option Blk} {tl:Nat→Bool} {K:St→Prop} {i:Nat} {oi:Oper} {v:V} (hi:ops[i]? =some oi) (hti:tl i=false) (hT: ∀j oj,tl j=true→ops[j]? =some oj→ ∃e∈oj.after,Region.binds .any e=true∧e.on=i): ∀(fuel:Nat) (l:Array Bool) (σ:St),
  (∀j oj,ops[j]? =some oj→j≠i→l.getD j true=false→(∀e∈oj.after,Region.binds .any e=true→e.on≠i)→oi.apart ops oj=true)→(∀k,tl k=true→l.getD k false=false)→
  i∈Region.ready .any ops l→Sub blK σ.bl→DY P ops blK oi σ v→DL P ops blK tl K fuel (l.setIfInBounds i true) (σ.put oi.dst v)→DL P ops blK tl K (fuel+1) l σ:=by
 have hbl: ∀(σ:St),(σ.put oi.dst v).bl=σ.bl:=fun σ=>by cases oi.dst<;>rfl
 intro fuel
 induction fuel with
 | zero =>
   intro l σ _ hN hr hs hy H
   refine⟨fun h=>(by rw[h] at hr;cases hr),fun j hj=> ?_⟩
   by_cases hji:j=i
   ·subst hji;exact hy.step hi hs ⟨fun _=>by rw[hbl];exact hs,H⟩
   ·have:=ready_mono hj hji
    rw[H.1] at this
    cases this
 | succ fuel ih =>
   intro l σ tN hN hr hs hy H
   refine⟨fun h=>(by rw[h] at hr;cases hr),fun j hj=> ?_⟩
   by_cases hji:j=i
   ·subst hji;exact hy.step hi hs ⟨fun _=>by rw[hbl];exact hs,H⟩
   ·have h1:=H.2 j (ready_mono hj hji)
    obtain⟨J2,oj,hoj,bO⟩:=mem_ready.1 hj
    have V6: ∀e∈oj.after,Region.binds .any e=true→e.on≠i:=fun e he hb heq=>by
     have h1:=bO e he hb
     have h0:=(mem_ready.1 hr).1
     rw[heq] at h1
     rcases Nat.lt_or_ge i l.size with h' | h'
     ·simp[h'] at h0 h1;rw[h0] at h1;cases h1
     ·simp[Array.getElem?_eq_none h'] at h1
    have h2:=DY.put hoj (tN j oj hoj hji J2 V6) hy h1
    have wM: ∀k ok,ops[k]? =some ok→k≠i→(l.setIfInBounds j true).getD k true=false→
      (∀e∈ok.after,Region.binds .any e=true→e.on≠i)→oi.apart ops ok=true:=fun k ok hk hki hun hno=>by
     refine tN k ok hk hki ?_ hno
     by_cases hjk:j=k
     ·subst hjk;exact J2
     ·rw[getD_set_ne true hjk] at hun;exact hun
    refine E7 h2 fun σ' ⟨h3,h4,h5⟩=> ?_
    have htj:tl j=false:=by
     cases htl:tl j with
     | false => rfl
     | true =>
       obtain⟨e,he,hb,hon⟩:=hT j oj htl hoj
       exact absurd hon (V6 e he hb)
    have aGY:late tl (l.setIfInBounds i true) j=false:=by
     unfold late
     rw[htj,Bool.false_or,List.any_eq_false]
     intro k _ hk
     simp only[Bool.and_eq_true] at hk
     by_cases hki:i=k
     ·subst hki;rw[hti] at hk;cases hk.1
     ·rw[getD_set_ne false hki,hN k hk.1] at hk;cases hk.2
    have hN': ∀k,tl k=true→(l.setIfInBounds j true).getD k false=false:=fun k hk=>by
     by_cases hkj:j=k
     ·subst hkj;rw[htj] at hk;cases hk
     ·rw[getD_set_ne false hkj];exact hN k hk
    have h4:=h4 aGY
    rw[hbl] at h4
    refine⟨fun _=>h4,ih (l.setIfInBounds j true) σ' wM hN' (ready_mono hr (Ne.symm hji)) h4 h3 ?_⟩
    rw[Array.setIfInBounds_comm _ _ hji]
    exact h5
theorem U2 {blK:Int→Option Blk} {tl:Nat→Bool} {K:St→Prop} (fuel:Nat): ∀(is:List Nat) (l:Array Bool) (σ:St),(∀i,i∈is→tl i=false)→(∀k,tl k=true→l.getD k false=false)→(∀i,i∈is→ ∀j oj,tl j=true→ops[j]? =some oj→ ∃e∈oj.after,Region.binds .any e=true∧e.on=i)→hoistB ops is l=true→Sub blK σ.bl→
  Hoist P ops blK is (DL P ops blK tl K fuel (iW is l)) σ→DL P ops blK tl K (fuel+is.length) l σ
 | [], l, σ, _, _, _, _, _, h => h
 | i :: is, l, σ, hI, hN, hT, hB, hs, h => by
   simp only[hoistB,Bool.and_eq_true] at hB
   obtain⟨⟨hr,hf⟩,hB'⟩:=hB
   unfold Hoist at h
   split at h
   ·rename_i o ho
    obtain⟨v,hy,hK⟩:=h
    have:fuel+(i::is).length=(fuel+is.length)+1:=by simp;omega
    rw[this]
    refine P5 ho (hI i List.mem_cons_self) (hT i List.mem_cons_self) _ _ _ (Region.free_spec ho hf) hN (by simpa using hr) hs hy (U2 fuel is _ _ (fun i hi=>hI i (List.mem_cons_of_mem _ hi)) (fun k hk=> ?_) (fun i hi=>hT i (List.mem_cons_of_mem _ hi)) hB' ?_ hK)
    ·by_cases hki:i=k
     ·subst hki;rw[hI i List.mem_cons_self] at hk;cases hk
     ·rw[getD_set_ne false hki];exact hN k hk
    cases o.dst<;>exact hs
   ·exact h.elim
end
theorem Ct {P:Program} {id:Nat} {ops:Array Oper} {K:Ex→St→Prop} {σ:St} (hm:P.follows .mixedOrders=true) (blK:Int→Option Blk) (hs:Sub blK σ.bl) (is:List Nat) (fuel n:Nat) (hn:(ops.size==fuel+is.length && is.all (fun i=>decide (i<ops.size))&& hoistB ops is (Array.replicate ops.size false)&& Bt ops (fun j=>decide (n≤j)) is && is.all (fun i=>decide (i<n)))=true)
  (h:HoistF P (ops.toList.map (·.dst)) blK (is.filterMap fun i=>ops[i]?) (DL P ops blK (fun j=>decide (n≤j)) (K .normal) fuel (iW is (Array.replicate ops.size false))) σ):AW P (.region id ops true) K σ:=by
 simp only[Bool.and_eq_true,beq_iff_eq] at hn
 refine L9 hm blK (tl:=fun j=>decide (n≤j)) ?_
 have:=U2 (P:=P) (ops:=ops) (blK:=blK) (tl:=fun j=>decide (n≤j)) (K:=K .normal) fuel is (Array.replicate ops.size false) σ
  (fun i hi=>by have:=List.all_eq_true.1 hn.2 i hi;simp at this ⊢;exact this) (fun k _=>by
    rw[Array.getD_eq_getD_getElem?,Array.getElem?_replicate];split<;>rfl) (qL hn.1.2) hn.1.1.2 hs (kF _ is σ (filter_some is hn.1.1.1.2) h)
 rw[←hn.1.1.1.1] at this
 exact this
section
variable {P : Program} {ops : Array Oper} {blK : Int → Option Blk} {tl : Nat → Bool} {K : St → Prop} {fuel : Nat} {l : Array Bool} {σ : St}
theorem Mc (hr:Region.ready .any ops l= []) (h:K σ):DL P ops blK tl K fuel l σ:=by
 cases fuel with
 | zero => exact ⟨hr, h⟩
 | succ n => exact ⟨fun _ => h, fun i hi => by rw [hr] at hi; cases hi⟩
theorem C6 {i:Nat} {o:Oper} {e:Bool} (ho:ops[i]? =some o) (hg:o.guard=none) (he:late tl l i=e) (h:T P o (fun σ'=>(e=false→Sub blK σ'.bl)∧DL P ops blK tl K fuel (l.setIfInBounds i true) σ') σ):
  D1 P ops i (fun σ'=>(late tl l i=false→Sub blK σ'.bl)∧DL P ops blK tl K fuel (l.setIfInBounds i true) σ') σ:=by
 subst he;unfold D1;rw[ho];simp only[hg];exact h
theorem Vb {i:Nat} {o:Oper} (e:Bool) (hr:Region.ready .any ops l= [i]) (ho:ops[i]? =some o) (hg:o.guard=none) (he:late tl l i=e) (h:T P o (fun σ'=>(e=false→Sub blK σ'.bl)∧DL P ops blK tl K fuel (l.setIfInBounds i true) σ') σ):DL P ops blK tl K (fuel+1) l σ:=by
 refine⟨fun h0=>(by rw[hr] at h0;cases h0),fun k hk=> ?_⟩
 rw[hr] at hk
 obtain rfl:k=i:=by simpa using hk
 exact C6 ho hg he h
theorem Wi {i j:Nat} {o p:Oper} (e f:Bool) (hr:Region.ready .any ops l= [i,j]) (ho:ops[i]? =some o) (hg:o.guard=none) (he:late tl l i=e) (ho':ops[j]? =some p) (hg':p.guard=none) (he':late tl l j=f)
  (h:T P o (fun σ'=>(e=false→Sub blK σ'.bl)∧DL P ops blK tl K fuel (l.setIfInBounds i true) σ') σ)
  (h':T P p (fun σ'=>(f=false→Sub blK σ'.bl)∧DL P ops blK tl K fuel (l.setIfInBounds j true) σ') σ):DL P ops blK tl K (fuel+1) l σ:=by
 refine⟨fun h0=>(by rw[hr] at h0;cases h0),fun k hk=> ?_⟩
 rw[hr] at hk
 rcases List.mem_cons.1 hk with rfl | hk
 ·exact C6 ho hg he h
 ·obtain rfl:k=j:=by simpa using hk
  exact C6 ho' hg' he' h'
theorem qZ {i j m:Nat} {o p q:Oper} (e f g:Bool) (hr:Region.ready .any ops l= [i,j,m]) (ho:ops[i]? =some o) (hg:o.guard=none) (he:late tl l i=e) (ho':ops[j]? =some p) (hg':p.guard=none) (he':late tl l j=f) (ho2:ops[m]? =some q) (hg2:q.guard=none) (he2:late tl l m=g)
  (h:T P o (fun σ'=>(e=false→Sub blK σ'.bl)∧DL P ops blK tl K fuel (l.setIfInBounds i true) σ') σ)
  (h':T P p (fun σ'=>(f=false→Sub blK σ'.bl)∧DL P ops blK tl K fuel (l.setIfInBounds j true) σ') σ)
  (h2:T P q (fun σ'=>(g=false→Sub blK σ'.bl)∧DL P ops blK tl K fuel (l.setIfInBounds m true) σ') σ):DL P ops blK tl K (fuel+1) l σ:=by
 refine⟨fun h0=>(by rw[hr] at h0;cases h0),fun k hk=> ?_⟩
 rw[hr] at hk
 rcases List.mem_cons.1 hk with rfl | hk
 ·exact C6 ho hg he h
 ·rcases List.mem_cons.1 hk with rfl | hk
  ·exact C6 ho' hg' he' h'
  ·obtain rfl:k=m:=by simpa using hk
   exact C6 ho2 hg2 he2 h2
end
def Oy (P:Program) (y:Code) (K:Ex→St→Prop) (e:Ex) (σ:St):Prop:=match e with | .normal=>AW P y K σ | .exit i=>K (.exit i) σ | .ret=>K .ret σ
@[simp] theorem Pr (P : Program) (y : Code) (K : Ex → St → Prop) (σ : St) : Oy P y K .normal σ = AW P y K σ := rfl
@[simp] theorem aAE (P : Program) (y : Code) (K : Ex → St → Prop) (i : Nat) (σ : St) : Oy P y K (.exit i) σ = K (.exit i) σ := rfl
@[simp] theorem aHF (P : Program) (y : Code) (K : Ex → St → Prop) (σ : St) : Oy P y K .ret σ = K .ret σ := rfl
theorem aD {P:Program} {x y:Code} {K:Ex→St→Prop} {σ:St} (h:runC P x (Oy P y K) σ):AW P (.seq x y) K σ:=by
 refine aM ((aC h).mono fun e σ' h'=> ?_)
 cases e with
 | normal => exact h'
 | exit i => exact h'
 | ret => exact h'
def Vz {α:Type} (S:α→List (Nat×V)) (B:α→Int→Option Blk) (I:α→Prop) (n:Nat) (e:Ex) (σ:St):Prop:=e= .normal∧ ∃a,I a∧Fit (S a) n (B a) σ
theorem aH {α:Type} (S:α→List (Nat×V)) (B:α→Int→Option Blk) (I:α→Prop) (n:Nat) (σ:St):Vz S B I n .normal σ= ∃a,I a∧Fit (S a) n (B a) σ:=by simp[Vz]
theorem fH {α:Type} {P:Program} {x y:Code} {K:Ex→St→Prop} {σ:St} (S:α→List (Nat×V)) (B:α→Int→Option Blk) (I:α→Prop) (n:Nat) (h1:AW P x (Vz S B I n) σ)
  (h2: ∀a,I a→AW P y K ⟨n,hv (S a),B a⟩):AW P (.seq x y) K σ:=by
 refine aM (h1.mono fun e σ' ⟨he,a,hI,hf⟩=> ?_)
 subst he
 exact dI _ _ _ hf (h2 a hI)
section
variable (P : Program) (ds : List (Option Tmp)) (blK : Int → Option Blk) (rest : List Oper) (K : St → Prop) (σ : St) (d : Option Tmp) (ty : TypeId) (pos : String) (af : Array Edge)
@[simp high] theorem Lv (f : Operand) (args : Array Operand) (ats : Array TypeId) : HoistF P ds blK (⟨d, .call ⟨.value f, args, ats⟩, ty, pos, af, none⟩ :: rest) K σ = hcQ P ds blK rest K σ d (callV σ f args.toList) := (rfl)
@[simp high] theorem Nm (x : Operand) (t : TypeId) : HoistF P ds blK (⟨d, .call ⟨.builtin .len, #[x], #[t]⟩, ty, pos, af, none⟩ :: rest) K σ = hoQ P ds blK rest K σ d (lenV P t (σ.ev x)) := (rfl)
@[simp high] theorem Lu (c a b : Operand) : HoistF P ds blK (⟨d, .pick c a b, ty, pos, af, none⟩ :: rest) K σ = hoQ P ds blK rest K σ d (qval P blK σ (.pick c a b)) := (rfl)
@[simp high] theorem Lt (t : TypeId) (x : Operand) : HoistF P ds blK (⟨d, .load t x, ty, pos, af, none⟩ :: rest) K σ = hoQ P ds blK rest K σ d (qval P blK σ (.load t x)) := (rfl)
@[simp high] theorem Bb (x : Operand) : HoistF P ds blK (⟨d, .nilCheck x, ty, pos, af, none⟩ :: rest) K σ = hoQ P ds blK rest K σ d (Ar (σ.ev x)) := (rfl)
@[simp high] theorem Hc (op : BinOp) (t : TypeId) (x y : Operand) (t' : TypeId) : HoistF P ds blK (⟨d, .binOp op t x y t', ty, pos, af, none⟩ :: rest) K σ = hoQ P ds blK rest K σ d (binV P op t (σ.ev x) (σ.ev y)) := (rfl)
@[simp high] theorem Ls (op : UnOp) (t : TypeId) (x : Operand) : HoistF P ds blK (⟨d, .unOp op t x, ty, pos, af, none⟩ :: rest) K σ = hoQ P ds blK rest K σ d (unV op (σ.ev x)) := (rfl)
@[simp high] theorem Da (s t : TypeId) (x : Operand) : HoistF P ds blK (⟨d, .convert s t x, ty, pos, af, none⟩ :: rest) K σ = hoQ P ds blK rest K σ d (cvtV P blK s t (σ.ev x)) := (rfl)
@[simp high] theorem Gb (t : TypeId) (x : Operand) (lo hi : Option Operand) : HoistF P ds blK (⟨d, .slice t x lo hi none, ty, pos, af, none⟩ :: rest) K σ = hoQ P ds blK rest K σ d (sliV P t (σ.ev x) (lo.map σ.ev) (hi.map σ.ev)) := (rfl)
@[simp high] theorem Z1 (t : TypeId) (x : Operand) (i : Nat) : HoistF P ds blK (⟨d, .fieldAddr t x i, ty, pos, af, none⟩ :: rest) K σ = hoQ P ds blK rest K σ d (fldV P t i (σ.ev x)) := (rfl)
@[simp high] theorem La (t : TypeId) (x : Operand) (i : Nat) : HoistF P ds blK (⟨d, .field t x i, ty, pos, af, none⟩ :: rest) K σ = hoQ P ds blK rest K σ d (fieldV P t i (σ.ev x)) := (rfl)
@[simp high] theorem W9 (t : TypeId) (x i : Operand) : HoistF P ds blK (⟨d, .indexAddr t x i, ty, pos, af, none⟩ :: rest) K σ = hoQ P ds blK rest K σ d (idxV P t (σ.ev x) (σ.ev i)) := (rfl)
@[simp high] theorem Ib (t : TypeId) (x i : Operand) : HoistF P ds blK (⟨d, .index t x i, ty, pos, af, none⟩ :: rest) K σ = hoQ P ds blK rest K σ d (idsV P t (σ.ev x) (σ.ev i)) := (rfl)
@[simp high] theorem Ed (x : Operand) (i : Nat) : HoistF P ds blK (⟨d, .extract x i, ty, pos, af, none⟩ :: rest) K σ = hoQ P ds blK rest K σ d (extV i (σ.ev x)) := (rfl)
end
def hgQ (P:Program) (ds:List (Option Tmp)) (blK:Int→Option Blk) (rest:List Oper) (K:St→Prop) (σ:St) (d:Option Tmp) (op:Op) (b:Bool) (v:V):Prop:=match v with
 | .bool q => if q = b then bD (qval P blK σ op) fun v => HoistF P ds blK rest K (σ.put d v) else HoistF P ds blK rest K (σ.put d (.tup []))
 | .tup [] => HoistF P ds blK rest K (σ.put d (.tup []))
 | _ => False
def hgS (P:Program) (ds:List (Option Tmp)) (blK:Int→Option Blk) (rest:List Oper) (K:St→Prop) (σ:St) (d:Option Tmp) (op:Op) (b:Bool) (x:Option (Option Tmp)):Prop:=match x with
 | some (some t) => hgQ P ds blK rest K σ d op b (σ.ev (.tmp t))
 | _ => False
section
variable (P : Program) (ds : List (Option Tmp)) (blK : Int → Option Blk) (rest : List Oper) (K : St → Prop) (σ : St) (d : Option Tmp) (op : Op) (ty : TypeId) (pos : String) (af : Array Edge) (b : Bool)
@[simp] theorem Na (j : Nat) : HoistF P ds blK (⟨d, op, ty, pos, af, some (j, b)⟩ :: rest) K σ = hgS P ds blK rest K σ d op b (ds[j]?) := (rfl)
@[simp] theorem aF0 (t : Tmp) : hgS P ds blK rest K σ d op b (some (some t)) = hgQ P ds blK rest K σ d op b (σ.ev (.tmp t)) := (rfl)
@[simp] theorem aMS : hgQ P ds blK rest K σ d op true (.bool true) = hoQ P ds blK rest K σ d (qval P blK σ op) := by simp [hgQ, hoQ]
@[simp] theorem aMW : hgQ P ds blK rest K σ d op false (.bool false) = hoQ P ds blK rest K σ d (qval P blK σ op) := by simp [hgQ, hoQ]
@[simp] theorem aN4 : hgQ P ds blK rest K σ d op true (.bool false) = HoistF P ds blK rest K (σ.put d (.tup [])) := by simp [hgQ]
@[simp] theorem aLW : hgQ P ds blK rest K σ d op false (.bool true) = HoistF P ds blK rest K (σ.put d (.tup [])) := by simp [hgQ]
@[simp] theorem aH0 : hgQ P ds blK rest K σ d op b (.tup []) = HoistF P ds blK rest K (σ.put d (.tup [])) := (rfl)
end
theorem mE {P:Program} {ds:List (Option Tmp)} {blK:Int→Option Blk} {K:St→Prop} (S:List (Option Tmp)) (σ0:St): ∀(l:List Oper) (σ:St),HoistF P ds blK l K σ→(∀o,o∈l→o.dst∈S)→(σ.n=σ0.n∧ ∀t,some t∉S→σ.sl t=σ0.sl t)→
  HoistF P ds blK l (fun σ'=>K σ'∧σ'.n=σ0.n∧ ∀t,some t∉S→σ'.sl t=σ0.sl t) σ
 | [], σ, h, _, h0 => ⟨h, h0⟩
 | o :: rest, σ, h, hS, h0 => by
   have next: ∀v,HoistF P ds blK rest K (σ.put o.dst v)→HoistF P ds blK rest (fun σ'=>K σ'∧σ'.n=σ0.n∧ ∀t,some t∉S→σ'.sl t=σ0.sl t) (σ.put o.dst v):=fun v hv=>
    mE S σ0 rest _ hv (fun o' ho'=>hS o' (List.mem_cons_of_mem _ ho')) (by
     have hd:=hS o List.mem_cons_self
     cases hod:o.dst with
     | none => exact h0
     | some d =>
       rw[hod] at hd
       exact⟨h0.1,fun t ht=>by
        show upd σ.sl d v t=_
        rw[aG _ _ _ _ (fun e=>ht (by rw[e];exact hd))];exact h0.2 t ht⟩)
   unfold HoistF at h ⊢
   cases hg:o.guard with
   | none=>
     simp only[hg] at h ⊢
     split at h
     ·obtain⟨p,h1,v,n,ys,h2,h3⟩:=h
      exact⟨p,h1,v,n,ys,h2,next v h3⟩
     ·obtain⟨v,h1,h2⟩:=h
      exact⟨v,h1,next v h2⟩
   | some jb=>
     obtain⟨j,b⟩:=jb
     simp only[hg] at h ⊢
     split at h
     ·rename_i d hd
      split at h
      ·split at h
       ·rename_i hq
        obtain⟨v,h1,h2⟩:=h
        rw[if_pos hq]
        exact⟨v,h1,next v h2⟩
       ·rename_i hq
        rw[if_neg hq]
        exact next _ h
      ·exact next _ h
      ·exact h.elim
     ·exact h.elim
theorem Bn {f:Nat→V} : ∀(l:List (Nat×V)),(∀p,p∈l→f p.1=p.2)→ ∀p,p∈l→hv l p.1=f p.1
 | [], _, p, hp => by cases hp
 | (u, y) :: r, h, p, hp => by
   unfold hv
   by_cases e:p.1=u
   ·rw[if_pos e,e];exact(h (u,y) List.mem_cons_self).symm
   ·rw[if_neg e]
    rcases List.mem_cons.1 hp with rfl | hp
    ·exact absurd rfl e
    ·exact Bn r (fun q hq=>h q (List.mem_cons_of_mem _ hq)) p hp
theorem sE {P:Program} {id:Nat} {ops:Array Oper} {K:Ex→St→Prop} {σ:St} (hm:P.follows .mixedOrders=true) (hB:yG ops=true) (l:List (Nat×V)) (n:Nat) (bl:Int→Option Blk) (t:Nat) (v:V) (hf:Fit l n bl σ) (hd:(l.all fun p=> !(ops.toList.map (·.dst)).contains (some p.1))=true)
  (h1:HoistF P (ops.toList.map (·.dst)) bl ops.toList (fun σ'=>σ'.sl t=v∧σ'.bl=bl) ⟨n,hv l,bl⟩) (h2:K .normal ⟨n,hv ((t,v)::l),bl⟩):AW P (.region id ops true) K σ:=by
 refine dI l n bl hf ?_
 have hq:AW P (.region id ops true) (fun e σ'=>e= .normal∧(σ'.sl t=v∧σ'.bl=bl)∧σ'.n=n∧ ∀u,some u∉ops.toList.map (·.dst)→σ'.sl u=hv l u) ⟨n,hv l,bl⟩:=by
  refine cN hm hB ?_
  have:=mE (ops.toList.map (·.dst)) ⟨n,hv l,bl⟩ ops.toList ⟨n,hv l,bl⟩ h1 (fun o ho=>List.mem_map_of_mem ho) ⟨rfl,fun _ _=>rfl⟩
  simpa using this
 intro w0 M F a w hs
 refine wp_mono (hq w0 M F a w hs) fun e a' w' hp=> ?_
 obtain⟨ex,σ',F',e1,e2,e3,rfl,⟨k1,k2⟩,k3,k4⟩:=hp
 refine⟨.normal,⟨n,hv ((t,v)::l),bl⟩,F',e1,e2,e3.le ?_,h2⟩
 refine D0 ⟨k3,fun p hp=> ?_,by rw[k2];exact Sub.refl _⟩
 rcases List.mem_cons.1 hp with rfl | hp
 ·exact k1
 ·have:=List.all_eq_true.1 hd p hp
  have h5:some p.1∉ops.toList.map (·.dst):=by
   intro hc
   rw[Bool.not_eq_true'] at this
   have h6:=List.contains_iff_mem.2 hc
   rw[this] at h6;cases h6
  rw[k4 _ h5,Bn l hf.2.1 p hp,hf.2.1 p hp]
theorem Ox {P:Program} {id:Nat} {ops:Array Oper} {K:Ex→St→Prop} {σ:St} (l:List (Nat×V)) (n:Nat) (bl:Int→Option Blk) (t:Nat) (v:V) (hf:Fit l n bl σ) (hd:(l.all fun p=> !(ops.toList.map (·.dst)).contains (some p.1))=true)
  (h1:OpsF P (ops.toList.map (·.dst)) ops.toList (fun σ'=>σ'.sl t=v∧Sub bl σ'.bl) ⟨n,hv l,bl⟩) (h2:K .normal ⟨n,hv ((t,v)::l),bl⟩):AW P (.region id ops false) K σ:=by
 refine dI l n bl hf ?_
 have hq:AW P (.region id ops false) (fun e σ'=>e= .normal∧(σ'.sl t=v∧Sub bl σ'.bl)∧σ'.n=n∧ ∀u,some u∉ops.toList.map (·.dst)→σ'.sl u=hv l u) ⟨n,hv l,bl⟩:=by
  refine sM ?_
  exact Q1 _ (A2 _ (vR h1)) fun σ' h=>⟨rfl,h⟩
 intro w0 M F a w hs
 refine wp_mono (hq w0 M F a w hs) fun e a' w' hp=> ?_
 obtain⟨ex,σ',F',e1,e2,e3,rfl,⟨k1,k2⟩,k3,k4⟩:=hp
 refine⟨.normal,⟨n,hv ((t,v)::l),bl⟩,F',e1,e2,e3.le ?_,h2⟩
 refine D0 ⟨k3,fun p hp=> ?_,k2⟩
 rcases List.mem_cons.1 hp with rfl | hp
 ·exact k1
 ·have:=List.all_eq_true.1 hd p hp
  have h5:some p.1∉ops.toList.map (·.dst):=by
   intro hc
   rw[Bool.not_eq_true'] at this
   have h6:=List.contains_iff_mem.2 hc
   rw[this] at h6;cases h6
  rw[k4 _ h5,Bn l hf.2.1 p hp,hf.2.1 p hp]
theorem kM {P:Program} {f:FuncId} {xs ys:List V} {bl bl2:Int→Option Blk} {k:V→(Int→Option Blk)→Prop} (n:Nat) (hs:Sub bl2 bl) (hx:frzL (dropB bl bl2) n xs=some ys) (h:cO P f ys bl2 k):cO P f xs bl k:=by
 refine⟨h.1,fun w0 M F w vs hm bY=> ?_⟩
 have hlen:=wP hx
 have L7:Pn (fun k=>F k∨Own (dropB bl bl2) k) w ys vs:=by
  refine⟨by rw[bY.1,hlen.1],fun i y hy=> ?_⟩
  obtain⟨x,h1,h2⟩:=hlen.2 i y hy
  exact oY (fun g b hb=>sX hm g b hb) (fun g b hb h0=> .inr ⟨g,b,hb,h0,rfl⟩) (fun b hb=> .inl hb) n x y _ (bY.2 i x h1) h2
 exact(h.2 w0 M _ w vs (hm.freeze hs) L7).mono fun e w' ⟨v,r,bl',F',h1,h2,h3,h4,h5,h6,h7⟩=>⟨v,r,bl',F',h1,fun b hb=>h2 b (.inl hb),fun b hb=>h3 b (.inl hb),h4,h5,h6,h7⟩
theorem fV {P:Program} {f:FuncId} {xs:List V} {bl:Int→Option Blk} {r:V} {k:V→(Int→Option Blk)→Prop} (n:Nat) (bl2:Int→Option Blk) (ys:List V) (hs:Sub bl2 bl) (hx:frzL (dropB bl bl2) n xs=some ys) (h:RO P f ys r) (hk:k r bl2):cO P f xs bl k:=
 kM n hs hx (aE h hk)
theorem bA {P:Program} {id:Nat} {ops:Array Oper} {K:Ex→St→Prop} {σ:St} (hm:P.follows .mixedOrders=true) (blK:Int→Option Blk) (hs:Sub blK σ.bl) (is:List Nat) (fuel:Nat) (hn:(ops.size==fuel+is.length && is.all (fun i=>decide (i<ops.size))&& hoistB ops is (Array.replicate ops.size false))=true)
  (h:HoistF P (ops.toList.map (·.dst)) blK (is.filterMap fun i=>ops[i]?) (kH P ops blK (fun _=>false) (K .normal) fuel (iW is (Array.replicate ops.size false))) σ):AW P (.region id ops true) K σ:=by
 simp only[Bool.and_eq_true,beq_iff_eq] at hn
 exact lO hm is fuel blK hs hn.1.1 hn.2 (tl:=fun _=>false) (fun _ _ _ _ h=>by cases h) (kF _ is σ (filter_some is hn.1.2) h)
section
variable {P : Program} {ops : Array Oper} {blK : Int → Option Blk} {tl : Nat → Bool} {K : St → Prop} {fuel : Nat} {l : Array Bool} {σ : St}
theorem Dq (i:Nat) {o:Oper} (e:Bool) (h:T P o (fun σ'=>(e=false→Sub blK σ'.bl)∧DL P ops blK tl K fuel (l.setIfInBounds i true) σ') σ) (hr:Region.ready .any ops l= [i]:=by kernel_rfl) (ho:ops[i]? =some o:=by exact rfl) (hg:o.guard=none:=by exact rfl) (he:late tl l i=e:=by kernel_rfl):DL P ops blK tl K (fuel+1) l σ:=Vb e hr ho hg he h
end
section
variable {P : Program} {ops : Array Oper} {blK : Int → Option Blk} {tl : Nat → Bool} {K : St → Prop} {fuel : Nat} {l : Array Bool} {σ : St}
theorem Dw (i j:Nat) {o p:Oper} (e f:Bool) (h:T P o (fun σ'=>(e=false→Sub blK σ'.bl)∧DL P ops blK tl K fuel (l.setIfInBounds i true) σ') σ) (h':T P p (fun σ'=>(f=false→Sub blK σ'.bl)∧DL P ops blK tl K fuel (l.setIfInBounds j true) σ') σ) (hr:Region.ready .any ops l= [i,j]:=by kernel_rfl) (ho:ops[i]? =some o:=by exact rfl) (hg:o.guard=none:=by exact rfl) (he:late tl l i=e:=by kernel_rfl) (ho':ops[j]? =some p:=by exact rfl) (hg':p.guard=none:=by exact rfl) (he':late tl l j=f:=by kernel_rfl):DL P ops blK tl K (fuel+1) l σ:=Wi e f hr ho hg he ho' hg' he' h h'
end
section
variable {P : Program} {ops : Array Oper} {blK : Int → Option Blk} {tl : Nat → Bool} {K : St → Prop} {fuel : Nat} {l : Array Bool} {σ : St}
theorem Dd (h:K σ) (hr:Region.ready .any ops l= []:=by kernel_rfl):DL P ops blK tl K fuel l σ:=Mc hr h
end
end Go.Proofs.YticmgmemnpcbbaaGreat.Vm

namespace Go.Proofs.YticmgmemnpcbbaaGreat.Vm
open Go Go.Proofs
set_option linter.unusedSimpArgs false
set_option linter.unusedVariables false
def gD (s:Str) (n:Nat):List Int:=((aO s.js).take n).flatMap fun j=>dK s j++dZ s j
def fM (s:Str):List Int:=(aO s.js).flatMap fun j=>dK s j++dZ s j
theorem tS (s:Str) (n:Nat) (h:n<(aO s.js).length):gD s (n+1)=gD s n++dK s (aO s.js)[n]++dZ s (aO s.js)[n]:=by
 unfold gD
 rw[List.take_add_one,List.getElem?_eq_getElem h,List.flatMap_append];simp
theorem jF (s:Str): ∀n,n≤(aO s.js).length→(gD s n).length=2*s.ms.length*n
 | 0, _ => by simp [gD]
 | n + 1, h => by
   rw[tS s n (by omega),List.length_append,List.length_append,jF s n (by omega),lG,kU,Nat.mul_add];omega
structure Qm where
 i:Nat
 g:Int
 b:Int→Option Blk
def Gy (bl:Int→Option Blk) (s:Str) (gs:Int) (p:Qm):Prop:=
 p.i≤(aO s.js).length∧p.g≠gs∧p.b p.g=some ⟨1,iv (gD s p.i)⟩∧p.b gs=some ⟨2,[[.sl (jv s.js),.sl (mv s.ms)]]⟩∧bl p.g=none∧Sub bl p.b∧(p.g<0→gD s p.i= [])
def xTo (s:Str) (j:Int) (n:Nat):List Int:=(s.ms.take n).map (eqX s j)
def yTo (s:Str) (j:Int) (n:Nat):List Int:=(s.ms.take n).map (eqY s j)
theorem Gw (s:Str) (j:Int) (n:Nat) (h:n<s.ms.length):xTo s j (n+1)=xTo s j n++ [eqX s j s.ms[n]]:=by
 unfold xTo;rw[List.take_add_one,List.getElem?_eq_getElem h,List.map_append];rfl
theorem Hx (s:Str) (j:Int) (n:Nat) (h:n<s.ms.length):yTo s j (n+1)=yTo s j n++ [eqY s j s.ms[n]]:=by
 unfold yTo;rw[List.take_add_one,List.getElem?_eq_getElem h,List.map_append];rfl
theorem Og (s:Str) (j:Int):xTo s j s.ms.length=dK s j:=by simp[xTo,dK]
theorem Mv (s:Str) (j:Int):yTo s j s.ms.length=dZ s j:=by simp[yTo,dZ]
theorem Af (s:Str) (j:Int) (n:Nat) (h:n≤s.ms.length):(xTo s j n).length=n:=by simp[xTo];omega
theorem Y3 (s:Str) (j:Int) (n:Nat) (h:n≤s.ms.length):(yTo s j n).length=n:=by simp[yTo];omega
set_option maxHeartbeats 2000000 in
theorem Z8 (s:Str) (hs:SOk s):NW Tryz.prog 193 [.agg s.c] (fl 1 (iv (fM s))):=by
 have h6:=hs.nj
 have h8:=hs.nm
 have hfr:=gY s.js s.js.length
 change(aO s.js).length≤s.js.length at hfr
 refine lR Tryz.func193 rfl rfl (by rw[Tryz.ntmps193];simp) fun bl=> ?_
 rw[Tryz.ntmps193,Tryz.results193]
 refine aC ?_
 simp[Str.c]
 intro gs Vf hgs ga aEJ zI Al
 simp[Str.c,zI,Ne.symm zI]
 refine aE (qR s (by omega)) ?_
 simp
 refine aI (fun p:Qm=> [(1,.loc gs 2 0 0),(3,.lsl p.g 1 0 (2*s.ms.length*p.i)),(14,.sl (iv (aO s.js))),(15,.int .i64 (aO s.js).length),(16,.int .i64 p.i)]) (fun p=>p.b) (Gy bl s gs) (fun p=>(aO s.js).length - p.i) 78
  ⟨0,ga,upd (upd bl gs (some ⟨2,[[.sl (jv s.js),.sl (mv s.ms)]]⟩)) ga (some ⟨1,[]⟩)⟩ ⟨Nat.zero_le _,zI,by simp[gD,iv],by simp[Ne.symm zI],Al,by simp[hgs,Al],fun _=>rfl⟩ ⟨rfl,by simp,sub_eq (by simp[Str.c])⟩ ?_
 rintro⟨i,g,b⟩ ⟨hi,hgg,hbg,hbs,hg,hsb,h0⟩
 simp only at hi hgg hbg hbs hg hsb h0
 refine aC ?_
 simp
 refine⟨fun h=> ?_,fun h=> ?_⟩
 ·have q:=dC (aO s.js) i h
  simp[h]
  obtain⟨j,hj⟩: ∃j,(aO s.js)[i]=j:=⟨_,rfl⟩
  rw[hj]
  intro gx aHO hbx gy aNQ hyx hby
  have nxs:gx≠gs:=fun e=>by rw[e,hbs] at hbx;cases hbx
  have nys:gy≠gs:=fun e=>by rw[e,hbs] at hby;cases hby
  have nxg:gx≠g:=fun e=>by rw[e,hbg] at hbx;cases hbx
  have nyg:gy≠g:=fun e=>by rw[e,hbg] at hby;cases hby
  simp[nxs,Ne.symm nxs,nys,Ne.symm nys,hbs]
  refine aI (fun p:Two=> [(1,.loc gs 2 0 0),(3,.lsl g 1 0 (2*s.ms.length*i)),(5,.int .i64 j),(6,.lsl p.g 1 0 p.i),(7,.lsl p.h 1 0 p.i),(14,.sl (iv (aO s.js))),(15,.int .i64 (aO s.js).length),(16,.int .i64 i),(23,.sl (mv s.ms)),(24,.int .i64 s.ms.length),(25,.int .i64 p.i)])
   (fun p=>p.b) (fun p=>Je b (xTo s j) (yTo s j) s.ms.length p∧0≤p.g∧0≤p.h) (fun p=>s.ms.length - p.i) 78 ⟨0,gx,gy,upd (upd b gx (some ⟨1,[]⟩)) gy (some ⟨1,[]⟩)⟩ ⟨⟨Nat.zero_le _,Ne.symm hyx,by simp[Ne.symm hyx,xTo,iv],by simp[yTo,iv],hbx,hby,by simp[hbx,hby],fun _=>rfl,fun _=>rfl⟩,aHO,aNQ⟩ ⟨rfl,by simp,sub_eq (by simp)⟩ ?_
  rintro⟨k,x,y,c⟩ ⟨⟨hk,hxy,hcx,hcy,M8,S4,hsc,_,_⟩,hx0,hy0⟩
  simp only at hk hxy hcx hcy M8 S4 hsc hx0 hy0
  have hcs:=hsc _ _ hbs
  have hcg:=hsc _ _ hbg
  have fr: ∀x,c x=none→b x=none:=fun x hx=>aQ hsc hx
  have lx:=Af s j k hk
  have ly:=Y3 s j k hk
  have tkx:(iv (xTo s j k)).take k=iv (xTo s j k):=List.take_of_length_le (by simp[lx])
  have tky:(iv (yTo s j k)).take k=iv (yTo s j k):=List.take_of_length_le (by simp[ly])
  refine aC ?_
  simp
  refine⟨fun hkl=> ?_,fun hkl=> ?_⟩
  ·have hv:=Fb hs (List.getElem_mem hkl)
   have hm:mat s (k:Int)=s.ms[k]:=uZ hkl
   have yA:=H7 s k hs (by omega) (by omega)
   rw[hm] at yA
   have w1:IntKind.i64.wrap ((k:Int)+1)=k+1:=i64_in (by omega) (by omega)
   have nx:IntKind.i64.wrap (-vx s s.ms[k])= -vx s s.ms[k]:=i64_in (by omega) (by omega)
   have ny:IntKind.i64.wrap (-vy s s.ms[k])= -vy s s.ms[k]:=i64_in (by omega) (by omega)
   have sx:=Gw s j k hkl
   have sy:=Hx s j k hkl
   simp[hkl,Mb.c]
   intro g1 hg1 hb1
   have n1s:g1≠gs:=fun e=>by rw[e,hcs] at hb1;cases hb1
   have n1x:g1≠x:=fun e=>by rw[e,hcx] at hb1;cases hb1
   have n1y:g1≠y:=fun e=>by rw[e,hcy] at hb1;cases hb1
   simp[n1s,Ne.symm n1s,hcs]
   refine aE yA ?_
   simp
   refine⟨fun e1=> ?_,fun e1=>⟨fun e2=> ?_,fun e2=> ?_⟩⟩
   ·intro g2 hg2 h21 hb2
    have n2x:g2≠x:=fun e=>by rw[e,hcx] at hb2;cases hb2
    have n2y:g2≠y:=fun e=>by rw[e,hcy] at hb2;cases hb2
    simp[hcx,n1x,h21,n2x,Ne.symm n1x,Ne.symm h21,Ne.symm n2x,lx,tkx,nx,ny,appV,elsV,Int.not_lt.2 hg2]
    refine⟨by omega,fun g3 hg3 hb3=> ?_⟩
    have n31:g3≠g1:=by grind
    have n3y:g3≠y:=by grind
    simp[n31,Ne.symm n31,n3y,Ne.symm n3y,nx,ny]
    intro g4 hg4 h43 hb4
    have n41:g4≠g1:=by grind
    have n4y:g4≠y:=by grind
    simp[hxy,Ne.symm hxy,hcy,n1y,Ne.symm n1y,n2y,Ne.symm n2y,n31,Ne.symm n31,n3y,Ne.symm n3y,n41,Ne.symm n41,n4y,Ne.symm n4y,h43,Ne.symm h43,ly,tky,lx,tkx,nx,ny,appV,elsV,Int.not_lt.2 hg4]
    refine⟨by omega,fun g5 hg5 hb5=> ?_⟩
    have n51:g5≠g1:=by grind
    have n53:g5≠g3:=by grind
    have f1:eqX s j s.ms[k]=vx s s.ms[k]:=by rw[eqX,if_pos e1]
    have f2:eqY s j s.ms[k]=vy s s.ms[k]:=by rw[eqY,if_pos e1]
    rw[f1] at sx
    rw[f2] at sy
    simp[w1,aB]
    refine⟨⟨k+1,g3,g5,_⟩,⟨⟨by simp only;omega,by simp only;grind,?_,?_,by simp only;grind,by simp only;grind,?_,fun e=>by simp only at e;omega,fun e=>by simp only at e;omega⟩,hg3,hg5⟩,by simp only;omega,rfl,by simp,sub_eq rfl⟩
    ·simp[hxy,Ne.symm hxy,n31,Ne.symm n31,n51,Ne.symm n51,n53,Ne.symm n53,n41,Ne.symm n41,h43,Ne.symm h43,n3y,Ne.symm n3y,n4y,Ne.symm n4y,sx,aT,jA,tkx,tky]
    ·simp[hxy,Ne.symm hxy,n31,Ne.symm n31,n51,Ne.symm n51,n53,Ne.symm n53,n41,Ne.symm n41,h43,Ne.symm h43,n3y,Ne.symm n3y,n4y,Ne.symm n4y,sy,aT,jA,tkx,tky]
    ·intro u z hx
     have hbx:=hsc u z hx
     have ng:u≠x:=fun e=>by rw[e,M8] at hx;cases hx
     have nh:u≠y:=fun e=>by rw[e,S4] at hx;cases hx
     simp[aA,aF]
     grind
   ·intro g2 hg2 h21 hb2
    have n2x:g2≠x:=fun e=>by rw[e,hcx] at hb2;cases hb2
    have n2y:g2≠y:=fun e=>by rw[e,hcy] at hb2;cases hb2
    simp[hcx,n1x,h21,n2x,Ne.symm n1x,Ne.symm h21,Ne.symm n2x,lx,tkx,nx,ny,appV,elsV,Int.not_lt.2 hg2]
    refine⟨by omega,fun g3 hg3 hb3=> ?_⟩
    have n31:g3≠g1:=by grind
    have n3y:g3≠y:=by grind
    simp[n31,Ne.symm n31,n3y,Ne.symm n3y,nx,ny]
    intro g4 hg4 h43 hb4
    have n41:g4≠g1:=by grind
    have n4y:g4≠y:=by grind
    simp[hxy,Ne.symm hxy,hcy,n1y,Ne.symm n1y,n2y,Ne.symm n2y,n31,Ne.symm n31,n3y,Ne.symm n3y,n41,Ne.symm n41,n4y,Ne.symm n4y,h43,Ne.symm h43,ly,tky,lx,tkx,nx,ny,appV,elsV,Int.not_lt.2 hg4]
    refine⟨by omega,fun g5 hg5 hb5=> ?_⟩
    have n51:g5≠g1:=by grind
    have n53:g5≠g3:=by grind
    have f1:eqX s j s.ms[k]= -vx s s.ms[k]:=by rw[eqX,if_neg e1,if_pos e2]
    have f2:eqY s j s.ms[k]= -vy s s.ms[k]:=by rw[eqY,if_neg e1,if_pos e2]
    rw[f1] at sx
    rw[f2] at sy
    simp[w1,aB]
    refine⟨⟨k+1,g3,g5,_⟩,⟨⟨by simp only;omega,by simp only;grind,?_,?_,by simp only;grind,by simp only;grind,?_,fun e=>by simp only at e;omega,fun e=>by simp only at e;omega⟩,hg3,hg5⟩,by simp only;omega,rfl,by simp,sub_eq rfl⟩
    ·simp[hxy,Ne.symm hxy,n31,Ne.symm n31,n51,Ne.symm n51,n53,Ne.symm n53,n41,Ne.symm n41,h43,Ne.symm h43,n3y,Ne.symm n3y,n4y,Ne.symm n4y,sx,aT,jA,tkx,tky]
    ·simp[hxy,Ne.symm hxy,n31,Ne.symm n31,n51,Ne.symm n51,n53,Ne.symm n53,n41,Ne.symm n41,h43,Ne.symm h43,n3y,Ne.symm n3y,n4y,Ne.symm n4y,sy,aT,jA,tkx,tky]
    ·intro u z hx
     have hbx:=hsc u z hx
     have ng:u≠x:=fun e=>by rw[e,M8] at hx;cases hx
     have nh:u≠y:=fun e=>by rw[e,S4] at hx;cases hx
     simp[aA,aF]
     grind
   ·intro g2 hg2 h21 hb2
    have n2x:g2≠x:=fun e=>by rw[e,hcx] at hb2;cases hb2
    have n2y:g2≠y:=fun e=>by rw[e,hcy] at hb2;cases hb2
    simp[hcx,n1x,h21,n2x,Ne.symm n1x,Ne.symm h21,Ne.symm n2x,lx,tkx,nx,ny,appV,elsV,Int.not_lt.2 hg2]
    refine⟨by omega,fun g3 hg3 hb3=> ?_⟩
    have n31:g3≠g1:=by grind
    have n3y:g3≠y:=by grind
    simp[n31,Ne.symm n31,n3y,Ne.symm n3y,nx,ny]
    intro g4 hg4 h43 hb4
    have n41:g4≠g1:=by grind
    have n4y:g4≠y:=by grind
    simp[hxy,Ne.symm hxy,hcy,n1y,Ne.symm n1y,n2y,Ne.symm n2y,n31,Ne.symm n31,n3y,Ne.symm n3y,n41,Ne.symm n41,n4y,Ne.symm n4y,h43,Ne.symm h43,ly,tky,lx,tkx,nx,ny,appV,elsV,Int.not_lt.2 hg4]
    refine⟨by omega,fun g5 hg5 hb5=> ?_⟩
    have n51:g5≠g1:=by grind
    have n53:g5≠g3:=by grind
    have f1:eqX s j s.ms[k]=0:=by rw[eqX,if_neg e1,if_neg e2]
    have f2:eqY s j s.ms[k]=0:=by rw[eqY,if_neg e1,if_neg e2]
    rw[f1] at sx
    rw[f2] at sy
    simp[w1,aB]
    refine⟨⟨k+1,g3,g5,_⟩,⟨⟨by simp only;omega,by simp only;grind,?_,?_,by simp only;grind,by simp only;grind,?_,fun e=>by simp only at e;omega,fun e=>by simp only at e;omega⟩,hg3,hg5⟩,by simp only;omega,rfl,by simp,sub_eq rfl⟩
    ·simp[hxy,Ne.symm hxy,n31,Ne.symm n31,n51,Ne.symm n51,n53,Ne.symm n53,n41,Ne.symm n41,h43,Ne.symm h43,n3y,Ne.symm n3y,n4y,Ne.symm n4y,sx,aT,jA,tkx,tky]
    ·simp[hxy,Ne.symm hxy,n31,Ne.symm n31,n51,Ne.symm n51,n53,Ne.symm n53,n41,Ne.symm n41,h43,Ne.symm h43,n3y,Ne.symm n3y,n4y,Ne.symm n4y,sy,aT,jA,tkx,tky]
    ·intro u z hx
     have hbx:=hsc u z hx
     have ng:u≠x:=fun e=>by rw[e,M8] at hx;cases hx
     have nh:u≠y:=fun e=>by rw[e,S4] at hx;cases hx
     simp[aA,aF]
     grind
  ·have:k=s.ms.length:=by omega
   subst this
   rw[Og] at hcx
   rw[Mv] at hcy
   have aPY:x≠gs:=fun e=>by rw[e,hbs] at M8;cases M8
   have aPB:y≠gs:=fun e=>by rw[e,hbs] at S4;cases S4
   have Nr:x≠g:=fun e=>by rw[e,hbg] at M8;cases M8
   have Nh:y≠g:=fun e=>by rw[e,hbg] at S4;cases S4
   have lr:=jF s i (by omega)
   have tkr:(iv (gD s i)).take (2*s.ms.length*i)=iv (gD s i):=List.take_of_length_le (by simp[lr])
   have tkX:(iv (dK s j)).take s.ms.length=iv (dK s j):=List.take_of_length_le (by simp)
   have tkY:(iv (dZ s j)).take s.ms.length=iv (dZ s j):=List.take_of_length_le (by simp)
   have hi6:2*s.ms.length*i≤2*8*6:=Nat.mul_le_mul (by omega) (by omega)
   simp[hcg,hcx,hcy,Nr,Nh,Ne.symm Nr,Ne.symm Nh,Int.not_lt.2 hx0,Int.not_lt.2 hy0,appV,elsV,lr,tkr,tkX,tkY]
   refine⟨by omega,fun go hgo hbo=> ?_⟩
   have nos:go≠gs:=by grind
   have nox:go≠x:=by grind
   have noy:go≠y:=by grind
   simp[nox,noy,Ne.symm nox,Ne.symm noy,Nr,Nh,Ne.symm Nr,Ne.symm Nh,hcx,hcy,Int.not_lt.2 hx0,Int.not_lt.2 hy0,appV,elsV,lr,tkr,tkX,tkY]
   refine⟨by omega,fun gn hgn hbn=> ?_⟩
   have nns:gn≠gs:=by grind
   have w2:IntKind.i64.wrap ((i:Int)+1)=i+1:=i64_in (by omega) (by omega)
   subst hj
   have rs:=tS s i h
   have h1:bl go=none:=by
    by_cases e:go=g
    ·rw[e];exact hg
    ·exact aQ hsb (fr _ (hbo e))
   have h2:bl gn=none:=by
    by_cases e:gn=go
    ·rw[e];exact h1
    ·by_cases e2:gn=g
     ·rw[e2];exact hg
     ·exact aQ hsb (fr _ (by grind))
   simp[w2,aB]
   refine⟨⟨i+1,gn,_⟩,⟨by simp only;omega,nns,?_,?_,h2,?_,?_⟩,by simp only;omega,rfl,?_,sub_eq rfl⟩
   ·have tk2:(iv (gD s i)++iv (dK s (aO s.js)[i])).take (2*s.ms.length*i+s.ms.length)=iv (gD s i)++iv (dK s (aO s.js)[i]):=List.take_of_length_le (by simp[lr])
    simp[rs,aT,tk2]
   ·simp[Ne.symm nns,Ne.symm nos,Ne.symm hgg,hcs]
   ·intro u z hx
    have hbx:=hsc u z (hsb u z hx)
    have n1:u≠g:=fun e=>by rw[e,hg] at hx;cases hx
    have n2:u≠go:=fun e=>by rw[e,h1] at hx;cases hx
    have n3:u≠gn:=fun e=>by rw[e,h2] at hx;cases hx
    simp[n1,n2,n3,hbx]
   ·intro e
    simp only at e ⊢
    have ez:s.ms= []:=by
     rcases hgn with hn | ⟨_,hn⟩
     ·omega
     ·have:=congrArg List.length hn
      simpa using this
    have er:=lr
    rw[ez] at er
    rw[rs]
    simp[dK,dZ,ez] at er ⊢
    exact er
   ·simp[Nat.mul_add];omega
 ·have:i=(aO s.js).length:=by omega
  subst this
  refine kJ [.lsl g 1 0 (2*s.ms.length*(aO s.js).length)] [g] (by simp) ?_ (by simpa using hg) hsb
  have e:fM s=gD s (aO s.js).length:=by simp[fM,gD]
  refine eJ.2 (.inr ⟨g,?_,rfl,by rw[e];exact hbg,by rw[e];exact h0⟩)
  rw[e,jF s _ (Nat.le_refl _)];rfl
theorem Ab (s:Str) (hs:SOk s):RO Tryz.prog 193 [.agg s.c] (.sl (iv (fM s))):=by
 have:=gU 1 (Z8 s hs) (mX _ _ 0)
 simpa using this
def eX (s:Str) (l:List Int) (n:Nat):List Int:=((aO s.js).take n).flatMap fun j=> [-lat l (2*j).toNat, -lat l (2*j+1).toNat]
def right (s:Str) (l:List Int):List Int:=(aO s.js).flatMap fun j=> [-lat l (2*j).toNat, -lat l (2*j+1).toNat]
theorem rE (s:Str) (l:List Int) (n:Nat) (h:n<(aO s.js).length):eX s l (n+1)=eX s l n++ [-lat l (2*(aO s.js)[n]).toNat, -lat l (2*(aO s.js)[n]+1).toNat]:=by
 unfold eX
 rw[List.take_add_one,List.getElem?_eq_getElem h,List.flatMap_append];simp
theorem iO (s:Str) (l:List Int): ∀n,n≤(aO s.js).length→(eX s l n).length=2*n
 | 0, _ => by simp [eX]
 | n + 1, h => by
   rw[rE s l n (by omega),List.length_append,iO s l n (by omega)];simp;omega
theorem tX {s:Str} {j:Int} (h:j∈aO s.js):0≤j∧j<s.js.length:=by
 unfold aO bN at h
 obtain⟨k,hk,rfl⟩:=List.mem_map.1 h
 have:=List.mem_range.1 (List.mem_filter.1 hk).1
 omega
theorem jH (s:Str) (l:List Int) (hL:LOk s l):NW Tryz.prog 194 [.agg s.c,.sl (iv l)] (fl 1 (iv (right s l))):=by
 have h6:=hL.sok.nj
 have hfr:=gY s.js s.js.length
 change(aO s.js).length≤s.js.length at hfr
 refine lR Tryz.func194 rfl rfl (by rw[Tryz.ntmps194];simp) fun bl=> ?_
 rw[Tryz.ntmps194,Tryz.results194]
 refine aC ?_
 simp[Str.c]
 intro gs Vf hgs ga aEJ zI Al
 simp[Str.c,zI,Ne.symm zI]
 refine aE (qR s (by omega)) ?_
 simp
 refine aI (fun p:Nat×Int=> [(1,.sl (iv l)),(5,.lsl p.2 1 0 (2*p.1)),(10,.sl (iv (aO s.js))),(11,.int .i64 (aO s.js).length),(12,.int .i64 p.1)]) (fun p=>upd bl p.2 (some ⟨1,iv (eX s l p.1)⟩)) (fun p=>p.1≤(aO s.js).length∧bl p.2=none∧(p.2<0→eX s l p.1= [])) (fun p=>(aO s.js).length - p.1) 34 (0,ga) ⟨Nat.zero_le _,Al,fun _=>rfl⟩ (by refine⟨rfl,by simp,?_⟩;exact cX (by simp[eX,iv]) (by simp[hgs])) ?_
 rintro⟨i,g⟩ ⟨hi,hg,h0⟩
 simp only at hi hg h0
 refine aC ?_
 simp
 refine⟨fun h=> ?_,fun h=> ?_⟩
 ·have q:=dC (aO s.js) i h
  obtain⟨r1,r2⟩:=tX (List.getElem_mem h)
  have rs:=rE s l i h
  simp[h]
  obtain⟨j,hj⟩: ∃j,(aO s.js)[i]=j:=⟨_,rfl⟩
  rw[hj] at r1 r2 rs ⊢
  have a1:(2*j).toNat<l.length:=by rw[hL.n];omega
  have a2:(2*j+1).toNat<l.length:=by rw[hL.n];omega
  have b1:=hL.f _ a1
  have b2:=hL.f _ a2
  have q1:=tW a1
  have q2:=tW a2
  have w1:IntKind.i64.wrap (2*j)=2*j:=i64_in (by omega) (by omega)
  have w2:IntKind.i64.wrap (2*j+1)=2*j+1:=i64_in (by omega) (by omega)
  have w3:IntKind.i64.wrap (-lat l (2*j).toNat)= -lat l (2*j).toNat:=i64_in (by omega) (by omega)
  have w4:IntKind.i64.wrap (-lat l (2*j+1).toNat)= -lat l (2*j+1).toNat:=i64_in (by omega) (by omega)
  have w5:IntKind.i64.wrap ((i:Int)+1)=i+1:=i64_in (by omega) (by omega)
  have p1:0≤2*j:=by omega
  have p2:0≤2*j+1:=by omega
  refine bA aN bl (by simp[hg]) [0,1,2,3,4,5,6,7,8,9,10,11,12,13] 3 (by kernel_rfl) ?_
  simp[-dC,w1,w2,w3,w4,q1,q2,p1,p2]
  have er2:List.range 2= [0,1]:=rfl
  have lr:=iO s l i (by omega)
  have tkr:(iv (eX s l i)).take (2*i)=iv (eX s l i):=List.take_of_length_le (by simp[lr])
  refine Dz 14 ?_
  simp
  intro gp hgp hpg hbp
  refine⟨by simp[hbp,hg],Dz 15 ?_⟩
  simp[er2,hpg,Ne.symm hpg,lr,tkr,appV,elsV,Int.not_lt.2 hgp]
  refine⟨by omega,fun gn hgn hbn=> ?_⟩
  have hgb:bl gn=none:=by grind
  have hsb: ∀X,Sub bl (upd (rem (upd (upd bl g (some ⟨1,iv (eX s l i)⟩)) gp (some ⟨1,[[.int .i64 (-lat l (2*j).toNat)],[.int .i64 (-lat l (2*j+1).toNat)]]⟩)) g) gn X):=fun X=>by simp[hg,hbp,hgb,hpg]
  refine⟨hsb _,Dz 16 ?_⟩
  simp
  refine⟨hsb _,Dy ?_⟩
  simp[w5,aB]
  refine⟨i+1,gn,⟨by omega,?_,by omega⟩,by omega,rfl,by simp;omega,?_⟩
  ·grind
  rw[rs,aT]
  exact cX (by rfl) (by simp[hg,hbp,hpg])
 ·have:i=(aO s.js).length:=by omega
  subst this
  refine kJ [.lsl g 1 0 (2*(aO s.js).length)] [g] (by simp) ?_ (by simpa using hg) (by simp[hg])
  have e:right s l=eX s l (aO s.js).length:=by simp[right,eX]
  refine eJ.2 (.inr ⟨g,?_,rfl,by rw[e];simp,by rw[e];exact h0⟩)
  rw[e,iO s l _ (Nat.le_refl _)];rfl
end Go.Proofs.YticmgmemnpcbbaaGreat.Vm

namespace Go.Proofs.YticmgmemnpcbbaaGreat.Vm
open Go Go.RowKit
set_option linter.unusedSimpArgs false
set_option linter.unusedVariables false
def HStep (P:Program) (ops:Array Oper) (blK:Int→Option Blk) (i:Nat) (K:St→Prop) (σ:St):Prop:=match ops[i]? with
 | some o => ∃ v, DY P ops blK o σ v ∧ K (σ.put o.dst v)
 | none => False
end Go.Proofs.YticmgmemnpcbbaaGreat.Vm

namespace Go.Proofs.YticmgmemnpcbbaaGreat.Vm
open Go Go.Proofs
set_option linter.unusedSimpArgs false
set_option linter.unusedVariables false
structure Pg where
 rows:Int
 aY:Int
 a:List Int
 b:List Int
 c:List Int
def Pg.v (p:Pg):List V:= [.int .i64 p.rows,.int .i64 p.aY,.sl (iv p.a),.sl (iv p.b),.sl (iv p.c)]
def nR (s:Str):Nat:=2*(aO s.js).length
def nC (s:Str):Nat:=(aY s.ms).length
def eK (s:Str) (c:Nat):Int×Int:=(aY s.ms).getD c (0,0)
def ent (s:Str) (i c:Nat):Int:=(eK s c).2*lat (fM s) (i*s.ms.length+(eK s c).1.toNat)
def aTo (s:Str) (n:Nat):List Int:=(List.range n).map fun t=>ent s (t / nC s) (t % nC s)
def cK (s:Str) (l:List Int):Pg:=⟨nR s,nC s,aTo s (nR s*nC s),right s l,List.replicate (nC s) 0⟩
@[simp] theorem Sm (s : Str) (n : Nat) : (aTo s n).length = n := by simp [aTo]
theorem Kj (s:Str) (i c:Nat) (h:c<nC s):aTo s (i*nC s+c+1)=aTo s (i*nC s+c)++ [ent s i c]:=by
 unfold aTo
 rw[List.range_succ,List.map_append]
 congr 1
 simp only[List.map_cons,List.map_nil]
 rw[Nat.mul_comm i,Nat.mul_add_div (by omega),Nat.mul_add_mod,Nat.div_eq_of_lt h,Nat.mod_eq_of_lt h,Nat.add_zero]
theorem I1 (s:Str):(fM s).length=nR s*s.ms.length:=by
 have e:fM s=gD s (aO s.js).length:=by simp[fM,gD]
 rw[e,jF s _ (Nat.le_refl _),nR,Nat.mul_right_comm]
theorem Ig {ms:List Mb} {n:Nat} {p:Int×Int} (h:p∈aV ms n):(0≤p.1∧p.1<n)∧(p.2=1∨p.2= -1):=by
 unfold aV at h
 obtain⟨k,hk,hp⟩:=List.mem_flatMap.1 h
 have:=List.mem_range.1 hk
 unfold uF at hp
 rcases List.mem_append.1 hp with hp | hp<;>split at hp<;>simp at hp<;>subst hp<;>simp<;>omega
theorem nX (s:Str) (c:Nat) (h:c<nC s):(0≤(eK s c).1∧(eK s c).1<s.ms.length)∧((eK s c).2=1∨(eK s c).2= -1):=by
 unfold nC at h
 have:eK s c=(aY s.ms)[c]:=by simp[eK,h]
 rw[this]
 exact Ig (List.getElem_mem h)
theorem Il (s:Str) (c:Nat) (h:c<nC s):(iv (who s))[c]? =some [.int .i64 (eK s c).1]:=by
 unfold nC at h
 simp[who,eK,h,iv]
theorem Rr (s:Str) (c:Nat) (h:c<nC s):(iv (sgn s))[c]? =some [.int .i64 (eK s c).2]:=by
 unfold nC at h
 simp[sgn,eK,h,iv]
theorem rG {s:Str} (hs:SOk s) (n:Nat): -100≤lat (fM s) n∧lat (fM s) n≤100:=by
 have key: ∀x,x∈fM s→ -100≤x∧x≤100:=by
  intro x hx
  unfold fM at hx
  obtain⟨j,_,hx⟩:=List.mem_flatMap.1 hx
  rcases List.mem_append.1 hx with hx | hx
  ·obtain⟨m,hm,rfl⟩:=List.mem_map.1 hx
   have:=Fb hs hm
   unfold eqX;split
   ·omega
   ·split<;>omega
  ·obtain⟨m,hm,rfl⟩:=List.mem_map.1 hx
   have:=Fb hs hm
   unfold eqY;split
   ·omega
   ·split<;>omega
 unfold lat
 rw[List.getD_eq_getElem?_getD]
 cases h:(fM s)[n]? with
 | none => simp
 | some x => exact key x (List.mem_of_getElem? h)
structure PS where
 n:Nat
 g:Int
 b:Int→Option Blk
structure PI (bl : Int → Option Blk) (s : Str) (l : List Int) (gr gp gc : Int) (p : PS) : Prop where
 hr:p.b gr=some ⟨5,[[.int .i64 0,.int .i64 0,.nils,.nils,.nils]]⟩
 hp:p.b gp=some ⟨5,[[.int .i64 (nR s),.int .i64 (nC s),.lsl p.g 1 0 p.n,.sl (iv (right s l)),.lsl gc 1 0 (nC s)]]⟩
 hc:p.b gc=some ⟨1,iv (List.replicate (nC s) 0)⟩
 ha:p.b p.g=some ⟨1,iv (aTo s p.n)⟩
 pr:p.g≠gr
 pp:p.g≠gp
 pc:p.g≠gc
 f:bl p.g=none
 sub:Sub bl p.b
 neg:p.g<0→aTo s p.n= []

theorem uR {n:Nat} : ∀(rs:List (List Int)),(∀r,r∈rs→r.length=n)→ ∀(i k:Nat) (hi:i<rs.length),k<n→lat rs.flatten (i*n+k)=lat rs[i] k
 | [], _, i, k, hi, _ => by simp at hi
 | r :: rs, h, 0, k, hi, hk => by
   have:=h r List.mem_cons_self
   simp[lat,List.flatten_cons,List.getElem?_append_left (show k<r.length by omega)]
 | r :: rs, h, i + 1, k, hi, hk => by
   have hr:=h r List.mem_cons_self
   have ih:=uR rs (fun r hr=>h r (List.mem_cons_of_mem _ hr)) i k (by simpa using hi) hk
   have e:(i+1)*n+k=r.length+(i*n+k):=by rw[hr,Nat.add_mul];omega
   rw[List.flatten_cons,e]
   simp only[lat,List.getD_eq_getElem?_getD] at ih ⊢
   rw[List.getElem?_append_right (by omega),Nat.add_sub_cancel_left,ih];rfl
theorem qN (s:Str):fM s=(cA s).flatten:=by
 unfold fM cA
 induction aO s.js with
 | nil => rfl
 | cons j js ih => simp [ih]
theorem kG (s:Str): ∀r,r∈cA s→r.length=s.ms.length:=by
 intro r hr
 unfold cA at hr
 obtain⟨j,_,hr⟩:=List.mem_flatMap.1 hr
 simp at hr
 rcases hr with rfl | rfl<;>simp
theorem Rz (s:Str) (n m:Nat) (h:m<n):(iv (aTo s n))[m]'(by simpa using h)= [.int .i64 (ent s (m / nC s) (m % nC s))]:=by simp[aTo]
theorem dH (s:Str) (l:List Int):(right s l).length=nR s:=by
 have e:right s l=eX s l (aO s.js).length:=by simp[right,eX]
 rw[e,iO s l _ (Nat.le_refl _)];rfl
theorem K5 (s:Str) (l:List Int): ∀(fs:List Int) (i:Nat) (h:i<fs.length),lat (fs.flatMap fun j=> [-lat l (2*j).toNat, -lat l (2*j+1).toNat]) (2*i)= -lat l (2*fs[i]).toNat∧lat (fs.flatMap fun j=> [-lat l (2*j).toNat, -lat l (2*j+1).toNat]) (2*i+1)= -lat l (2*fs[i]+1).toNat
 | [], i, h => by simp at h
 | f :: fs, 0, _ => by simp [lat]
 | f :: fs, i + 1, h => by
   have ih:=K5 s l fs i (by simpa using h)
   have e1:2*(i+1)=(2*i)+1+1:=by omega
   have e2:2*(i+1)+1=(2*i+1)+1+1:=by omega
   rw[e2,e1]
   simpa [lat] using ih
theorem nP (s:Str) (hs:SOk s):RO Tryz.prog 148 [.ptr s.c] (.sl (ivv (cA s))):=by
 have:=gU 2 (vP s hs) (Lx _)
 rwa [Wv] at this
def dPg (p:Pg):D:= .a [.c (.int .i64 p.rows),.c (.int .i64 p.aY),fl 1 (iv p.a),fl 1 (iv p.b),fl 1 (iv p.c)]
structure ABC where
 a:Int
 b:Int
 c:Int
structure Px (bl : Int → Option Blk) (gr gp : Int) (p : ABC) : Prop where
 a0:0≤p.a
 b0:0≤p.b
 c0:0≤p.c
 ba: ¬p.b=p.a
 ca: ¬p.c=p.a
 cb: ¬p.c=p.b
 ar: ¬p.a=gr
 ap: ¬p.a=gp
 br: ¬p.b=gr
 bp: ¬p.b=gp
 cr: ¬p.c=gr
 cp: ¬p.c=gp
 fa:bl p.a=none
 fb:bl p.b=none
 fc:bl p.c=none
theorem ad {p:Prop} {a b:Int} (F:p) (h: ¬a=b):p∧(a=b)=False∧(b=a)=False:=⟨F,eq_false h,eq_false fun e=>h e.symm⟩
theorem an {p q:Prop} (F:p) (h:q):p∧q:=⟨F,h⟩
set_option maxHeartbeats 4000000 in
theorem uJ (s:Str) (l:List Int) (hL:LOk s l):NW Tryz.prog 72 [.ptr s.c,.sl (iv l),.int .i64 0,.int .i64 0] (dPg (cK s l)):=by
 have hs:=hL.sok
 have h6:=hs.nj
 have h8:=hs.nm
 have hfr:=gY s.js s.js.length
 change(aO s.js).length≤s.js.length at hfr
 have hcn:nC s≤2*s.ms.length:=jU s.ms s.ms.length
 have hrn:nR s≤12:=by unfold nR;omega
 have er:(cA s).length=nR s:=by
  have e:cA s=sS s (aO s.js).length:=by simp[sS,cA]
  rw[e,lC s _ (Nat.le_refl _)];rfl
 have ec:(aY s.ms).length=nC s:=rfl
 refine lR Tryz.func72 rfl rfl (by rw[Tryz.ntmps72];simp) fun bl=> ?_
 rw[Tryz.ntmps72,Tryz.results72]
 refine aD ?_
 simp
 intro gr Vs hbr
 refine aD ?_
 simp
 refine aE (nP s hs) ?_
 simp
 refine aE (Z7 s (by omega)) ?_
 simp
 refine aD ?_
 have w1:IntKind.i64.wrap (nR s:Int)=nR s:=i64_in (by omega) (by omega)
 have w2:IntKind.i64.wrap (nC s:Int)=nC s:=i64_in (by omega) (by omega)
 simp[er,ec,w1,w2]
 intro gp aM8 hpr hbp
 obtain⟨nA,hA⟩: ∃n:Nat,n=nR s*nC s:=⟨_,rfl⟩
 have hA2:nA≤12*16:=by rw[hA];exact Nat.mul_le_mul (by omega) (by omega)
 have w3:IntKind.i64.wrap ((nR s:Int)*nC s)=nA:=by
  rw[hA]
  have:((nR s*nC s:Nat):Int)=nR s*nC s:=by simp
  rw[←this]
  exact i64_in (by omega) (by omega)
 let S:ABC→List (Nat×V):=fun _=> [(0,.ptr s.c),(1,.sl (iv l)),(8,.loc gr 5 0 0),(9,.sl (ivv (cA s))),(10,.sl (cv (aY s.ms))),(11,.loc gp 5 0 0)]
 let B:ABC→Int→Option Blk:=fun p=>upd (upd (upd (upd (upd bl gr (some ⟨5,[[.int .i64 0,.int .i64 0,.nils,.nils,.nils]]⟩)) gp (some ⟨5,[[.int .i64 (nR s),.int .i64 (nC s),.lsl p.a 1 0 nA,.lsl p.b 1 0 (nR s),.lsl p.c 1 0 (nC s)]]⟩)) p.a (some ⟨1,List.replicate nA [.int .i64 0]⟩)) p.b (some ⟨1,List.replicate (nR s) [.int .i64 0]⟩)) p.c (some ⟨1,List.replicate (nC s) [.int .i64 0]⟩)
 have leaf: ∀(n:Nat) (σ:St) (ga gb gc:Int),0≤ga→0≤gb→0≤gc→(¬gb=ga∧ ¬gc=ga∧ ¬gc=gb∧ ¬ga=gr∧ ¬ga=gp∧ ¬gb=gr∧ ¬gb=gp∧ ¬gc=gr∧ ¬gc=gp∧bl ga=none∧bl gb=none∧bl gc=none)→σ.n=n→(∀p,p∈S ⟨ga,gb,gc⟩→σ.sl p.1=p.2)→Sub (B ⟨ga,gb,gc⟩) σ.bl→
   ∃a,Px bl gr gp a∧Fit (S a) n (B a) σ:=fun n σ ga gb gc h1 h2 h3 ⟨h4,h5,h6,h7,h8,h9,h10,h11,h12,h13,h14,h15⟩ h16 h17 h18=>⟨⟨ga,gb,gc⟩,⟨h1,h2,h3,h4,h5,h6,h7,h8,h9,h10,h11,h12,h13,h14,h15⟩,h16,h17,h18⟩
 refine fH S B (Px bl gr gp) 113 ?_ ?_
 ·have F:=an (an (ad trivial (show ¬gp=gr from hpr)) hbr) hbp
  refine Ct aN _ (Sub.refl _) [0,1,2,3,4,6,7,9,10] 9 12 (by kernel_rfl) ?_
  simp[w3]
  refine qZ (i:=5) (j:=8) (m:=11) false false false (by kernel_rfl) rfl rfl (by kernel_rfl) rfl rfl (by kernel_rfl) rfl rfl (by kernel_rfl) ?_ ?_ ?_
  ·simp[F]
   refine⟨by omega,by unfold maxLen;omega,?_⟩
   intro ga hga
   intros
   have F:=an (ad (ad F (show ¬ga=gr by assumption)) (show ¬ga=gp by assumption)) (show bl ga=none by assumption)
   refine⟨by simp[F],?_⟩
   refine qZ (i:=8) (j:=11) (m:=12) false false true (by kernel_rfl) rfl rfl (by kernel_rfl) rfl rfl (by kernel_rfl) rfl rfl (by kernel_rfl) ?_ ?_ ?_
   ·simp[F]
    refine⟨by omega,by unfold maxLen;omega,?_⟩
    intro gb hgb
    intros
    have F:=an (ad (ad (ad F (show ¬gb=gr by assumption)) (show ¬gb=gp by assumption)) (show ¬gb=ga by assumption)) (show bl gb=none by assumption)
    refine⟨by simp[F],?_⟩
    refine Dw 11 12 false true ?_ ?_
    ·simp[F]
     refine⟨by omega,by unfold maxLen;omega,?_⟩
     intro gc hgc
     intros
     have F:=an (ad (ad (ad (ad F (show ¬gc=gr by assumption)) (show ¬gc=gp by assumption)) (show ¬gc=ga by assumption)) (show ¬gc=gb by assumption)) (show bl gc=none by assumption)
     refine⟨by simp[F],?_⟩
     refine Dq 12 true ?_
     simp[F]
     refine Dq 13 true ?_
     simp[F]
     refine Dq 14 true ?_
     simp[F]
     refine Dq 15 true ?_
     simp[F]
     refine Dq 16 true ?_
     simp[F]
     refine Dq 17 true ?_
     simp[F]
     refine Dd ?_
     rw[aH]
     exact leaf _ _ ga gb gc hga hgb hgc (by simp[F]) rfl (by simp[S]) (by intro x y hx;simp only[B,aA] at hx ⊢;grind)
    ·simp[F]
     refine Dw 11 13 true true ?_ ?_
     ·simp[F]
      refine⟨by omega,by unfold maxLen;omega,?_⟩
      intro gc hgc
      intros
      have F:=an (ad (ad (ad (ad F (show ¬gc=gr by assumption)) (show ¬gc=gp by assumption)) (show ¬gc=ga by assumption)) (show ¬gc=gb by assumption)) (show bl gc=none by assumption)
      refine Dq 13 true ?_
      simp[F]
      refine Dq 14 true ?_
      simp[F]
      refine Dq 15 true ?_
      simp[F]
      refine Dq 16 true ?_
      simp[F]
      refine Dq 17 true ?_
      simp[F]
      refine Dd ?_
      rw[aH]
      exact leaf _ _ ga gb gc hga hgb hgc (by simp[F]) rfl (by simp[S]) (by intro x y hx;simp only[B,aA] at hx ⊢;grind)
     ·simp[F]
      refine Dw 11 14 true true ?_ ?_
      ·simp[F]
       refine⟨by omega,by unfold maxLen;omega,?_⟩
       intro gc hgc
       intros
       have F:=an (ad (ad (ad (ad F (show ¬gc=gr by assumption)) (show ¬gc=gp by assumption)) (show ¬gc=ga by assumption)) (show ¬gc=gb by assumption)) (show bl gc=none by assumption)
       refine Dq 14 true ?_
       simp[F]
       refine Dq 15 true ?_
       simp[F]
       refine Dq 16 true ?_
       simp[F]
       refine Dq 17 true ?_
       simp[F]
       refine Dd ?_
       rw[aH]
       exact leaf _ _ ga gb gc hga hgb hgc (by simp[F]) rfl (by simp[S]) (by intro x y hx;simp only[B,aA] at hx ⊢;grind)
      ·simp[F]
       refine Dw 11 15 true true ?_ ?_
       ·simp[F]
        refine⟨by omega,by unfold maxLen;omega,?_⟩
        intro gc hgc
        intros
        have F:=an (ad (ad (ad (ad F (show ¬gc=gr by assumption)) (show ¬gc=gp by assumption)) (show ¬gc=ga by assumption)) (show ¬gc=gb by assumption)) (show bl gc=none by assumption)
        refine Dq 15 true ?_
        simp[F]
        refine Dq 16 true ?_
        simp[F]
        refine Dq 17 true ?_
        simp[F]
        refine Dd ?_
        rw[aH]
        exact leaf _ _ ga gb gc hga hgb hgc (by simp[F]) rfl (by simp[S]) (by intro x y hx;simp only[B,aA] at hx ⊢;grind)
       ·simp[F]
        refine Dq 11 true ?_
        simp[F]
        refine⟨by omega,by unfold maxLen;omega,?_⟩
        intro gc hgc
        intros
        have F:=an (ad (ad (ad (ad F (show ¬gc=gr by assumption)) (show ¬gc=gp by assumption)) (show ¬gc=ga by assumption)) (show ¬gc=gb by assumption)) (show bl gc=none by assumption)
        refine Dq 16 true ?_
        simp[F]
        refine Dq 17 true ?_
        simp[F]
        refine Dd ?_
        rw[aH]
        exact leaf _ _ ga gb gc hga hgb hgc (by simp[F]) rfl (by simp[S]) (by intro x y hx;simp only[B,aA] at hx ⊢;grind)
   ·simp[F]
    refine⟨by omega,by unfold maxLen;omega,?_⟩
    intro gc hgc
    intros
    have F:=an (ad (ad (ad F (show ¬gc=gr by assumption)) (show ¬gc=gp by assumption)) (show ¬gc=ga by assumption)) (show bl gc=none by assumption)
    refine⟨by simp[F],?_⟩
    refine Dw 8 12 false true ?_ ?_
    ·simp[F]
     refine⟨by omega,by unfold maxLen;omega,?_⟩
     intro gb hgb
     intros
     have F:=an (ad (ad (ad (ad F (show ¬gb=gr by assumption)) (show ¬gb=gp by assumption)) (show ¬gb=ga by assumption)) (show ¬gb=gc by assumption)) (show bl gb=none by assumption)
     refine⟨by simp[F],?_⟩
     refine Dq 12 true ?_
     simp[F]
     refine Dq 13 true ?_
     simp[F]
     refine Dq 14 true ?_
     simp[F]
     refine Dq 15 true ?_
     simp[F]
     refine Dq 16 true ?_
     simp[F]
     refine Dq 17 true ?_
     simp[F]
     refine Dd ?_
     rw[aH]
     exact leaf _ _ ga gb gc hga hgb hgc (by simp[F]) rfl (by simp[S]) (by intro x y hx;simp only[B,aA] at hx ⊢;grind)
    ·simp[F]
     refine Dw 8 13 true true ?_ ?_
     ·simp[F]
      refine⟨by omega,by unfold maxLen;omega,?_⟩
      intro gb hgb
      intros
      have F:=an (ad (ad (ad (ad F (show ¬gb=gr by assumption)) (show ¬gb=gp by assumption)) (show ¬gb=ga by assumption)) (show ¬gb=gc by assumption)) (show bl gb=none by assumption)
      refine Dq 13 true ?_
      simp[F]
      refine Dq 14 true ?_
      simp[F]
      refine Dq 15 true ?_
      simp[F]
      refine Dq 16 true ?_
      simp[F]
      refine Dq 17 true ?_
      simp[F]
      refine Dd ?_
      rw[aH]
      exact leaf _ _ ga gb gc hga hgb hgc (by simp[F]) rfl (by simp[S]) (by intro x y hx;simp only[B,aA] at hx ⊢;grind)
     ·simp[F]
      refine Dq 8 true ?_
      simp[F]
      refine⟨by omega,by unfold maxLen;omega,?_⟩
      intro gb hgb
      intros
      have F:=an (ad (ad (ad (ad F (show ¬gb=gr by assumption)) (show ¬gb=gp by assumption)) (show ¬gb=ga by assumption)) (show ¬gb=gc by assumption)) (show bl gb=none by assumption)
      refine Dq 14 true ?_
      simp[F]
      refine Dq 15 true ?_
      simp[F]
      refine Dq 16 true ?_
      simp[F]
      refine Dq 17 true ?_
      simp[F]
      refine Dd ?_
      rw[aH]
      exact leaf _ _ ga gb gc hga hgb hgc (by simp[F]) rfl (by simp[S]) (by intro x y hx;simp only[B,aA] at hx ⊢;grind)
   ·simp[F]
    refine qZ (i:=8) (j:=11) (m:=13) true true true (by kernel_rfl) rfl rfl (by kernel_rfl) rfl rfl (by kernel_rfl) rfl rfl (by kernel_rfl) ?_ ?_ ?_
    ·simp[F]
     refine⟨by omega,by unfold maxLen;omega,?_⟩
     intro gb hgb
     intros
     have F:=an (ad (ad (ad F (show ¬gb=gr by assumption)) (show ¬gb=gp by assumption)) (show ¬gb=ga by assumption)) (show bl gb=none by assumption)
     refine Dw 11 13 true true ?_ ?_
     ·simp[F]
      refine⟨by omega,by unfold maxLen;omega,?_⟩
      intro gc hgc
      intros
      have F:=an (ad (ad (ad (ad F (show ¬gc=gr by assumption)) (show ¬gc=gp by assumption)) (show ¬gc=ga by assumption)) (show ¬gc=gb by assumption)) (show bl gc=none by assumption)
      refine Dq 13 true ?_
      simp[F]
      refine Dq 14 true ?_
      simp[F]
      refine Dq 15 true ?_
      simp[F]
      refine Dq 16 true ?_
      simp[F]
      refine Dq 17 true ?_
      simp[F]
      refine Dd ?_
      rw[aH]
      exact leaf _ _ ga gb gc hga hgb hgc (by simp[F]) rfl (by simp[S]) (by intro x y hx;simp only[B,aA] at hx ⊢;grind)
     ·simp[F]
      refine Dw 11 14 true true ?_ ?_
      ·simp[F]
       refine⟨by omega,by unfold maxLen;omega,?_⟩
       intro gc hgc
       intros
       have F:=an (ad (ad (ad (ad F (show ¬gc=gr by assumption)) (show ¬gc=gp by assumption)) (show ¬gc=ga by assumption)) (show ¬gc=gb by assumption)) (show bl gc=none by assumption)
       refine Dq 14 true ?_
       simp[F]
       refine Dq 15 true ?_
       simp[F]
       refine Dq 16 true ?_
       simp[F]
       refine Dq 17 true ?_
       simp[F]
       refine Dd ?_
       rw[aH]
       exact leaf _ _ ga gb gc hga hgb hgc (by simp[F]) rfl (by simp[S]) (by intro x y hx;simp only[B,aA] at hx ⊢;grind)
      ·simp[F]
       refine Dw 11 15 true true ?_ ?_
       ·simp[F]
        refine⟨by omega,by unfold maxLen;omega,?_⟩
        intro gc hgc
        intros
        have F:=an (ad (ad (ad (ad F (show ¬gc=gr by assumption)) (show ¬gc=gp by assumption)) (show ¬gc=ga by assumption)) (show ¬gc=gb by assumption)) (show bl gc=none by assumption)
        refine Dq 15 true ?_
        simp[F]
        refine Dq 16 true ?_
        simp[F]
        refine Dq 17 true ?_
        simp[F]
        refine Dd ?_
        rw[aH]
        exact leaf _ _ ga gb gc hga hgb hgc (by simp[F]) rfl (by simp[S]) (by intro x y hx;simp only[B,aA] at hx ⊢;grind)
       ·simp[F]
        refine Dq 11 true ?_
        simp[F]
        refine⟨by omega,by unfold maxLen;omega,?_⟩
        intro gc hgc
        intros
        have F:=an (ad (ad (ad (ad F (show ¬gc=gr by assumption)) (show ¬gc=gp by assumption)) (show ¬gc=ga by assumption)) (show ¬gc=gb by assumption)) (show bl gc=none by assumption)
        refine Dq 16 true ?_
        simp[F]
        refine Dq 17 true ?_
        simp[F]
        refine Dd ?_
        rw[aH]
        exact leaf _ _ ga gb gc hga hgb hgc (by simp[F]) rfl (by simp[S]) (by intro x y hx;simp only[B,aA] at hx ⊢;grind)
    ·simp[F]
     refine⟨by omega,by unfold maxLen;omega,?_⟩
     intro gc hgc
     intros
     have F:=an (ad (ad (ad F (show ¬gc=gr by assumption)) (show ¬gc=gp by assumption)) (show ¬gc=ga by assumption)) (show bl gc=none by assumption)
     refine Dw 8 13 true true ?_ ?_
     ·simp[F]
      refine⟨by omega,by unfold maxLen;omega,?_⟩
      intro gb hgb
      intros
      have F:=an (ad (ad (ad (ad F (show ¬gb=gr by assumption)) (show ¬gb=gp by assumption)) (show ¬gb=ga by assumption)) (show ¬gb=gc by assumption)) (show bl gb=none by assumption)
      refine Dq 13 true ?_
      simp[F]
      refine Dq 14 true ?_
      simp[F]
      refine Dq 15 true ?_
      simp[F]
      refine Dq 16 true ?_
      simp[F]
      refine Dq 17 true ?_
      simp[F]
      refine Dd ?_
      rw[aH]
      exact leaf _ _ ga gb gc hga hgb hgc (by simp[F]) rfl (by simp[S]) (by intro x y hx;simp only[B,aA] at hx ⊢;grind)
     ·simp[F]
      refine Dq 8 true ?_
      simp[F]
      refine⟨by omega,by unfold maxLen;omega,?_⟩
      intro gb hgb
      intros
      have F:=an (ad (ad (ad (ad F (show ¬gb=gr by assumption)) (show ¬gb=gp by assumption)) (show ¬gb=ga by assumption)) (show ¬gb=gc by assumption)) (show bl gb=none by assumption)
      refine Dq 14 true ?_
      simp[F]
      refine Dq 15 true ?_
      simp[F]
      refine Dq 16 true ?_
      simp[F]
      refine Dq 17 true ?_
      simp[F]
      refine Dd ?_
      rw[aH]
      exact leaf _ _ ga gb gc hga hgb hgc (by simp[F]) rfl (by simp[S]) (by intro x y hx;simp only[B,aA] at hx ⊢;grind)
    ·simp[F]
     refine Dw 8 11 true true ?_ ?_
     ·simp[F]
      refine⟨by omega,by unfold maxLen;omega,?_⟩
      intro gb hgb
      intros
      have F:=an (ad (ad (ad F (show ¬gb=gr by assumption)) (show ¬gb=gp by assumption)) (show ¬gb=ga by assumption)) (show bl gb=none by assumption)
      refine Dw 11 14 true true ?_ ?_
      ·simp[F]
       refine⟨by omega,by unfold maxLen;omega,?_⟩
       intro gc hgc
       intros
       have F:=an (ad (ad (ad (ad F (show ¬gc=gr by assumption)) (show ¬gc=gp by assumption)) (show ¬gc=ga by assumption)) (show ¬gc=gb by assumption)) (show bl gc=none by assumption)
       refine Dq 14 true ?_
       simp[F]
       refine Dq 15 true ?_
       simp[F]
       refine Dq 16 true ?_
       simp[F]
       refine Dq 17 true ?_
       simp[F]
       refine Dd ?_
       rw[aH]
       exact leaf _ _ ga gb gc hga hgb hgc (by simp[F]) rfl (by simp[S]) (by intro x y hx;simp only[B,aA] at hx ⊢;grind)
      ·simp[F]
       refine Dw 11 15 true true ?_ ?_
       ·simp[F]
        refine⟨by omega,by unfold maxLen;omega,?_⟩
        intro gc hgc
        intros
        have F:=an (ad (ad (ad (ad F (show ¬gc=gr by assumption)) (show ¬gc=gp by assumption)) (show ¬gc=ga by assumption)) (show ¬gc=gb by assumption)) (show bl gc=none by assumption)
        refine Dq 15 true ?_
        simp[F]
        refine Dq 16 true ?_
        simp[F]
        refine Dq 17 true ?_
        simp[F]
        refine Dd ?_
        rw[aH]
        exact leaf _ _ ga gb gc hga hgb hgc (by simp[F]) rfl (by simp[S]) (by intro x y hx;simp only[B,aA] at hx ⊢;grind)
       ·simp[F]
        refine Dq 11 true ?_
        simp[F]
        refine⟨by omega,by unfold maxLen;omega,?_⟩
        intro gc hgc
        intros
        have F:=an (ad (ad (ad (ad F (show ¬gc=gr by assumption)) (show ¬gc=gp by assumption)) (show ¬gc=ga by assumption)) (show ¬gc=gb by assumption)) (show bl gc=none by assumption)
        refine Dq 16 true ?_
        simp[F]
        refine Dq 17 true ?_
        simp[F]
        refine Dd ?_
        rw[aH]
        exact leaf _ _ ga gb gc hga hgb hgc (by simp[F]) rfl (by simp[S]) (by intro x y hx;simp only[B,aA] at hx ⊢;grind)
     ·simp[F]
      refine⟨by omega,by unfold maxLen;omega,?_⟩
      intro gc hgc
      intros
      have F:=an (ad (ad (ad F (show ¬gc=gr by assumption)) (show ¬gc=gp by assumption)) (show ¬gc=ga by assumption)) (show bl gc=none by assumption)
      refine Dq 8 true ?_
      simp[F]
      refine⟨by omega,by unfold maxLen;omega,?_⟩
      intro gb hgb
      intros
      have F:=an (ad (ad (ad (ad F (show ¬gb=gr by assumption)) (show ¬gb=gp by assumption)) (show ¬gb=ga by assumption)) (show ¬gb=gc by assumption)) (show bl gb=none by assumption)
      refine Dq 14 true ?_
      simp[F]
      refine Dq 15 true ?_
      simp[F]
      refine Dq 16 true ?_
      simp[F]
      refine Dq 17 true ?_
      simp[F]
      refine Dd ?_
      rw[aH]
      exact leaf _ _ ga gb gc hga hgb hgc (by simp[F]) rfl (by simp[S]) (by intro x y hx;simp only[B,aA] at hx ⊢;grind)
  ·simp[F]
   refine⟨by omega,by unfold maxLen;omega,?_⟩
   intro gb hgb
   intros
   have F:=an (ad (ad F (show ¬gb=gr by assumption)) (show ¬gb=gp by assumption)) (show bl gb=none by assumption)
   refine⟨by simp[F],?_⟩
   refine Dw 5 11 false false ?_ ?_
   ·simp[F]
    refine⟨by omega,by unfold maxLen;omega,?_⟩
    intro ga hga
    intros
    have F:=an (ad (ad (ad F (show ¬ga=gr by assumption)) (show ¬ga=gp by assumption)) (show ¬ga=gb by assumption)) (show bl ga=none by assumption)
    refine⟨by simp[F],?_⟩
    refine Dw 11 12 false true ?_ ?_
    ·simp[F]
     refine⟨by omega,by unfold maxLen;omega,?_⟩
     intro gc hgc
     intros
     have F:=an (ad (ad (ad (ad F (show ¬gc=gr by assumption)) (show ¬gc=gp by assumption)) (show ¬gc=gb by assumption)) (show ¬gc=ga by assumption)) (show bl gc=none by assumption)
     refine⟨by simp[F],?_⟩
     refine Dq 12 true ?_
     simp[F]
     refine Dq 13 true ?_
     simp[F]
     refine Dq 14 true ?_
     simp[F]
     refine Dq 15 true ?_
     simp[F]
     refine Dq 16 true ?_
     simp[F]
     refine Dq 17 true ?_
     simp[F]
     refine Dd ?_
     rw[aH]
     exact leaf _ _ ga gb gc hga hgb hgc (by simp[F]) rfl (by simp[S]) (by intro x y hx;simp only[B,aA] at hx ⊢;grind)
    ·simp[F]
     refine Dw 11 13 true true ?_ ?_
     ·simp[F]
      refine⟨by omega,by unfold maxLen;omega,?_⟩
      intro gc hgc
      intros
      have F:=an (ad (ad (ad (ad F (show ¬gc=gr by assumption)) (show ¬gc=gp by assumption)) (show ¬gc=gb by assumption)) (show ¬gc=ga by assumption)) (show bl gc=none by assumption)
      refine Dq 13 true ?_
      simp[F]
      refine Dq 14 true ?_
      simp[F]
      refine Dq 15 true ?_
      simp[F]
      refine Dq 16 true ?_
      simp[F]
      refine Dq 17 true ?_
      simp[F]
      refine Dd ?_
      rw[aH]
      exact leaf _ _ ga gb gc hga hgb hgc (by simp[F]) rfl (by simp[S]) (by intro x y hx;simp only[B,aA] at hx ⊢;grind)
     ·simp[F]
      refine Dw 11 14 true true ?_ ?_
      ·simp[F]
       refine⟨by omega,by unfold maxLen;omega,?_⟩
       intro gc hgc
       intros
       have F:=an (ad (ad (ad (ad F (show ¬gc=gr by assumption)) (show ¬gc=gp by assumption)) (show ¬gc=gb by assumption)) (show ¬gc=ga by assumption)) (show bl gc=none by assumption)
       refine Dq 14 true ?_
       simp[F]
       refine Dq 15 true ?_
       simp[F]
       refine Dq 16 true ?_
       simp[F]
       refine Dq 17 true ?_
       simp[F]
       refine Dd ?_
       rw[aH]
       exact leaf _ _ ga gb gc hga hgb hgc (by simp[F]) rfl (by simp[S]) (by intro x y hx;simp only[B,aA] at hx ⊢;grind)
      ·simp[F]
       refine Dw 11 15 true true ?_ ?_
       ·simp[F]
        refine⟨by omega,by unfold maxLen;omega,?_⟩
        intro gc hgc
        intros
        have F:=an (ad (ad (ad (ad F (show ¬gc=gr by assumption)) (show ¬gc=gp by assumption)) (show ¬gc=gb by assumption)) (show ¬gc=ga by assumption)) (show bl gc=none by assumption)
        refine Dq 15 true ?_
        simp[F]
        refine Dq 16 true ?_
        simp[F]
        refine Dq 17 true ?_
        simp[F]
        refine Dd ?_
        rw[aH]
        exact leaf _ _ ga gb gc hga hgb hgc (by simp[F]) rfl (by simp[S]) (by intro x y hx;simp only[B,aA] at hx ⊢;grind)
       ·simp[F]
        refine Dq 11 true ?_
        simp[F]
        refine⟨by omega,by unfold maxLen;omega,?_⟩
        intro gc hgc
        intros
        have F:=an (ad (ad (ad (ad F (show ¬gc=gr by assumption)) (show ¬gc=gp by assumption)) (show ¬gc=gb by assumption)) (show ¬gc=ga by assumption)) (show bl gc=none by assumption)
        refine Dq 16 true ?_
        simp[F]
        refine Dq 17 true ?_
        simp[F]
        refine Dd ?_
        rw[aH]
        exact leaf _ _ ga gb gc hga hgb hgc (by simp[F]) rfl (by simp[S]) (by intro x y hx;simp only[B,aA] at hx ⊢;grind)
   ·simp[F]
    refine⟨by omega,by unfold maxLen;omega,?_⟩
    intro gc hgc
    intros
    have F:=an (ad (ad (ad F (show ¬gc=gr by assumption)) (show ¬gc=gp by assumption)) (show ¬gc=gb by assumption)) (show bl gc=none by assumption)
    refine⟨by simp[F],?_⟩
    refine Dq 5 false ?_
    simp[F]
    refine⟨by omega,by unfold maxLen;omega,?_⟩
    intro ga hga
    intros
    have F:=an (ad (ad (ad (ad F (show ¬ga=gr by assumption)) (show ¬ga=gp by assumption)) (show ¬ga=gb by assumption)) (show ¬ga=gc by assumption)) (show bl ga=none by assumption)
    refine⟨by simp[F],?_⟩
    refine Dq 12 true ?_
    simp[F]
    refine Dq 13 true ?_
    simp[F]
    refine Dq 14 true ?_
    simp[F]
    refine Dq 15 true ?_
    simp[F]
    refine Dq 16 true ?_
    simp[F]
    refine Dq 17 true ?_
    simp[F]
    refine Dd ?_
    rw[aH]
    exact leaf _ _ ga gb gc hga hgb hgc (by simp[F]) rfl (by simp[S]) (by intro x y hx;simp only[B,aA] at hx ⊢;grind)
  ·simp[F]
   refine⟨by omega,by unfold maxLen;omega,?_⟩
   intro gc hgc
   intros
   have F:=an (ad (ad F (show ¬gc=gr by assumption)) (show ¬gc=gp by assumption)) (show bl gc=none by assumption)
   refine⟨by simp[F],?_⟩
   refine Dw 5 8 false false ?_ ?_
   ·simp[F]
    refine⟨by omega,by unfold maxLen;omega,?_⟩
    intro ga hga
    intros
    have F:=an (ad (ad (ad F (show ¬ga=gr by assumption)) (show ¬ga=gp by assumption)) (show ¬ga=gc by assumption)) (show bl ga=none by assumption)
    refine⟨by simp[F],?_⟩
    refine Dw 8 12 false true ?_ ?_
    ·simp[F]
     refine⟨by omega,by unfold maxLen;omega,?_⟩
     intro gb hgb
     intros
     have F:=an (ad (ad (ad (ad F (show ¬gb=gr by assumption)) (show ¬gb=gp by assumption)) (show ¬gb=gc by assumption)) (show ¬gb=ga by assumption)) (show bl gb=none by assumption)
     refine⟨by simp[F],?_⟩
     refine Dq 12 true ?_
     simp[F]
     refine Dq 13 true ?_
     simp[F]
     refine Dq 14 true ?_
     simp[F]
     refine Dq 15 true ?_
     simp[F]
     refine Dq 16 true ?_
     simp[F]
     refine Dq 17 true ?_
     simp[F]
     refine Dd ?_
     rw[aH]
     exact leaf _ _ ga gb gc hga hgb hgc (by simp[F]) rfl (by simp[S]) (by intro x y hx;simp only[B,aA] at hx ⊢;grind)
    ·simp[F]
     refine Dw 8 13 true true ?_ ?_
     ·simp[F]
      refine⟨by omega,by unfold maxLen;omega,?_⟩
      intro gb hgb
      intros
      have F:=an (ad (ad (ad (ad F (show ¬gb=gr by assumption)) (show ¬gb=gp by assumption)) (show ¬gb=gc by assumption)) (show ¬gb=ga by assumption)) (show bl gb=none by assumption)
      refine Dq 13 true ?_
      simp[F]
      refine Dq 14 true ?_
      simp[F]
      refine Dq 15 true ?_
      simp[F]
      refine Dq 16 true ?_
      simp[F]
      refine Dq 17 true ?_
      simp[F]
      refine Dd ?_
      rw[aH]
      exact leaf _ _ ga gb gc hga hgb hgc (by simp[F]) rfl (by simp[S]) (by intro x y hx;simp only[B,aA] at hx ⊢;grind)
     ·simp[F]
      refine Dq 8 true ?_
      simp[F]
      refine⟨by omega,by unfold maxLen;omega,?_⟩
      intro gb hgb
      intros
      have F:=an (ad (ad (ad (ad F (show ¬gb=gr by assumption)) (show ¬gb=gp by assumption)) (show ¬gb=gc by assumption)) (show ¬gb=ga by assumption)) (show bl gb=none by assumption)
      refine Dq 14 true ?_
      simp[F]
      refine Dq 15 true ?_
      simp[F]
      refine Dq 16 true ?_
      simp[F]
      refine Dq 17 true ?_
      simp[F]
      refine Dd ?_
      rw[aH]
      exact leaf _ _ ga gb gc hga hgb hgc (by simp[F]) rfl (by simp[S]) (by intro x y hx;simp only[B,aA] at hx ⊢;grind)
   ·simp[F]
    refine⟨by omega,by unfold maxLen;omega,?_⟩
    intro gb hgb
    intros
    have F:=an (ad (ad (ad F (show ¬gb=gr by assumption)) (show ¬gb=gp by assumption)) (show ¬gb=gc by assumption)) (show bl gb=none by assumption)
    refine⟨by simp[F],?_⟩
    refine Dq 5 false ?_
    simp[F]
    refine⟨by omega,by unfold maxLen;omega,?_⟩
    intro ga hga
    intros
    have F:=an (ad (ad (ad (ad F (show ¬ga=gr by assumption)) (show ¬ga=gp by assumption)) (show ¬ga=gc by assumption)) (show ¬ga=gb by assumption)) (show bl ga=none by assumption)
    refine⟨by simp[F],?_⟩
    refine Dq 12 true ?_
    simp[F]
    refine Dq 13 true ?_
    simp[F]
    refine Dq 14 true ?_
    simp[F]
    refine Dq 15 true ?_
    simp[F]
    refine Dq 16 true ?_
    simp[F]
    refine Dq 17 true ?_
    simp[F]
    refine Dd ?_
    rw[aH]
    exact leaf _ _ ga gb gc hga hgb hgc (by simp[F]) rfl (by simp[S]) (by intro x y hx;simp only[B,aA] at hx ⊢;grind)
 rintro⟨ga,gb,gc⟩ ⟨a0,b0,c0,ba,ca,cb,ar,ap,br,bp,cr,cp,fa,fb,fc⟩
 simp only at a0 b0 c0 ba ca cb ar ap br bp cr cp fa fb fc
 simp only[S,B]
 clear leaf S B
 obtain⟨BB,hBB⟩: ∃BB:List (List V)→List (List V)→Int→Option Blk,BB=fun ea eb=>upd (upd (upd (upd (upd bl gr (some ⟨5,[[.int .i64 0,.int .i64 0,.nils,.nils,.nils]]⟩)) gp (some ⟨5,[[.int .i64 (nR s),.int .i64 (nC s),.lsl ga 1 0 nA,.lsl gb 1 0 (nR s),.lsl gc 1 0 (nC s)]]⟩)) ga (some ⟨1,ea⟩)) gb (some ⟨1,eb⟩)) gc (some ⟨1,List.replicate (nC s) [.int .i64 0]⟩):=⟨_,rfl⟩
 have hBr: ∀ea eb,BB ea eb gr=some ⟨5,[[.int .i64 0,.int .i64 0,.nils,.nils,.nils]]⟩:=fun ea eb=>by rw[hBB];simp[hpr,Ne.symm hpr,ar,br,cr,Ne.symm ar,Ne.symm br,Ne.symm cr]
 have hBp: ∀ea eb,BB ea eb gp=some ⟨5,[[.int .i64 (nR s),.int .i64 (nC s),.lsl ga 1 0 nA,.lsl gb 1 0 (nR s),.lsl gc 1 0 (nC s)]]⟩:=fun ea eb=>by rw[hBB];simp[ap,bp,cp,Ne.symm ap,Ne.symm bp,Ne.symm cp]
 have hBa: ∀ea eb,BB ea eb ga=some ⟨1,ea⟩:=fun ea eb=>by rw[hBB];simp[ba,ca,Ne.symm ba,Ne.symm ca]
 have hBb: ∀ea eb,BB ea eb gb=some ⟨1,eb⟩:=fun ea eb=>by rw[hBB];simp[cb,Ne.symm cb]
 have hBc: ∀ea eb,BB ea eb gc=some ⟨1,List.replicate (nC s) [.int .i64 0]⟩:=fun ea eb=>by rw[hBB];simp
 have hBs: ∀ea eb,Sub bl (BB ea eb):=fun ea eb=>by rw[hBB];simp[hbr,hbp,fa,fb,fc]
 have aD5: ∀ea eb e,upd (BB ea eb) ga (some ⟨1,e⟩)=BB e eb:=fun ea eb e=>by
  rw[hBB];funext x;simp only[aA];grind
 have aCE: ∀ea eb e,upd (BB ea eb) gb (some ⟨1,e⟩)=BB ea e:=fun ea eb e=>by
  rw[hBB];funext x;simp only[aA];grind
 have hB0:upd (upd (upd (upd (upd bl gr (some ⟨5,[[.int .i64 0,.int .i64 0,.nils,.nils,.nils]]⟩)) gp (some ⟨5,[[.int .i64 (nR s),.int .i64 (nC s),.lsl ga 1 0 nA,.lsl gb 1 0 (nR s),.lsl gc 1 0 (nC s)]]⟩)) ga (some ⟨1,List.replicate nA [.int .i64 0]⟩)) gb (some ⟨1,List.replicate (nR s) [.int .i64 0]⟩)) gc (some ⟨1,List.replicate (nC s) [.int .i64 0]⟩)=BB (part (iv (aTo s nA)) [.int .i64 0] 0) (part (iv (right s l)) [.int .i64 0] 0):=by
  rw[hBB];simp[dH]
 rw[hB0]
 clear hB0 hBB
 refine aC ?_
 simp[er]
 refine aI (fun i:Nat=> [(0,.ptr s.c),(1,.sl (iv l)),(8,.loc gr 5 0 0),(10,.sl (cv (aY s.ms))),(11,.loc gp 5 0 0),(46,.sl (ivv (cA s))),(47,.int .i64 (nR s)),(48,.int .i64 i)]) (fun i=>BB (part (iv (aTo s nA)) [.int .i64 0] (i*nC s)) (part (iv (right s l)) [.int .i64 0] 0)) (fun i=>i≤nR s) (fun i=>nR s - i) 113 0 (Nat.zero_le _) ⟨rfl,by simp,sub_eq (by simp)⟩ ?_
 intro i hi
 refine aC ?_
 simp
 refine⟨fun h=> ?_,fun h=> ?_⟩
 ·have hie:i<(cA s).length:=by omega
  simp[hie]
  obtain⟨row,Ev⟩: ∃r,(cA s)[i]=r:=⟨_,rfl⟩
  have aPN:row.length=s.ms.length:=kG s row (Ev▸List.getElem_mem hie)
  rw[Ev]
  refine aI (fun c:Nat=> [(0,.ptr s.c),(1,.sl (iv l)),(8,.loc gr 5 0 0),(10,.sl (cv (aY s.ms))),(11,.loc gp 5 0 0),(12,.int .i64 i),(13,.sl (iv row)),(46,.sl (ivv (cA s))),(47,.int .i64 (nR s)),(48,.int .i64 i),(53,.sl (cv (aY s.ms))),(54,.int .i64 (nC s)),(55,.int .i64 c)]) (fun c=>BB (part (iv (aTo s nA)) [.int .i64 0] (i*nC s+c)) (part (iv (right s l)) [.int .i64 0] 0)) (fun c=>c≤nC s) (fun c=>nC s - c) 113 0 (Nat.zero_le _) ⟨rfl,by simp[ec],sub_eq (by simp)⟩ ?_
  intro c hc
  refine aC ?_
  simp
  refine⟨fun hcl=> ?_,fun hcl=> ?_⟩
  ·have hcc:c<(aY s.ms).length:=hcl
   obtain⟨⟨k0,k1⟩,k2⟩:=nX s c hcl
   have qc:(cv (aY s.ms))[c]? =some [.int .i64 (eK s c).1,.int .i64 (eK s c).2]:=by simp[cv,eK,hcc]
   simp[qc]
   intro g1 hg1 hb1
   have n1p:g1≠gp:=fun e=>by rw[e,hBp] at hb1;cases hb1
   have n1a:g1≠ga:=fun e=>by rw[e,hBa] at hb1;cases hb1
   have f1:=aQ (hBs _ _) hb1
   obtain⟨⟨k,sg⟩,hk⟩: ∃k,eK s c=k:=⟨_,rfl⟩
   rw[hk] at k0 k1 k2 ⊢
   simp only at k0 k1 k2 ⊢
   have en:ent s i c=sg*lat row k.toNat:=by
    unfold ent
    rw[hk,qN,uR _ (kG s) i k.toNat hie (by omega),Ev]
   have bd: -100≤lat row k.toNat∧lat row k.toNat≤100:=by
    rw[←Ev,←uR _ (kG s) i k.toNat hie (by omega),←qN];exact rG hs _
   have qr:(iv row)[k.toNat]? =some [.int .i64 (lat row k.toNat)]:=tW (by omega)
   have w6:IntKind.i64.wrap (sg*lat row k.toNat)=ent s i c:=by
    rw[en];rcases k2 with rfl | rfl<;>exact i64_in (by omega) (by omega)
   have mc:(i+1)*nC s≤nA:=by rw[hA];exact Nat.mul_le_mul_right _ h
   rw[Nat.add_mul] at mc
   have mi:((i*nC s:Nat):Int)=(i:Int)*nC s:=by simp
   have w4:IntKind.i64.wrap ((i:Int)*nC s)=(i:Int)*nC s:=i64_in (by omega) (by omega)
   have w5:IntKind.i64.wrap ((i:Int)*nC s+c)=(i:Int)*nC s+c:=i64_in (by omega) (by omega)
   have w7:IntKind.i64.wrap ((c:Int)+1)=c+1:=i64_in (by omega) (by omega)
   have e1:((i:Int)*nC s+c).toNat=i*nC s+c:=by omega
   have p1:0≤(i:Int)*nC s+c:=by omega
   have p2:(i:Int)*nC s+c<nA:=by omega
   have p3:k<row.length:=by omega
   have hlt:i*nC s+c<(iv (aTo s nA)).length:=by simp;omega
   have ps:=cP (iv (aTo s nA)) [.int .i64 0] (i*nC s+c) hlt [.int .i64 (ent s i c)] (by
    rw[Rz s nA _ (by omega),Nat.mul_comm i,Nat.mul_add_div (by omega),Nat.mul_add_mod,Nat.div_eq_of_lt hcl,Nat.mod_eq_of_lt hcl,Nat.add_zero])
   have hK:Sub (upd (upd bl gp (some ⟨5,[[.int .i64 (nR s),.int .i64 (nC s),.lsl ga 1 0 nA,.lsl gb 1 0 (nR s),.lsl gc 1 0 (nC s)]]⟩)) g1 (some ⟨2,[[.int .i64 k,.int .i64 sg]]⟩)) (upd (BB (part (iv (aTo s nA)) [.int .i64 0] (i*nC s+c)) (List.replicate (right s l).length [.int .i64 0])) g1 (some ⟨2,[[.int .i64 k,.int .i64 sg]]⟩)):=by
    refine U8 fun x y hx=> ?_
    rw[aA] at hx
    split at hx
    ·rename_i e;rw[e,hBp];exact hx
    ·exact hBs _ _ x y hx
   have hkr:k.toNat<row.length:=by omega
   have er2:row[k.toNat]'hkr=lat row k.toNat:=by simp[lat,hkr]
   refine bA aN _ hK [0,1,2,3,4,5,6,7,8,9,10,11,12,13,14,15,16] 1 (by kernel_rfl) ?_
   simp[-dC,n1p,Ne.symm n1p,w4,w5,w6,qr,k0,p1,p2,p3,er2]
   refine Dz 17 ?_
   have pg:=fC (iv (aTo s nA)) [.int .i64 0] (i*nC s+c) hlt
   simp[n1a,Ne.symm n1a,hBa,e1,pg,ps,er2,w6]
   have hK2: ∀z,Sub (upd (upd bl gp (some ⟨5,[[.int .i64 (nR s),.int .i64 (nC s),.lsl ga 1 0 nA,.lsl gb 1 0 (nR s),.lsl gc 1 0 (nC s)]]⟩)) g1 (some ⟨2,[[.int .i64 k,.int .i64 sg]]⟩)) (upd (upd (BB (part (iv (aTo s nA)) [.int .i64 0] (i*nC s+c)) (List.replicate (right s l).length [.int .i64 0])) g1 (some ⟨2,[[.int .i64 k,.int .i64 sg]]⟩)) ga z):=by
    intro z x y hx
    have hxa:x≠ga:=fun e=>by
     rw[e,aA,if_neg (Ne.symm n1a),aA,if_neg ap,fa] at hx;cases hx
    rw[aA,if_neg hxa]
    exact hK x y hx
   refine⟨hK2 _,Dy ?_⟩
   simp[w7,aB]
   refine⟨c+1,by omega,by omega,rfl,by simp,?_⟩
   intro x y hx
   show upd (upd (BB _ _) g1 _) ga _ x=some y
   rw[aA,aA]
   split
   ·rename_i e;rw[e,hBa] at hx;exact hx
   ·rename_i e
    rw[if_neg (fun e=>by rw[e] at hx;rw[←aD5 (part (iv (aTo s nA)) [.int .i64 0] (i*nC s+c)),aA,if_neg n1a,hb1] at hx;cases hx)]
    rw[←aD5 (part (iv (aTo s nA)) [.int .i64 0] (i*nC s+c)),aA,if_neg e] at hx
    exact hx
  ·have:c=nC s:=by omega
   subst this
   have w7:IntKind.i64.wrap ((i:Int)+1)=i+1:=i64_in (by omega) (by omega)
   simp[w7,aB]
   exact⟨i+1,by omega,by omega,rfl,by simp,sub_eq (by rw[Nat.add_mul,Nat.one_mul])⟩
 ·have:i=nR s:=by omega
  subst this
  rw[←hA,gK _ _ _ (by simp)]
  refine aE (pO s (by omega)) ?_
  simp
  refine aI (fun i:Nat=> [(1,.sl (iv l)),(8,.loc gr 5 0 0),(11,.loc gp 5 0 0),(80,.sl (iv (aO s.js))),(81,.int .i64 (aO s.js).length),(82,.int .i64 i)]) (fun i=>BB (iv (aTo s nA)) (part (iv (right s l)) [.int .i64 0] (2*i))) (fun i=>i≤(aO s.js).length) (fun i=>(aO s.js).length - i) 113 0 (Nat.zero_le _) ⟨rfl,by simp,sub_eq (by simp)⟩ ?_
  intro i hi
  refine aC ?_
  simp
  refine⟨fun h=> ?_,fun h=> ?_⟩
  ·obtain⟨r1,r2⟩:=tX (List.getElem_mem h)
   have ra:=K5 s l (aO s.js) i h
   simp[h]
   obtain⟨j,hj⟩: ∃j,(aO s.js)[i]=j:=⟨_,rfl⟩
   rw[hj] at r1 r2 ra ⊢
   change lat (right s l) (2*i)=_∧lat (right s l) (2*i+1)=_ at ra
   have a1:(2*j).toNat<l.length:=by rw[hL.n];omega
   have a2:(2*j+1).toNat<l.length:=by rw[hL.n];omega
   have b1:=hL.f _ a1
   have b2:=hL.f _ a2
   have q1:=tW a1
   have q2:=tW a2
   have w1:IntKind.i64.wrap (2*j)=2*j:=i64_in (by omega) (by omega)
   have w2:IntKind.i64.wrap (2*j+1)=2*j+1:=i64_in (by omega) (by omega)
   have w3:IntKind.i64.wrap (-lat l (2*j).toNat)=lat (right s l) (2*i):=by rw[ra.1];exact i64_in (by omega) (by omega)
   have w4:IntKind.i64.wrap (-lat l (2*j+1).toNat)=lat (right s l) (2*i+1):=by rw[ra.2];exact i64_in (by omega) (by omega)
   have w5:IntKind.i64.wrap ((i:Int)+1)=i+1:=i64_in (by omega) (by omega)
   have w6:IntKind.i64.wrap (2*(i:Int))=2*i:=i64_in (by omega) (by omega)
   have w7:IntKind.i64.wrap (2*(i:Int)+1)=2*i+1:=i64_in (by omega) (by omega)
   have p1:0≤2*j:=by omega
   have p2:0≤2*j+1:=by omega
   have p3:2*(i:Int)<nR s:=by unfold nR;omega
   have p4:2*(i:Int)+1<nR s:=by unfold nR;omega
   have t1:(2*(i:Int)).toNat=2*i:=by omega
   have t2:(2*(i:Int)+1).toNat=2*i+1:=by omega
   have hl1:2*i<(iv (right s l)).length:=by rw[iU,dH];omega
   have hl2:2*i+1<(iv (right s l)).length:=by rw[iU,dH];omega
   have hK:Sub (upd bl gp (some ⟨5,[[.int .i64 (nR s),.int .i64 (nC s),.lsl ga 1 0 nA,.lsl gb 1 0 (nR s),.lsl gc 1 0 (nC s)]]⟩)) (BB (iv (aTo s nA)) (part (iv (right s l)) [.int .i64 0] (2*i))):=by
    intro x y hx
    rw[aA] at hx
    split at hx
    ·rename_i e;rw[e,hBp];exact hx
    ·exact hBs _ _ x y hx
   have hK2: ∀e,Sub (upd bl gp (some ⟨5,[[.int .i64 (nR s),.int .i64 (nC s),.lsl ga 1 0 nA,.lsl gb 1 0 (nR s),.lsl gc 1 0 (nC s)]]⟩)) (BB (iv (aTo s nA)) e):=by
    intro e x y hx
    rw[aA] at hx
    split at hx
    ·rename_i e;rw[e,hBp];exact hx
    ·exact hBs _ _ x y hx
   have g1:=fC (iv (right s l)) [.int .i64 0] (2*i) hl1
   have g2:=fC (iv (right s l)) [.int .i64 0] (2*i+1) hl2
   have s1:=cP (iv (right s l)) [.int .i64 0] (2*i) hl1 [.int .i64 (lat (right s l) (2*i))] (by
    have:=tW (l:=right s l) (i:=2*i) (by simpa using hl1);rw[List.getElem?_eq_getElem hl1] at this;exact(Option.some.inj this).symm)
   have s2:=cP (iv (right s l)) [.int .i64 0] (2*i+1) hl2 [.int .i64 (lat (right s l) (2*i+1))] (by
    have:=tW (l:=right s l) (i:=2*i+1) (by simpa using hl2);rw[List.getElem?_eq_getElem hl2] at this;exact(Option.some.inj this).symm)
   refine bA aN _ hK [0,1,2,3,4,5,6,7,8,9,10,11,12,13,14,15,16,17,18,19,20,21,22] 3 (by kernel_rfl) ?_
   have p5:0≤2*(i:Int):=by omega
   have p6:0≤2*(i:Int)+1:=by omega
   simp[-dC,w1,w2,w3,w4,w6,w7,q1,q2,p1,p2,p3,p4,p5,p6]
   refine rO (i:=23) (by kernel_rfl) (by rfl) (by rfl) ?_
   simp[hBb,t1,g1,s1,aCE]
   refine⟨hK2 _,rO (i:=24) (by kernel_rfl) (by rfl) (by rfl) ?_⟩
   simp[p4,p6]
   refine⟨hK2 _,rO (i:=25) (by kernel_rfl) (by rfl) (by rfl) ?_⟩
   simp[hBb,t2,g2,s2,aCE]
   refine⟨hK2 _,Dy ?_⟩
   simp[w5,aB]
   exact⟨i+1,by omega,by omega,rfl,by simp,sub_eq (by rw[Nat.mul_add])⟩
  ·have:i=(aO s.js).length:=by omega
   subst this
   have bO:part (iv (right s l)) [.int .i64 0] (2*(aO s.js).length)=iv (right s l):=by
    have e:(iv (right s l)).length=2*(aO s.js).length:=by rw[iU,dH];rfl
    rw[←e];exact gK _ _ _ (Nat.le_refl _)
   rw[bO]
   simp[hBp,hBr]
   refine kJ [.agg [.int .i64 (nR s),.int .i64 (nC s),.lsl ga 1 0 nA,.lsl gb 1 0 (nR s),.lsl gc 1 0 (nC s)]] [ga,gb,gc] (by simp) ?_ (by simp[fa,fb,fc]) ?_
   ·show OwnD _ (.a _) (.agg _) _
    rw[OwnD]
    refine⟨_,rfl,jI (uP _) (jI (uP _) (jI (g1:= [ga]) (eJ.2 (.inr ⟨ga,by simp[cK,hA],rfl,?_,by omega⟩)) (jI (g1:= [gb]) (eJ.2 (.inr ⟨gb,by simp[cK,dH],rfl,?_,by omega⟩)) (jI (g1:= [gc]) (eJ.2 (.inr ⟨gc,by simp[cK],rfl,?_,by omega⟩)) Md (by simp)) (by simp[Ne.symm cb])) (by simp[Ne.symm ba,Ne.symm ca])) (by simp)) (by simp)⟩
    ·simp[ar,hBa,cK,hA]
    ·simp[br,hBb,cK]
    ·simp[cr,hBc,cK,iv]
   ·intro x y hx
    have hxr:x≠gr:=fun e=>by rw[e,hbr] at hx;cases hx
    simp[hxr]
    exact hBs _ _ x y hx

theorem qH {bl:Int→Option Blk} {p:Pg} {v:V} {gs:List Int} :OwnD bl (dPg p) v gs ↔ ∃va vb vc ga gb gc,v= .agg [.int .i64 p.rows,.int .i64 p.aY,va,vb,vc]∧gs=ga++(gb++gc)∧(∀g,g∈ga→g∉gb++gc)∧(∀g,g∈gb→g∉gc)∧
  OwnD bl (fl 1 (iv p.a)) va ga∧OwnD bl (fl 1 (iv p.b)) vb gb∧OwnD bl (fl 1 (iv p.c)) vc gc:=by
 unfold dPg
 rw[OwnD]
 constructor
 ·rintro⟨vs,rfl,h⟩
  rw[OwnL] at h
  obtain⟨v1,vs1,g1,r1,rfl,rfl,_,h1,h⟩:=h
  rw[OwnD] at h1
  obtain⟨rfl,_,rfl⟩:=h1
  rw[OwnL] at h
  obtain⟨v2,vs2,g2,r2,rfl,rfl,_,h2,h⟩:=h
  rw[OwnD] at h2
  obtain⟨rfl,_,rfl⟩:=h2
  rw[OwnL] at h
  obtain⟨va,vs3,ga,r3,rfl,rfl,ha,h3,h⟩:=h
  obtain⟨vb,vc,gb,gc,rfl,rfl,hd,h4,h5⟩:=vO.1 h
  exact⟨va,vb,vc,ga,gb,gc,rfl,rfl,ha,hd,h3,h4,h5⟩
 ·rintro⟨va,vb,vc,ga,gb,gc,rfl,rfl,ha,hb,h1,h2,h3⟩
  refine⟨_,rfl,?_⟩
  show OwnL bl [_,_,_,_,_] [_,_,_,_,_] ([]++([]++(ga++(gb++gc))))
  exact jI (uP _) (jI (uP _) (jI h1 (vO.2 ⟨vb,vc,gb,gc,rfl,rfl,hb,h2,h3⟩) ha) (fun x hx=>by cases hx)) (fun x hx=>by cases hx)
def aNT :Pg:=⟨0,0,[],[],[]⟩
def aQ9 (s:Str) (l:List Int):Pg:=if lOk s l=true then cK s l else aNT
def aQK (p q:Pg):Bool:=decide (p.rows=q.rows)&& (decide (p.aY=q.aY)&& (decide (p.a=q.a)&& (decide (p.b=q.b)&& decide (p.c=q.c))))
def mkP (k:Nat) (p:Pg):Pg:=⟨p.rows,p.aY,marks k p.a.length,marks (k+p.a.length:Nat) p.b.length,marks (k+p.a.length+p.b.length:Nat) p.c.length⟩
def aQH (k:Nat) (p:Pg):Nat:=k+p.a.length+p.b.length+p.c.length
end Go.Proofs.YticmgmemnpcbbaaGreat.Vm

namespace Go.Proofs.YticmgmemnpcbbaaGreat.Vm
set_option linter.unusedSimpArgs false
set_option linter.unusedVariables false
def LB :Nat:=1000000000
theorem gZ :0<LB:=by decide
def lim (n:Nat):List Int:=if h:n=0 then [] else((n % LB:Nat):Int)::lim (n / LB)
termination_by n
decreasing_by exact Nat.div_lt_self (Nat.pos_of_ne_zero h) (by decide)
def val :List Int→Nat
 | [] => 0
 | d :: ds => d.toNat + LB * val ds
def Dig (l:List Int):Prop:= ∀d,d∈l→0≤d∧d<1000000000
theorem aW :lim 0= []:=by rw[lim,dif_pos rfl]
theorem mT {n:Nat} (h:n≠0):lim n=((n % LB:Nat):Int)::lim (n / LB):=by rw[lim,dif_neg h]
@[simp] theorem eE (n : Nat) : val (lim n) = n := by
 induction n using Nat.strongRecOn with
 | _ n ih =>
   by_cases h:n=0
   ·subst h;rw[aW];rfl
   ·rw[mT h,val,ih _ (Nat.div_lt_self (Nat.pos_of_ne_zero h) (by decide)),Int.toNat_natCast,Nat.mod_add_div]
theorem fI (n:Nat):Dig (lim n):=by
 induction n using Nat.strongRecOn with
 | _ n ih =>
   by_cases h:n=0
   ·subst h;rw[aW];intro d hd;cases hd
   ·rw[mT h]
    intro d hd
    rcases List.mem_cons.1 hd with rfl | hd
    ·have:n % LB<1000000000:=Nat.mod_lt _ gZ
     omega
    ·exact ih _ (Nat.div_lt_self (Nat.pos_of_ne_zero h) (by decide)) d hd
theorem Ci {a b:Nat} (h:lim a=lim b):a=b:=by rw[←eE a,←eE b,h]
@[simp] theorem Rt {a b : Nat} : lim a = lim b ↔ a = b := ⟨Ci, fun h => by rw [h]⟩
theorem eN {n:Nat} :lim n= [] ↔ n=0:=by rw[←aW,Rt]
theorem Dig.tail {d:Int} {l:List Int} (h:Dig (d::l)):Dig l:=fun x hx=>h x (List.mem_cons_of_mem _ hx)
theorem Dig.append {a b:List Int} :Dig (a++b) ↔ Dig a∧Dig b:=by
 constructor
 ·intro h;exact⟨fun d hd=>h d (List.mem_append_left _ hd),fun d hd=>h d (List.mem_append_right _ hd)⟩
 ·rintro⟨h1,h2⟩ d hd
  rcases List.mem_append.1 hd with hd | hd
  ·exact h1 d hd
  ·exact h2 d hd
theorem hH (a b:List Int):val (a++b)=val a+LB^a.length*val b:=by
 induction a with
 | nil => simp [val]
 | cons d a ih => rw [List.cons_append, val, ih, val, List.length_cons, Nat.pow_succ, Nat.mul_add, Nat.add_assoc, Nat.mul_comm (LB ^ a.length) LB, Nat.mul_assoc]
theorem xE {l:List Int} (h:Dig l):val l<LB^l.length:=by
 induction l with
 | nil => simp [val]
 | cons d l ih =>
   have h1:=h d List.mem_cons_self
   have h2:=ih h.tail
   rw[val,List.length_cons,Nat.pow_succ]
   have:LB*(val l+1)≤LB*LB^l.length:=Nat.mul_le_mul_left _ h2
   have h3:d.toNat<LB:=by unfold LB;omega
   rw[Nat.mul_comm (LB^l.length)]
   rw[Nat.mul_add] at this
   omega
theorem E4 {l:List Int} (h:Dig l) (hz: ∀d,l.getLast? =some d→d≠0):lim (val l)=l:=by
 induction l with
 | nil => exact aW
 | cons d l ih =>
   have h1:=h d List.mem_cons_self
   have hd:d.toNat<LB:=by unfold LB;omega
   have e1:(d.toNat+LB*val l) % LB=d.toNat:=by rw[Nat.add_mul_mod_self_left,Nat.mod_eq_of_lt hd]
   have e2:(d.toNat+LB*val l) / LB=val l:=by rw[Nat.add_mul_div_left _ _ gZ,Nat.div_eq_of_lt hd,Nat.zero_add]
   have hl:lim (val l)=l:=ih h.tail fun x hx=>hz x (by
    cases l with
    | nil => cases hx
    | cons y l => rw [List.getLast?_cons_cons]; exact hx)
   have hne:d.toNat+LB*val l≠0:=by
    intro h0
    have hv:val l=0:=by
     have:LB*val l=0:=by omega
     rcases Nat.mul_eq_zero.1 this with h | h
     ·exact absurd h (by decide)
     ·exact h
    rw[hv,aW] at hl
    subst hl
    have:d=0:=by omega
    exact hz d rfl this
   rw[val,mT hne,e1,e2,hl]
   congr 1
   omega
theorem J9 (n:Nat) (d:Int) (h:(lim n).getLast? =some d):d≠0:=by
 induction n using Nat.strongRecOn generalizing d with
 | _ n ih =>
   by_cases h0:n=0
   ·subst h0;rw[aW] at h;cases h
   ·rw[mT h0] at h
    have hlt:=Nat.div_lt_self (Nat.pos_of_ne_zero h0) (show 1<LB by decide)
    cases hq:lim (n / LB) with
    | nil =>
      rw[hq] at h
      simp at h
      subst h
      have hq0:=eN.1 hq
      have:=Nat.mod_add_div n LB
      rw[hq0] at this
      omega
    | cons y l =>
      rw[hq,List.getLast?_cons_cons,←hq] at h
      exact ih _ hlt d h
theorem aL {n k:Nat} :(lim n).length≤k ↔ n<LB^k:=by
 constructor
 ·intro h
  have h1:=xE (fI n)
  rw[eE] at h1
  exact Nat.lt_of_lt_of_le h1 (Nat.pow_le_pow_right gZ h)
 ·intro h
  induction k generalizing n with
  | zero => have : n = 0 := by simpa using h
            subst this;rw[aW];simp
  | succ k ih =>
    by_cases h0:n=0
    ·subst h0;rw[aW];simp
    ·rw[mT h0,List.length_cons]
     have:n / LB<LB^k:=by
      rw[Nat.div_lt_iff_lt_mul gZ,←Nat.pow_succ];exact h
     have:=ih this
     omega
theorem lK {a b:Nat} (h:(lim a).length<(lim b).length):a<b:=by
 have h1:a<LB^(lim a).length:=aL.1 (Nat.le_refl _)
 have h2: ¬ b<LB^(lim a).length:=fun hh=>by have:=aL.2 hh;omega
 omega
theorem bZ {a b:Nat} (h:a≤b):(lim a).length≤(lim b).length:=by
 rcases Nat.lt_or_ge (lim b).length (lim a).length with hh | hh
 ·have:=lK hh;omega
 ·exact hh
theorem pL {l:List Int} {n:Nat} (h: ∀i (hi:i<l.length),n≤i→l[i]=0):val (l.take n)=val l:=by
 induction l generalizing n with
 | nil => simp
 | cons d l ih =>
   cases n with
   | zero=>
     have hd:d=0:=by have:=h 0 (by simp) (Nat.le_refl _);simpa using this
     have:=ih (n:=0) fun i hi _=>by have:=h (i+1) (by simpa using hi) (by omega);simpa using this
     simp[val] at this ⊢
     subst hd;rw[←this];simp
   | succ n=>
     rw[List.take_succ_cons,val,val,ih fun i hi hn=>by have:=h (i+1) (by simpa using hi) (by omega);simpa using this]
theorem yO {l:List Int} (h:Dig l) (n:Nat):Dig (l.take n):=fun d hd=>h d (List.mem_of_mem_take hd)
theorem xF {l:List Int} {n:Nat} (h:Dig l) (hn:n≤l.length) (hz: ∀i (hi:i<l.length),n≤i→l[i]=0) (hl: ∀i (hi:i<l.length),n=i+1→l[i]≠0):l.take n=lim (val l):=by
 rw[←pL hz,E4 (yO h n)]
 intro d hd
 rw[List.getLast?_eq_getElem?] at hd
 have hlen:(l.take n).length=n:=by simp;omega
 rw[hlen] at hd
 obtain⟨h1,h2⟩:=List.getElem?_eq_some_iff.1 hd
 rw[hlen] at h1
 rw[List.getElem_take] at h2
 rw[←h2]
 exact hl (n - 1) (by omega) (by omega)

theorem jC {l:List Int} {i:Nat} (h:i<l.length):val (l.take (i+1))=val (l.take i)+LB^i*l[i].toNat:=by
 rw[List.take_add_one,List.getElem?_eq_getElem h,hH]
 have:(l.take i).length=i:=by simp;omega
 rw[this]
 simp[val]
theorem sV : ∀ {a b:List Int} {i:Nat} (ha:Dig a) (hb:Dig b) (hl:a.length=b.length) (hi:i<a.length),(∀j (h1:j<a.length),i<j→a[j]=b[j]'(hl▸h1))→a[i]<b[i]'(hl▸hi)→val a<val b
 | [], b, i, _, _, _, hi, _, _ => by simp at hi
 | x :: a, [], i, _, _, hl, _, _, _ => by simp at hl
 | x :: a, y :: b, 0, ha, hb, hl, _, he, hlt => by
   have hx:=ha x List.mem_cons_self
   have hy:=hb y List.mem_cons_self
   have hab:a=b:=by
    apply List.ext_getElem
    ·simpa using hl
    ·intro j h1 h2
     have:=he (j+1) (by simpa using h1) (by omega)
     simpa using this
   subst hab
   simp at hlt
   simp only[val]
   omega
 | x :: a, y :: b, i + 1, ha, hb, hl, hi, he, hlt => by
   have hx:=ha x List.mem_cons_self
   have hy:=hb y List.mem_cons_self
   have:=sV (a:=a) (b:=b) (i:=i) ha.tail hb.tail (by simpa using hl) (by simpa using hi) (fun j h1 h2=>by have:=he (j+1) (by simpa using h1) (by omega);simpa using this) (by simpa using hlt)
   simp only[val]
   have h2:LB*(val a+1)≤LB*val b:=Nat.mul_le_mul_left _ this
   rw[Nat.mul_add] at h2
   have:LB=1000000000:=rfl
   omega
def iK (a b:Nat):Int:=if a<b then -1 else if a=b then 0 else 1
theorem Fh {o:List Int} {i A S:Nat} {c x:Int} {P:Nat} (hP:P=LB^i) (ho:o.length=i) (hx0:0≤x) (hc:(val o:Int)+c*P=S) (hA:x=c+A):
  (val (o++ [x.tmod 1000000000]):Int)+x.tdiv 1000000000*(LB^(i+1):Nat)=(S+P*A:Nat):=by
 obtain⟨n,rfl⟩: ∃n:Nat,x=n:=⟨x.toNat,by omega⟩
 have e1:(n:Int).tmod 1000000000=(n % 1000000000:Nat):=by rw[Int.tmod_eq_emod_of_nonneg (by omega)];omega
 have e2:(n:Int).tdiv 1000000000=(n / 1000000000:Nat):=by rw[Int.tdiv_eq_ediv_of_nonneg (by omega)];omega
 rw[e1,e2,hH,ho,Nat.pow_succ,←hP]
 simp only[val,Int.toNat_natCast,Nat.mul_zero,Nat.add_zero]
 have h3:n % 1000000000+1000000000*(n / 1000000000)=n:=Nat.mod_add_div n _
 have h4:P*(n % 1000000000)+P*(1000000000*(n / 1000000000))=P*n:=by rw[←Nat.mul_add,h3]
 have h5:n / 1000000000*(P*LB)=P*(1000000000*(n / 1000000000)):=by
  show n / 1000000000*(P*1000000000)=_
  rw[Nat.mul_comm,Nat.mul_assoc]
 have h6:(P:Int)*n=P*c+P*A:=by rw[hA,Int.mul_add]
 have h7:(c:Int)*P=P*c:=Int.mul_comm _ _
 rw[←Int.natCast_mul,h5]
 have h8:((P*(n % 1000000000)+P*(1000000000*(n / 1000000000)):Nat):Int)=(P:Int)*n:=by rw[h4];simp
 rw[h6] at h8
 simp only[Int.natCast_add] at h8 ⊢
 have h9:((P*A:Nat):Int)=(P:Int)*A:=by simp
 rw[h9]
 omega

theorem oO : ∀ {l:List Int} {k:Nat} (h:k<l.length) (d:Int),val (l.set k d)+LB^k*l[k].toNat=val l+LB^k*d.toNat
 | [], k, h, d => by simp at h
 | x :: l, 0, h, d => by simp [val]; omega
 | x :: l, k + 1, h, d => by
   have hk:k<l.length:=by simpa using h
   have ih:=oO (l:=l) (k:=k) hk d
   have e:LB*(val (l.set k d)+LB^k*l[k].toNat)=LB*(val l+LB^k*d.toNat):=by rw[ih]
   rw[Nat.mul_add,Nat.mul_add,←Nat.mul_assoc,←Nat.mul_assoc,Nat.mul_comm LB (LB^k),←Nat.pow_succ] at e
   simp only[List.set_cons_succ,val,List.getElem_cons_succ]
   rw[Nat.succ_eq_add_one] at e
   omega
theorem Dig.set {l:List Int} (h:Dig l) {k:Nat} {d:Int} (hd:0≤d∧d<1000000000):Dig (l.set k d):=by
 intro x hx
 rcases List.mem_or_eq_of_mem_set hx with hx | rfl
 ·exact h x hx
 ·exact hd
theorem Dig.at {l:List Int} (h:Dig l) {k:Nat} (hk:k<l.length):0≤l[k]∧l[k]<1000000000:=h _ (List.getElem_mem hk)
theorem pN (n:Nat):Dig (List.replicate n 0):=by
 intro d hd
 rw[(List.mem_replicate.1 hd).2];decide
theorem pM (n:Nat):val (List.replicate n 0)=0:=by
 induction n with
 | zero => rfl
 | succ n ih => rw [List.replicate_succ, val, ih]; rfl
theorem xG {o:List Int} {i A B Sa Sb br br':Nat} {x:Int} (ho:o.length=i) (hI:val o+Sb=Sa+br*LB^i) (hx:x=(A:Int) - br - B+br'*1000000000) (hx0:0≤x):
  val (o++ [x])+(Sb+LB^i*B)=(Sa+LB^i*A)+br'*LB^(i+1):=by
 obtain⟨n,rfl⟩: ∃n:Nat,x=n:=⟨x.toNat,by omega⟩
 have hn:n+br+B=A+br'*LB:=by
  show n+br+B=A+br'*1000000000
  omega
 rw[hH,ho]
 simp only[val,Int.toNat_natCast,Nat.mul_zero,Nat.add_zero]
 have h1:LB^i*(n+br+B)=LB^i*(A+br'*LB):=by rw[hn]
 rw[Nat.mul_add,Nat.mul_add,Nat.mul_add] at h1
 have h2:br'*LB^(i+1)=LB^i*(br'*LB):=by rw[Nat.pow_succ,←Nat.mul_assoc,Nat.mul_comm br',Nat.mul_assoc]
 have h3:br*LB^i=LB^i*br:=Nat.mul_comm _ _
 omega
theorem yL {O:List Int} {k:Nat} (hk:k<O.length) (hO:Dig O) {n m c S:Nat} (hI:val O+c*LB^k=S):
  val (O.set k ((O[k]+n*m+c).tmod 1000000000))+((O[k]+n*m+c).tdiv 1000000000).toNat*LB^(k+1)=S+LB^k*(n*m):=by
 have h0:=hO.at hk
 obtain⟨o,ho⟩: ∃o:Nat,O[k]=o:=⟨O[k].toNat,by omega⟩
 have hv:=oO hk ((O[k]+n*m+c).tmod 1000000000)
 rw[ho] at hv ⊢
 obtain⟨x,hx⟩: ∃x:Nat,x=o+n*m+c:=⟨_,rfl⟩
 have hxi:(o:Int)+n*m+c=(x:Nat):=by rw[hx];simp
 rw[hxi] at hv ⊢
 have e1:(x:Int).tmod 1000000000=(x % 1000000000:Nat):=by rw[Int.tmod_eq_emod_of_nonneg (by omega)];omega
 have e2:(x:Int).tdiv 1000000000=(x / 1000000000:Nat):=by rw[Int.tdiv_eq_ediv_of_nonneg (by omega)];omega
 rw[e1] at hv ⊢
 rw[e2,Int.toNat_natCast]
 simp only[Int.toNat_natCast] at hv
 have h3:LB^k*(x % 1000000000+1000000000*(x / 1000000000))=LB^k*x:=by rw[Nat.mod_add_div]
 rw[Nat.mul_add] at h3
 have h4:x / 1000000000*LB^(k+1)=LB^k*(1000000000*(x / 1000000000)):=by
  rw[Nat.pow_succ,Nat.mul_comm,Nat.mul_assoc];rfl
 have h5:LB^k*x=LB^k*o+LB^k*(n*m)+LB^k*c:=by rw[hx,Nat.mul_add,Nat.mul_add]
 have h6:c*LB^k=LB^k*c:=Nat.mul_comm _ _
 omega
theorem R0 {o n m c:Int} (ho:0≤o∧o<1000000000) (hn:0≤n∧n<1000000000) (hm:0≤m∧m<1000000000) (hc:0≤c∧c<1000000000):
  0≤o+n*m+c∧o+n*m+c<1000000000000000000∧0≤(o+n*m+c).tdiv 1000000000∧(o+n*m+c).tdiv 1000000000<1000000000:=by
 have h1:0≤n*m:=Int.mul_nonneg hn.1 hm.1
 have h2:n*m≤999999999*999999999:=Int.mul_le_mul (by omega) (by omega) hm.1 (by omega)
 have h3:0≤o+n*m+c:=by omega
 rw[Int.tdiv_eq_ediv_of_nonneg h3]
 omega
theorem Au {Q A r b a:Nat} {L:Nat} (hI:A=Q*b+r) (hb:0<b):(a+L*A)=((r*L+a) / b+L*Q)*b+(r*L+a) % b:=by
 have h:=Nat.div_add_mod (r*L+a) b
 rw[hI,Nat.mul_add,Nat.add_mul]
 have h1:(r*L+a) / b*b=b*((r*L+a) / b):=Nat.mul_comm _ _
 have h2:L*(Q*b)=L*Q*b:=(Nat.mul_assoc _ _ _).symm
 have h3:L*r=r*L:=Nat.mul_comm _ _
 omega

theorem Et {g v t T ul vl:Nat} (hT:0<T) (hu:ul<T) (hv:0<v) (h:t<g*v):(t*T+ul) / (v*T+vl)<g:=by
 have hV:0<v*T+vl:=by have:=Nat.mul_pos hv hT;omega
 rw[Nat.div_lt_iff_lt_mul hV,Nat.mul_add,←Nat.mul_assoc]
 have h1:(t+1)*T≤g*v*T:=Nat.mul_le_mul_right _ h
 rw[Nat.add_mul] at h1
 omega
theorem W5 {g U V:Nat} (hV:0<V) (h:U<LB*V) (hg:LB≤g):U / V<g:=by
 rw[Nat.div_lt_iff_lt_mul hV]
 exact Nat.lt_of_lt_of_le h (Nat.mul_le_mul_right _ hg)
theorem B1 {g v1 v2 t T ul vl:Nat} (hvl:vl<T) (hv:0<v1) (hg:g<LB) (h:g*(v1*LB+v2)≤t):g≤(t*T+ul) / ((v1*LB+v2)*T+vl)+1:=by
 have hT:0<T:=by omega
 have hV:0<(v1*LB+v2)*T+vl:=by
  have:0<v1*LB+v2:=by have:=Nat.mul_pos hv gZ;omega
  have:=Nat.mul_pos this hT
  omega
 by_cases h0:g=0
 ·rw[h0];exact Nat.zero_le _
 have h1:g - 1≤(t*T+ul) / ((v1*LB+v2)*T+vl):=by
  rw[Nat.le_div_iff_mul_le hV]
  have e1:(g - 1)*((v1*LB+v2)*T+vl)+((v1*LB+v2)*T+vl)=g*((v1*LB+v2)*T+vl):=by
   obtain⟨k,rfl⟩: ∃k,g=k+1:=⟨g - 1,by omega⟩
   rw[Nat.add_sub_cancel,Nat.add_mul k 1,Nat.one_mul]
  have e2:g*((v1*LB+v2)*T+vl)=g*(v1*LB+v2)*T+g*vl:=by rw[Nat.mul_add,Nat.mul_assoc]
  have e3:g*(v1*LB+v2)*T≤t*T:=Nat.mul_le_mul_right _ h
  have e4:g*vl≤LB*T:=Nat.mul_le_mul (by omega) (by omega)
  have e5:LB*T≤(v1*LB+v2)*T:=Nat.mul_le_mul_right _ (by have:=Nat.mul_le_mul_right LB hv;omega)
  omega
 omega
theorem U3 {g r v1 v2 top u:Nat} (ht:top=g*v1+r) (hr:LB≤r) (vS:top≤v1*LB+(LB - 1)) (hv2:v2<LB) (hv1:0<v1):g<LB∧g*(v1*LB+v2)≤top*LB+u:=by
 have hb:=gZ
 have hg:g<LB:=by
  rcases Nat.lt_or_ge g LB with h | h
  ·exact h
  ·have:=Nat.mul_le_mul_right v1 h
   have e:v1*LB=LB*v1:=Nat.mul_comm _ _
   omega
 refine⟨hg,?_⟩
 have h1:g*v2≤LB*LB:=Nat.mul_le_mul (by omega) (by omega)
 have h2:LB*LB≤r*LB:=Nat.mul_le_mul_right _ hr
 have h3:top*LB=g*v1*LB+r*LB:=by rw[ht,Nat.add_mul]
 have h4:g*(v1*LB+v2)=g*v1*LB+g*v2:=by rw[Nat.mul_add,Nat.mul_assoc]
 omega
theorem wS {g r v1 v2 top u:Nat} (ht:top=g*v1+r):r*LB+u<g*v2 ↔ top*LB+u<g*(v1*LB+v2):=by
 have h3:top*LB=g*v1*LB+r*LB:=by rw[ht,Nat.add_mul]
 have h4:g*(v1*LB+v2)=g*v1*LB+g*v2:=by rw[Nat.mul_add,Nat.mul_assoc]
 omega

theorem Eg (n:Int) {d:Nat} (hd:d≠0):(mkRat n d).num.natAbs=n.natAbs / Nat.gcd n.natAbs d∧(mkRat n d).den=d / Nat.gcd n.natAbs d∧((mkRat n d).num<0 ↔ n<0):=by
 rw[←Rat.normalize_eq_mkRat hd,Rat.normalize_eq hd]
 have hg:0<Nat.gcd n.natAbs d:=Nat.gcd_pos_of_pos_right _ (Nat.pos_of_ne_zero hd)
 obtain⟨k,hk⟩:(Nat.gcd n.natAbs d:Int)∣n:=by
  exact Int.ofNat_dvd_left.2 (Nat.gcd_dvd_left _ _)
 show(n / ((Nat.gcd n.natAbs d:Nat):Int)).natAbs=_∧d / Nat.gcd n.natAbs d=_∧(n / ((Nat.gcd n.natAbs d:Nat):Int)<0 ↔ n<0)
 generalize Nat.gcd n.natAbs d=g at *
 have e:n / (g:Int)=k:=by rw[hk,Int.mul_ediv_cancel_left _ (by omega)]
 have ea:n.natAbs / g=k.natAbs:=by rw[hk,Int.natAbs_mul,Int.natAbs_natCast,Nat.mul_div_cancel_left _ hg]
 refine⟨by rw[e,ea],rfl,?_⟩
 show n / (g:Int)<0 ↔ n<0
 rw[e,hk]
 constructor
 ·intro h;exact Int.mul_neg_of_pos_of_neg (by omega) h
 ·intro h
  by_cases h1:k<0
  ·exact h1
  ·have:=Int.mul_nonneg (show 0≤(g:Int) by omega) (show 0≤k by omega);omega
theorem Sx (a b:Rat) (hb:b.num≠0):a / b=mkRat (a.num*(b.num.sign*b.den)) (a.den*b.num.natAbs):=by
 rw[Rat.div_def,Rat.mul_def',Rat.num_inv,Rat.den_inv,if_neg hb]
theorem Io (a b:Rat):a<b ↔ a.num*b.den<b.num*a.den:=Rat.lt_iff a b

theorem Gx {x t T rl bl:Nat} (hb:bl<T) (ht:0<t):x / (t+1)≤(x*T+rl) / (t*T+bl):=by
 have hT:0<T:=by omega
 have hV:0<t*T+bl:=by have:=Nat.mul_pos ht hT;omega
 rw[Nat.le_div_iff_mul_le hV]
 have h1:t*T+bl≤(t+1)*T:=by rw[Nat.add_mul];omega
 have h2:x / (t+1)*(t*T+bl)≤x / (t+1)*((t+1)*T):=Nat.mul_le_mul_left _ h1
 have h3:x / (t+1)*(t+1)≤x:=Nat.div_mul_le_self _ _
 have h4:x / (t+1)*((t+1)*T)≤x*T:=by rw[←Nat.mul_assoc];exact Nat.mul_le_mul_right _ h3
 omega
theorem R6 {x t T rl bl:Nat} (hr:rl<T) (ht:0<t):(x*T+rl) / (t*T+bl)≤x / t:=by
 have hT:0<T:=by omega
 have hV:0<t*T:=Nat.mul_pos ht hT
 have h1:(x*T+rl) / (t*T+bl)≤(x*T+rl) / (t*T):=Nat.div_le_div_left (by omega) hV
 have h2:(x*T+rl) / (t*T)=x / t:=by
  rw[Nat.mul_comm t T,←Nat.div_div_eq_div_mul,Nat.mul_comm x T,Nat.mul_add_div hT,Nat.div_eq_of_lt hr,Nat.add_zero]
 omega
theorem Az {b r q:Nat} (hb:0<b):b*q≤r ↔ q≤r / b:=by
 rw[Nat.le_div_iff_mul_le hb,Nat.mul_comm]

theorem take_set {O:List Int} {k:Nat} (hk:k<O.length) (hO:Dig O) {m c c' S A:Nat} {x:Int} (hI:val O+S=A+c*LB^k) (hx:x=O[k] - m - c+c'*1000000000) (hx0:0≤x):
  val (O.set k x)+(S+LB^k*m)=A+c'*LB^(k+1):=by
 have h0:=hO.at hk
 have hv:=oO hk x
 obtain⟨o,ho⟩: ∃o:Nat,O[k]=o:=⟨O[k].toNat,by omega⟩
 obtain⟨n,rfl⟩: ∃n:Nat,x=n:=⟨x.toNat,by omega⟩
 rw[ho] at hv hx
 simp only[Int.toNat_natCast] at hv
 have hn:n+m+c=o+c'*LB:=by
  show n+m+c=o+c'*1000000000
  omega
 have h1:LB^k*(n+m+c)=LB^k*(o+c'*LB):=by rw[hn]
 rw[Nat.mul_add,Nat.mul_add,Nat.mul_add] at h1
 have h2:c'*LB^(k+1)=LB^k*(c'*LB):=by rw[Nat.pow_succ,←Nat.mul_assoc,Nat.mul_comm c',Nat.mul_assoc]
 have h3:c*LB^k=LB^k*c:=Nat.mul_comm _ _
 omega
theorem X6 {o x c:Int} (hx:x<0) (hc:c=(1000000000 - 1 - x).tdiv 1000000000):0≤x+c*1000000000∧x+c*1000000000<1000000000∧0≤c:=by
 rw[Int.tdiv_eq_ediv_of_nonneg (by omega)] at hc
 omega
theorem Hj {O:List Int} {k:Nat} (hk:k<O.length) (hO:Dig O) {m c S:Nat} (hI:val O+c*LB^k=S):
  val (O.set k ((O[k]+m+c).tmod 1000000000))+((O[k]+m+c).tdiv 1000000000).toNat*LB^(k+1)=S+LB^k*m:=by
 have:=yL hk hO (n:=m) (m:=1) hI
 simpa using this

theorem vE {a b:Nat} (h:(lim a).length<(lim b).length):iK a b= -1:=by
 have:=lK h
 unfold iK;rw[if_pos this]
theorem yM {a b:Nat} (h:(lim b).length<(lim a).length):iK a b=1:=by
 have:=lK h
 unfold iK;rw[if_neg (by omega),if_neg (by omega)]
theorem Ec {a b i:Nat} (hl:(lim a).length=(lim b).length) (h1:i<(lim a).length) (h2:i<(lim b).length) (he: ∀j (h1:j<(lim a).length) (h2:j<(lim b).length),i<j→(lim a)[j]=(lim b)[j]) (h:(lim a)[i]<(lim b)[i]):iK a b= -1:=by
 have:=sV (fI a) (fI b) hl h1 (fun j hj hij=>he j hj _ hij) h
 rw[eE,eE] at this
 unfold iK;rw[if_pos this]
theorem Ek {a b i:Nat} (hl:(lim a).length=(lim b).length) (h1:i<(lim a).length) (h2:i<(lim b).length) (he: ∀j (h1:j<(lim a).length) (h2:j<(lim b).length),i<j→(lim a)[j]=(lim b)[j]) (h:(lim b)[i]<(lim a)[i]):iK a b=1:=by
 have:=sV (fI b) (fI a) hl.symm h2 (fun j hj hij=>(he j (hl▸hj) hj hij).symm) h
 rw[eE,eE] at this
 unfold iK;rw[if_neg (by omega),if_neg (by omega)]
theorem Ku {a b:Nat} (hl:(lim a).length=(lim b).length) (he: ∀j (h1:j<(lim a).length) (h2:j<(lim b).length),(lim a)[j]=(lim b)[j]):iK a b=0:=by
 have:a=b:=Ci (List.ext_getElem hl fun j h1 h2=>he j h1 h2)
 subst this
 unfold iK;rw[if_neg (by omega),if_pos rfl]
def pv (a i:Nat):Nat:=val ((lim a).take i)
def dg (a i:Nat):Nat:=(((lim a)[i]?).getD 0).toNat
theorem eC (a i:Nat):dg a i<1000000000:=by
 unfold dg
 rcases h:(lim a)[i]? with _ | d
 ·simp
 ·have:=fI a d (List.mem_of_getElem? h)
  simp;omega
theorem fP {a i:Nat} (h:i<(lim a).length):(lim a)[i]=(dg a i:Nat):=by
 have:=(fI a).at h
 unfold dg
 rw[List.getElem?_eq_getElem h]
 simp;omega
theorem jB {a i:Nat} (h:(lim a).length≤i):dg a i=0:=by
 unfold dg
 rw[List.getElem?_eq_none h];rfl
theorem Ga {a b i:Nat} (hl:(lim a).length=(lim b).length) (hi:i<(lim a).length) (he: ∀j,i<j→dg a j=dg b j) (h:dg a i<dg b i):iK a b= -1:=
 Ec hl hi (hl▸hi) (fun j h1 h2 hj=>by rw[fP h1,fP h2,he j hj]) (by rw[fP hi,fP (hl▸hi)];omega)
theorem Jx {a b i:Nat} (hl:(lim a).length=(lim b).length) (hi:i<(lim a).length) (he: ∀j,i<j→dg a j=dg b j) (h:dg b i<dg a i):iK a b=1:=
 Ek hl hi (hl▸hi) (fun j h1 h2 hj=>by rw[fP h1,fP h2,he j hj]) (by rw[fP hi,fP (hl▸hi)];omega)
theorem Lh {a b:Nat} (hl:(lim a).length=(lim b).length) (he: ∀j,dg a j=dg b j):iK a b=0:=
 Ku hl fun j h1 h2=>by rw[fP h1,fP h2,he j]
@[simp] theorem aKB (a : Nat) : pv a 0 = 0 := by simp [pv, val]
theorem dW (a i:Nat):pv a (i+1)=pv a i+LB^i*dg a i:=by
 rcases Nat.lt_or_ge i (lim a).length with h | h
 ·unfold pv
  rw[jC h,fP h,Int.toNat_natCast]
 ·unfold pv
  rw[jB h,List.take_of_length_le h,List.take_of_length_le (by omega)];simp
theorem eY {a i:Nat} (h:(lim a).length≤i):pv a i=a:=by
 unfold pv;rw[List.take_of_length_le h,eE]
theorem N3 (a i:Nat):pv a i<LB^i:=by
 have h1:=xE (yO (fI a) i)
 refine Nat.lt_of_lt_of_le h1 (Nat.pow_le_pow_right gZ ?_)
 simp;omega
theorem nY {n:Nat} (h:n≠0):LB^((lim n).length - 1)≤n:=by
 rcases Nat.lt_or_ge n (LB^((lim n).length - 1)) with hh | hh
 ·have:=aL.2 hh
  have:(lim n).length≠0:=fun h0=>h (eN.1 (List.length_eq_zero_iff.1 h0))
  omega
 ·exact hh
theorem Lc {o:List Int} {n:Nat} (ho:Dig o) (hv:val o=n) (hn:o.length=0∨LB^(o.length - 1)≤n):lim n=o:=by
 rw[←hv]
 refine E4 ho fun d hd h0=> ?_
 subst h0
 rcases o.eq_nil_or_concat with rfl | ⟨o',x,e⟩
 ·cases hd
 ·rw[List.concat_eq_append] at e
  subst e
  simp at hd;subst hd
  simp[hH,val] at hv hn
  have:=xE (Dig.append.1 ho).1
  omega
structure jL (a b i : Nat) (o : List Int) (c : Int) : Prop where
 len:o.length=i
 dig:Dig o
 c0:0≤c
 c1:c≤1
 v:(val o:Int)+c*(LB^i:Nat)=(pv a i+pv b i:Nat)
theorem jL.start (a b:Nat):jL a b 0 [] 0:=⟨rfl,(fun _ h=>by cases h),by decide,by decide,by simp[val]⟩
theorem jL.x {a b i:Nat} {o:List Int} {c:Int} (h:jL a b i o c):0≤c+dg a i+dg b i∧c+dg a i+dg b i≤1999999999:=by
 have:=eC a i;have:=eC b i;have:=h.c0;have:=h.c1;omega
theorem jL.next {a b i:Nat} {o:List Int} {c x:Int} (h:jL a b i o c) (hx:x=c+dg a i+dg b i):jL a b (i+1) (o++ [x.tmod 1000000000]) (x.tdiv 1000000000):=by
 have hb:=h.x
 rw[←hx] at hb
 have e1:x.tmod 1000000000=x % 1000000000:=Int.tmod_eq_emod_of_nonneg hb.1
 have e2:x.tdiv 1000000000=x / 1000000000:=Int.tdiv_eq_ediv_of_nonneg hb.1
 refine⟨by simp[h.len],Dig.append.2 ⟨h.dig,fun d hd=> ?_⟩,by omega,by omega,?_⟩
 ·simp at hd;subst hd;omega
 ·rw[Fh (P:=LB^i) (A:=dg a i+dg b i) rfl h.len hb.1 h.v (by rw[hx];simp;omega),dW,dW]
  congr 1
  rw[Nat.mul_add];omega
theorem jL.impl {a b i:Nat} {o:List Int} {c:Int} (h:jL a b i o c) (ha:(lim a).length≤i) (hb:(lim b).length≤i):Dig (o++ [c])∧val (o++ [c])=a+b:=by
 have h0:=h.c0;have h1:=h.c1
 refine⟨Dig.append.2 ⟨h.dig,fun d hd=> ?_⟩,?_⟩
 ·simp at hd;subst hd;omega
 ·have:=h.v
  rw[eY ha,eY hb] at this
  rw[hH,h.len]
  simp only[val,Nat.mul_zero,Nat.add_zero]
  have e:c=0∨c=1:=by omega
  generalize LB^i=P at this ⊢
  rcases e with rfl | rfl
  ·simp at this ⊢;omega
  ·simp at this ⊢;omega
theorem jL.spec {a b i:Nat} {o:List Int} (h:jL a b i o 0) (ha:(lim a).length≤i) (hb:(lim b).length≤i) (hn:i=0∨LB^(i - 1)≤a+b):o=lim (a+b):=by
 have:=h.v
 rw[eY ha,eY hb] at this
 refine(Lc h.dig (by simp at this;omega) ?_).symm
 rw[h.len];exact hn
theorem jL.more {a b i:Nat} {o:List Int} {c:Int} (h:jL a b i o c) (hc:i<(lim a).length∨i<(lim b).length∨0<c):LB^i≤a+b:=by
 have ex: ∀n,i<(lim n).length→LB^i≤n:=fun n hn=>by
  have h0:n≠0:=fun h=>by rw[h,aW] at hn;simp at hn
  exact Nat.le_trans (Nat.pow_le_pow_right gZ (by omega)) (nY h0)
 by_cases h1:i<(lim a).length
 ·have:=ex a h1;omega
 by_cases h2:i<(lim b).length
 ·have:=ex b h2;omega
 have h3:0<c:=by omega
 have hv:=h.v
 rw[eY (by omega),eY (by omega)] at hv
 have hc1:=h.c1
 have e:c=1:=by omega
 subst e
 generalize LB^i=P at hv ⊢
 omega
structure gH (a b i : Nat) (o : List Int) (br : Nat) : Prop where
 len:o.length=i
 dig:Dig o
 c1:br≤1
 v:val o+pv b i=pv a i+br*LB^i
theorem gH.start (a b:Nat):gH a b 0 [] 0:=⟨rfl,(fun _ h=>by cases h),by decide,by simp[val]⟩
theorem gH.x {a b i:Nat} {o:List Int} {br:Nat} (h:gH a b i o br): -1000000000≤(dg a i:Int) - br - dg b i∧(dg a i:Int) - br - dg b i≤999999999:=by
 have:=eC a i;have:=eC b i;have:=h.c1;omega
theorem gH.A8 {a b i:Nat} {o:List Int} {br:Nat} {x:Int} (h:gH a b i o br) (hx:x=(dg a i:Int) - br - dg b i) (h0:0≤x):gH a b (i+1) (o++ [x]) 0:=by
 have hb:=h.x
 refine⟨by simp[h.len],Dig.append.2 ⟨h.dig,fun d hd=> ?_⟩,by decide,?_⟩
 ·simp at hd;subst hd;omega
 ·rw[dW,dW]
  exact xG (br':=0) h.len h.v (by rw[hx];simp) h0
theorem gH.zY {a b i:Nat} {o:List Int} {br:Nat} {x:Int} (h:gH a b i o br) (hx:x=(dg a i:Int) - br - dg b i) (h0:x<0):gH a b (i+1) (o++ [x+1000000000]) 1:=by
 have hb:=h.x
 refine⟨by simp[h.len],Dig.append.2 ⟨h.dig,fun d hd=> ?_⟩,by decide,?_⟩
 ·simp at hd;subst hd;omega
 ·rw[dW,dW]
  exact xG (br':=1) h.len h.v (by rw[hx];simp) (by omega)
theorem gH.done {a b i:Nat} {o:List Int} {br:Nat} (h:gH a b i o br) (hab:b≤a) (ha:(lim a).length≤i):val o=a - b:=by
 have hv:=h.v
 have hb:=bZ hab
 rw[eY ha,eY (by omega)] at hv
 have:=xE h.dig
 rw[h.len] at this
 have:br=0∨br=1:=by have:=h.c1;omega
 rcases this with rfl | rfl<;>omega
end Go.Proofs.YticmgmemnpcbbaaGreat.Vm
