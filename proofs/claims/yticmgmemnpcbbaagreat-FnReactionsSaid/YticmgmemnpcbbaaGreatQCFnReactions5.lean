import Derived.Test.YticmgmemnpcbbaaGreatQCFnReactions4

namespace Go.Proofs.YticmgmemnpcbbaaGreat.Vm
open Go Go.Proofs
set_option linter.unusedSimpArgs false
set_option linter.unusedVariables false
def fvs (xs:List (Option Rat)):List (List V):=xs.map fun x=> [fv x]
@[simp] theorem Qk (xs : List (Option Rat)) : (fvs xs).length = xs.length := by simp [fvs]
@[simp] theorem aDL (xs : List (Option Rat)) (i : Nat) (h : i < (fvs xs).length) : (fvs xs)[i] = [fv (xs[i]'(by simpa using h))] := by simp [fvs]
@[simp] theorem aK8 (x : Option Rat) : (fv x).cl = true := by cases x <;> rfl
@[simp] theorem aI4 (x : Option Rat) : (fv x).one = true := by cases x <;> rfl
@[simp] theorem aEO (x : Option Rat) : (fv x).cells = [fv x] := by cases x <;> rfl
theorem Da (xs:List (Option Rat)):(fvs xs).all (fun r=>r.all V.cl)=true:=by simp[fvs]
theorem Cr (xs:List (Option Rat)): ∀r,r∈fvs xs→r.length=1:=by
 intro r hr
 obtain⟨n,_,rfl⟩:=List.mem_map.1 hr
 rfl
theorem U5 {bl:Int→Option Blk} {xs:List (Option Rat)} {v:V} {gs:List Int} :OwnD bl (fl 1 (fvs xs)) v gs ↔ (xs= []∧v= .nils∧gs= [])∨ ∃g,v= .lsl g 1 0 xs.length∧gs= [g]∧bl g=some ⟨1,fvs xs⟩∧(g<0→xs= []):=by
 rw[uN (Da xs) (Cr xs)]
 simp[fvs]
def okL (xs:List (Option Rat)):Prop:= ∀x,x∈xs→okQ x
def dL (xs:List (Option Rat)) (b:Bool):D:= .t [fl 1 (fvs xs),.c (.bool b)]
theorem rE {bl:Int→Option Blk} {d:D} {b:Bool} {v:V} {gs:List Int} :OwnD bl (.t [d,.c (.bool b)]) v gs ↔ ∃w,v= .tup [w,.bool b]∧OwnD bl d w gs:=by
 rw[OwnD]
 constructor
 ·rintro⟨vs,rfl,h⟩
  obtain⟨v,w,g1,g2,rfl,rfl,hd,h1,h2⟩:=qF.1 h
  rw[OwnD] at h2
  obtain⟨rfl,_,rfl⟩:=h2
  exact⟨v,rfl,by simpa using h1⟩
 ·rintro⟨w,rfl,h⟩
  exact⟨_,rfl,qF.2 ⟨w,.bool b,gs,[],rfl,by simp,fun x hx h=>(by cases h),h,wU b⟩⟩
theorem Ta (xs:List (Option Rat)) (b:Bool) (n:Nat):(dL xs b).dep (n+2):=by
 unfold dL;rw[D.dep];exact⟨by omega,by simp[D.depL,D.dep,mN]⟩
theorem aBO (xs:List (Option Rat)) (b:Bool):(dL xs b).fz= .tup [.sl (fvs xs),.bool b]:=by simp[dL,D.fz,D.fzL]
def iN (rs:List RT):Bool:=rs.all fun r=>(rd r).isSome
def bA (rs:List RT):List (Option Rat):=rs.map rd
@[simp] theorem Kp (rs : List RT) : (bA rs).length = rs.length := by simp [bA]
theorem He (rs:List RT):okL (bA rs):=by
 intro x hx
 obtain⟨r,_,rfl⟩:=List.mem_map.1 hx
 exact Qc r
theorem Ec (rs:List RT) (hq:xE rs 1048576):NW Tryz.prog 152 [.sl (rv rs)] (dL (if iN rs=true then bA rs else []) (iN rs)):=by
 have hw:=hq.1
 refine jQ Tryz.func152 rfl rfl (by rw[Tryz.ntmps152];simp) fun bl=> ?_
 rw[Tryz.ntmps152,Tryz.results152]
 refine aC ?_
 simp
 refine⟨by omega,by unfold maxLen;omega,fun g hg0 hg=> ?_⟩
 refine aP (fun i:Nat=> [(4,.lsl g 1 0 rs.length),(10,.sl (rv rs)),(11,.int .i64 rs.length),(12,.int .i64 i)]) (fun i=>upd bl g (some ⟨1,part (fvs (bA rs)) [.nilp] i⟩)) (fun i=>i≤rs.length∧ ∀r,r∈rs.take i→(rd r).isSome=true) (fun i=>rs.length - i) _ 0 ⟨Nat.zero_le _,by simp⟩ ⟨rfl,by simp,sub_eq (by simp)⟩ ?_
 rintro i ⟨hi,dI⟩
 refine aC ?_
 simp
 refine⟨fun h=> ?_,fun h=> ?_⟩
 ·have hi':i<(fvs (bA rs)).length:=by simpa using h
  simp[h,RT.c]
  intro g2 hg2 h2g hb2
  try simp[h2g,Ne.symm h2g]
  have hr:=hq.2 _ (List.getElem_mem h)
  refine aD (W6 rs[i] (by have:=hr.1;omega) (by have:=hr.2;omega)) ?_
  have hpl:i<(part (fvs (bA rs)) [.nilp] i).length:=by simp[part];omega
  have hpi:(part (fvs (bA rs)) [.nilp] i)[i]? =some [.nilp]:=eR _ _ _ hi'
  have hpe:(part (fvs (bA rs)) [.nilp] i)[i]= [.nilp]:=by
   rw[List.getElem?_eq_getElem hpl] at hpi;exact Option.some.inj hpi
  rcases ev:rd rs[i] with _ | a
  ·have hno:iN rs=false:=by
    rw[Bool.eq_false_iff]
    intro hh
    have:=List.all_eq_true.1 hh rs[i] (List.getElem_mem h)
    rw[ev] at this;cases this
   simp[h,ev,fv,hpl,hpe,h2g,Ne.symm h2g,hno]
   refine fA [.nils,.bool false] [] (by simp) ?_ (by simp) (by simp[hg,hb2])
   exact rE.2 ⟨.nils,rfl,U5.2 (.inl ⟨rfl,rfl,rfl⟩)⟩
  ·have M9:(part (fvs (bA rs)) [.nilp] i).set i [fv (some a)]=part (fvs (bA rs)) [.nilp] (i+1):=by
    rw[cJ _ _ _ hi']
    simp[bA,ev]
   simp[h,ev,fv,hpl,hpe,h2g,Ne.symm h2g]
   simp (disch:=omega) [i64_in,aB]
   refine⟨i+1,⟨by omega,fun r hr=> ?_⟩,by omega,rfl,by simp,?_⟩
   ·rw[List.take_add_one,List.getElem?_eq_getElem h] at hr
    rcases List.mem_append.1 hr with hr | hr
    ·exact dI r hr
    ·obtain rfl:r=rs[i]:=by simpa using hr
     rw[ev];rfl
   ·have e2:=M9
    simp only[fv] at e2
    intro z y hz
    simp only[aA,e2] at hz ⊢
    grind
 ·have hi2:i=rs.length:=by omega
  have Bd:iN rs=true:=List.all_eq_true.2 fun r hr=>dI r (by rw[hi2,List.take_length];exact hr)
  simp[Bd]
  refine fA [.lsl g 1 0 rs.length,.bool true] [g] (by simp) ?_ (by simpa using hg) (by simp[hg])
  rw[gD _ _ _ (by simpa using h)]
  exact rE.2 ⟨_,rfl,U5.2 (.inr ⟨g,by simp,rfl,by simp,by omega⟩)⟩
theorem Hf (rs:List RT) (hq:xE rs 1048576):RO Tryz.prog 152 [.sl (rv rs)] (.tup [.sl (fvs (if iN rs=true then bA rs else [])),.bool (iN rs)]):=by
 have:=eK 2 (Ec rs hq) (Ta _ _ 0)
 rwa [aBO] at this
def Fs (rs:List RT):Bool:=decide (rs.length≤24)&& iN rs
def bZ (xs:List (Option Rat)):Bool:=xs.all Option.isSome
def cZ (xs:List (Option Rat)):List RT:=xs.map ro
@[simp] theorem Lw (xs : List (Option Rat)) : (cZ xs).length = xs.length := by simp [cZ]
def stQ (xs:List (Option Rat)):List RT:=if bZ xs=true then cZ xs else []
def dV (rs:List RT) (b:Bool):D:= .t [dRs rs,.c (.bool b)]
theorem Hb (rs:List RT) (b:Bool) (n:Nat):(dV rs b).dep (n+3):=by
 unfold dV;rw[D.dep];exact⟨by omega,by simp[D.depL,D.dep,Ko]⟩
theorem Nj (rs:List RT) (b:Bool):(dV rs b).fz= .tup [.sl (rv rs),.bool b]:=by simp[dV,D.fz,D.fzL,Un]
theorem aDW (rs:List RT) (b:Bool):(dV rs b).sc=true:=by simp[dV,D.sc,D.scL,Qs,V.ow]
theorem Cy {bl:Int→Option Blk} {rs:List RT} {b:Bool} {v:V} {gs:List Int} (h:OwnD bl (dV rs b) v gs): ∃w,v= .tup [w,.bool b]∧OwnD bl (dRs rs) w gs∧w.one=true∧w.cells= [w]:=by
 obtain⟨w,rfl,o⟩:=rE.1 h
 exact⟨w,rfl,o,Jh o⟩
theorem qJ {bl:Int→Option Blk} (b:Bool):OwnD bl (dV [] b) (.tup [.nils,.bool b]) []:=rE.2 ⟨.nils,rfl,P7.2 (.inl ⟨rfl,rfl,rfl⟩)⟩
theorem yW (xs:List (Option Rat)) (hx:okL xs) (hw:xs.length≤1048576):NW Tryz.prog 73 [.sl (fvs xs)] (dV (stQ xs) (bZ xs)):=by
 refine jQ Tryz.func73 rfl rfl (by rw[Tryz.ntmps73];simp) fun bl=> ?_
 rw[Tryz.ntmps73,Tryz.results73]
 refine aC ?_
 simp
 refine⟨by omega,by unfold maxLen;omega,fun g hg0 hg=> ?_⟩
 refine aP (fun p:aKO=> [(4,.lsl g 3 0 xs.length),(10,.sl (fvs xs)),(11,.int .i64 xs.length),(12,.int .i64 p.els.length)]) (fun p=>p.b)
  (fun p=>p.els.length≤xs.length∧(∀x,x∈xs.take p.els.length→x.isSome=true)∧p.b g=some ⟨3,p.els++List.replicate (xs.length - p.els.length) [.bool false,.nils,.nils]⟩∧OwnR p.b 3 (((cZ xs).map dR).take p.els.length) p.els p.gs∧g∉p.gs∧(∀x,x∈p.gs→bl x=none)∧Sub bl p.b)
  (fun p=>xs.length - p.els.length) 26 ⟨[],[],upd bl g (some ⟨3,List.replicate xs.length [.bool false,.nils,.nils]⟩)⟩ ⟨Nat.zero_le _,by simp,by simp,by simp[OwnR],by simp,by simp,by simp[hg]⟩ ⟨rfl,by simp,by simp⟩ ?_
 rintro⟨els,gs,b⟩ ⟨hi,dI,hb,ho,hn,hf,hs⟩
 simp only at hi dI hb ho hn hf hs
 refine aC ?_
 simp
 refine⟨fun h=> ?_,fun h=> ?_⟩
 ·rcases ex:xs[els.length] with _ | q
  ·have hno:bZ xs=false:=by
    rw[Bool.eq_false_iff]
    intro hh
    have:=List.all_eq_true.1 hh xs[els.length] (List.getElem_mem h)
    rw[ex] at this;cases this
   have hst:stQ xs= []:=by unfold stQ;rw[hno];rfl
   simp[h,ex,fv]
   rw[hno,hst]
   refine fA [.nils,.bool false] [] (by simp) (qJ _) (by simp) hs
  ·simp[h,ex,fv]
   have hq0:okQ (some q):=by rw[←ex];exact hx _ (List.getElem_mem h)
   have Is:=uJ (some q) hq0
   rw[show fv (some q)= .ptr (rq q).c from rfl] at Is
   refine iZ Is fun v gv b' o f fr=> ?_
   rw[OwnD] at o
   obtain⟨vs,rfl,o⟩:=o
   obtain⟨vm,vd,_,_,rfl,_,_,om,od⟩:=B6.1 o
   have c1:=om.one.1
   have d1:=od.one.1
   have hb':b' g=_:=eL f fr hb
   have hgv:g∉gv:=fun hh=>by have:=f g hh;rw[hb] at this;cases this
   simp[h,hb',Gs els [.bool false,.nils,.nils] xs.length h,c1,d1]
   simp (disch:=omega) [i64_in,aB]
   have gg:=Bv els [.bool false,.nils,.nils] [.bool (ro (some q)).neg,vm,vd] xs.length h
   refine⟨⟨els++ [[.bool (ro (some q)).neg,vm,vd]],gs++gv,upd b' g (some ⟨3,(els++ [[.bool (ro (some q)).neg,vm,vd]])++List.replicate (xs.length - (els++ [[V.bool (ro (some q)).neg,vm,vd]]).length) [.bool false,.nils,.nils]⟩)⟩,⟨by simp;omega,?_,by simp,?_,?_,?_,?_⟩,by simp;omega,rfl,by simp,sub_eq ?_⟩
   ·intro x hx
    simp only[List.length_append,List.length_singleton] at hx
    rw[List.take_add_one,List.getElem?_eq_getElem h] at hx
    rcases List.mem_append.1 hx with hx | hx
    ·exact dI x hx
    ·obtain rfl:x=xs[els.length]:=by simpa using hx
     rw[ex];rfl
   ·have h2:els.length<(cZ xs).length:=by simpa using h
    have ht:((cZ xs).map dR).take (els++ [[V.bool (ro (some q)).neg,vm,vd]]).length=((cZ xs).map dR).take els.length++ [dR (ro (some q))]:=by
     rw[List.length_append,List.length_singleton,List.take_add_one,List.getElem?_map,List.getElem?_eq_getElem h2];simp[cZ,ex]
    simp only
    rw[ht]
    refine OwnR.snoc (o.frame fun x hx=>by simp[show x≠g from fun e=>hgv (e▸hx)]) rfl (by simp[c1,d1]) (ho.fU fun x hx y hy=> ?_) fun x hx hx2=> ?_
    ·rw[aA,if_neg (fun e=>hn (by rw[←e];exact hx))];exact eL f fr hy
    ·exact ho.not (f x hx2) hx
   ·simp only[List.mem_append];rintro(h | h)
    ·exact hn h
    ·exact hgv h
   ·intro x hx
    rcases List.mem_append.1 hx with hx | hx
    ·exact hf x hx
    ·exact dA hs (f x hx)
   ·exact Fv hg fun x y hy=>eL f fr (hs x y hy)
   ·exact congrArg (fun e=>upd b' g (some (Blk.mk 3 e))) gg
 ·have hl:els.length=xs.length:=by omega
  have Bd:bZ xs=true:=List.all_eq_true.2 fun x hx=>dI x (by rw[hl,List.take_length];exact hx)
  have hst:stQ xs=cZ xs:=by unfold stQ;rw[Bd];rfl
  rw[Bd,hst]
  refine fA [.lsl g 3 0 xs.length,.bool true] (g::gs) (by simp) ?_ (by simpa [hg] using hf) hs
  refine rE.2 ⟨_,rfl,P7.2 (.inr ⟨g,els,gs,by simp,rfl,hn,?_,by omega,?_⟩)⟩
  ·show b g=_
   rw[hb,hl];simp
  ·rw[hl] at ho
   rw[List.take_of_length_le (by simp)] at ho
   exact ho
theorem qZ :okL [none]:=by
 intro x hx
 obtain rfl:x=none:=by simpa using hx
 intro q h;cases h

def iQ (s:Str) (q:List RT):Bool:=(sOk s && decide (q.length=s.ms.length))&& iN q
theorem C7 (s:Str) (q:List RT) (hj:s.js.length≤140737488351232) (hm:s.ms.length≤140737488351232) (hn: ∀j,j∈s.js→j.name.size≤140737488351232) (hq:xE q 1048576):RO Tryz.prog 77 [.ptr s.c,.sl (rv q)] (.tup [.sl (fvs (if iQ s q=true then bA q else [])),.bool (iQ s q)]):=by
 refine aK Tryz.func77 rfl rfl (by rw[Tryz.ntmps77];simp) fun bl=> ?_
 rw[Tryz.ntmps77,Tryz.results77]
 refine aC ?_
 simp[Str.c]
 refine aV [(0,.ptr s.c),(1,.sl (rv q)),(4,.nils),(5,.bool false)] _ bl 20 (.bool (!(sOk s && decide (q.length=s.ms.length)))) ⟨rfl,by simp[Str.c],Sub.refl _⟩ rfl ?_ ?_
 ·simp[Str.c]
  refine⟨fun h=> ?_,fun h=> ?_⟩
  ·right;omega
  ·refine aD (fB s hj hm hn) ?_
   simp
   intro h2;omega
 cases hw:(sOk s && decide (q.length=s.ms.length))
 ·have hf:iQ s q=false:=by unfold iQ;rw[hw];rfl
  rw[hf]
  simp
  exact aQ [.nils,.bool false] 1 (by simp) (by simp[frz,fvs,V.cl]) (Sub.refl _)
 ·have hf:iQ s q=iN q:=by unfold iQ;rw[hw];rfl
  rw[hf]
  simp
  refine aD (Hf q hq) ?_
  simp
  exact aQ [.sl (fvs (if iN q=true then bA q else [])),.bool (iN q)] 1 (by simp) (by simp[frz]) (Sub.refl _)
def Cc (m:Mb) (x:Option Rat):Bool:=(decide (m.kind=1)&& decide (sgq x<0))|| (decide (m.kind=2)&& decide (0<sgq x))
def aJJ (ms:List Mb) (q:List RT) (n:Nat):Prop:= ∀k (h1:k<ms.length) (h2:k<q.length),k<n→Cc ms[k] (rd q[k])=false
def aNN (s:Str) (q:List RT):Bool:=iQ s q && (List.zip s.ms q).all fun p=> !Cc p.1 (rd p.2)

def pTo (e:Mb→Int) (s:Str) (q:List (Option Rat)) (j:Int):Nat→Option Rat
 | 0 => some 0
 | n + 1 => if j = (mat s n).a ∨ j = (mat s n).b then op2 (· + ·) (pTo e s q j n) (op2 (· * ·) (q.getD n none) (some (e (mat s n) : Rat))) else pTo e s q j n
theorem oX (e:Mb→Int) (s:Str) (q:List (Option Rat)) (j:Int): ∀n,okQ (pTo e s q j n)
 | 0 => fun x h => by cases h; exact At
 | n + 1 => by
   unfold pTo;split
   ·exact gJ _ _ _
   ·exact oX e s q j n
def pX (s:Str) (q:List (Option Rat)) (j:Int):Option Rat:=pTo (eqX s j) s q j s.ms.length
def pY (s:Str) (q:List (Option Rat)) (j:Int):Option Rat:=pTo (eqY s j) s q j s.ms.length
theorem sK (s:Str) (i:Nat) (h:i<s.ms.length):mat s i=s.ms[i]:=by simp[mat,h]
theorem Hr {s:Str} (hs:SOk s) {m:Mb} (hm:m∈s.ms):(-100≤vx s m∧vx s m≤100)∧(-100≤vy s m∧vy s m≤100):=by
 obtain⟨⟨a1,a2⟩,⟨b1,b2⟩⟩:=hs.ix _ hm
 have ha:=hs.pl m.a.toNat (by omega)
 have hb:=hs.pl m.b.toNat (by omega)
 unfold vx vy jat
 omega
theorem Z9 :((0:Int):Rat)=0:=rfl
theorem Ky (s:Str) (q:List (Option Rat)) (j:Int) (hs:SOk s) (hq:okL q) (hl:q.length=s.ms.length):RO Tryz.prog 80 [.ptr s.c,.sl (fvs q),.int .i64 j] (.tup [fv (pX s q j),fv (pY s q j)]):=by
 have hn:=hs.nm
 have w0:=eO 0 (by omega)
 rw[Z9] at w0
 refine aK Tryz.func80 rfl rfl (by rw[Tryz.ntmps80];simp) fun bl=> ?_
 rw[Tryz.ntmps80,Tryz.results80]
 refine aC ?_
 simp
 refine aD w0 ?_
 simp
 refine aD w0 ?_
 simp[Str.c]
 refine aP (fun i:Nat=> [(0,.ptr s.c),(1,.sl (fvs q)),(2,.int .i64 j),(8,fv (pTo (eqX s j) s q j i)),(9,fv (pTo (eqY s j) s q j i)),(19,.sl (mv s.ms)),(20,.int .i64 s.ms.length),(21,.int .i64 i)]) (fun _=>bl) (fun i=>i≤s.ms.length) (fun i=>s.ms.length - i) _ 0 (Nat.zero_le _) ⟨rfl,by simp[Str.c,pTo],Sub.refl _⟩ ?_
 intro i hi
 refine aC ?_
 simp
 refine⟨fun h=> ?_,fun h=> ?_⟩
 ·have h2:i<q.length:=by omega
  have hm:=sK s i h
  have hv:=nJ s i hs (by omega) (by omega)
  rw[hm] at hv
  have hle:=Hr hs (List.getElem_mem h)
  have hqi:q.getD i none=q[i]:=by simp[h2]
  have hok:=hq _ (List.getElem_mem h2)
  simp[h,Mb.c]
  intro g2 hg2 hb2
  refine aD hv ?_
  simp
  refine⟨fun hja=> ?_,fun hja=>⟨fun hjb=> ?_,fun hjb=> ?_⟩⟩
  ·obtain⟨cx,hcx⟩: ∃c:Int,vx s s.ms[i]=c:=⟨_,rfl⟩
   obtain⟨cy,hcy⟩: ∃c:Int,vy s s.ms[i]=c:=⟨_,rfl⟩
   have ex:eqX s j s.ms[i]=cx:=by unfold eqX;rw[if_pos hja];exact hcx
   have ey:eqY s j s.ms[i]=cy:=by unfold eqY;rw[if_pos hja];exact hcy
   have bx: -100≤cx∧cx≤100:=by omega
   have by_: -100≤cy∧cy≤100:=by omega
   have e1:pTo (eqX s j) s q j (i+1)=op2 (· + ·) (pTo (eqX s j) s q j i) (op2 (· * ·) q[i] (some (cx:Rat))):=by
    rw[pTo,hm,if_pos (.inl hja),hqi,ex]
   have e2:pTo (eqY s j) s q j (i+1)=op2 (· + ·) (pTo (eqY s j) s q j i) (op2 (· * ·) q[i] (some (cy:Rat))):=by
    rw[pTo,hm,if_pos (.inl hja),hqi,ey]
   rw[hcx,hcy]
   refine bI aN (by kernel_rfl) ?_
   simp[h2]
   refine aG (eO cx (by omega)) ?_
   simp
   refine aG (vK q[i] _ hok (mU (by omega))) ?_
   simp
   refine aG (kI _ _ (oX _ _ _ _ _) (gJ _ _ _)) ?_
   simp
   refine bI aN (by kernel_rfl) ?_
   simp[h2]
   refine aG (eO cy (by omega)) ?_
   simp
   refine aG (vK q[i] _ hok (mU (by omega))) ?_
   simp
   refine aG (kI _ _ (oX _ _ _ _ _) (gJ _ _ _)) ?_
   simp (disch:=omega) [i64_in,aB]
   refine⟨i+1,by omega,by omega,rfl,by simp[e1,e2],by simp[hb2]⟩
  ·obtain⟨cx,hcx⟩: ∃c:Int, -vx s s.ms[i]=c:=⟨_,rfl⟩
   obtain⟨cy,hcy⟩: ∃c:Int, -vy s s.ms[i]=c:=⟨_,rfl⟩
   have ex:eqX s j s.ms[i]=cx:=by unfold eqX;rw[if_neg hja,if_pos hjb];exact hcx
   have ey:eqY s j s.ms[i]=cy:=by unfold eqY;rw[if_neg hja,if_pos hjb];exact hcy
   have bx: -100≤cx∧cx≤100:=by omega
   have by_: -100≤cy∧cy≤100:=by omega
   have e1:pTo (eqX s j) s q j (i+1)=op2 (· + ·) (pTo (eqX s j) s q j i) (op2 (· * ·) q[i] (some (cx:Rat))):=by
    rw[pTo,hm,if_pos (.inr hjb),hqi,ex]
   have e2:pTo (eqY s j) s q j (i+1)=op2 (· + ·) (pTo (eqY s j) s q j i) (op2 (· * ·) q[i] (some (cy:Rat))):=by
    rw[pTo,hm,if_pos (.inr hjb),hqi,ey]
   have wx:IntKind.i64.wrap (-vx s s.ms[i])=cx:=by rw[i64_in (by omega) (by omega)];exact hcx
   have wy:IntKind.i64.wrap (-vy s s.ms[i])=cy:=by rw[i64_in (by omega) (by omega)];exact hcy
   rw[wx,wy]
   refine bI aN (by kernel_rfl) ?_
   simp[h2]
   refine aG (eO cx (by omega)) ?_
   simp
   refine aG (vK q[i] _ hok (mU (by omega))) ?_
   simp
   refine aG (kI _ _ (oX _ _ _ _ _) (gJ _ _ _)) ?_
   simp
   refine bI aN (by kernel_rfl) ?_
   simp[h2]
   refine aG (eO cy (by omega)) ?_
   simp
   refine aG (vK q[i] _ hok (mU (by omega))) ?_
   simp
   refine aG (kI _ _ (oX _ _ _ _ _) (gJ _ _ _)) ?_
   simp (disch:=omega) [i64_in,aB]
   refine⟨i+1,by omega,by omega,rfl,by simp[e1,e2],by simp[hb2]⟩
  ·have e1:pTo (eqX s j) s q j (i+1)=pTo (eqX s j) s q j i:=by rw[pTo,hm,if_neg];rintro(h | h);exact hja h;exact hjb h
   have e2:pTo (eqY s j) s q j (i+1)=pTo (eqY s j) s q j i:=by rw[pTo,hm,if_neg];rintro(h | h);exact hja h;exact hjb h
   simp (disch:=omega) [i64_in,aB]
   refine⟨i+1,by omega,by omega,rfl,by simp[e1,e2],by simp[hb2]⟩
 ·have hi2:i=s.ms.length:=by omega
  subst hi2
  exact aQ [fv (pX s q j),fv (pY s q j)] 1 (by simp[pX,pY]) (by simp[frz,pX,pY]) (Sub.refl _)

def Uh (s:Str) (q:List RT) (j:Int):Bool:=iQ s q && (decide (0≤j)&& decide (j<s.js.length))
def pqs (s:Str) (q:List RT) (j:Int):List (Option Rat):=if Uh s q j=true then [pX s (bA q) j,pY s (bA q) j] else [none]
theorem Em {s:Str} {q:List RT} (h:iQ s q=true):SOk s∧q.length=s.ms.length∧iN q=true:=by
 unfold iQ at h;simp at h
 exact⟨B4 h.1.1,h.1.2,h.2⟩

def aM4 (s:Str):List D:= [fl 4 (jv s.js),fl 3 (mv s.ms)]
structure Str.sz (s : Str) : Prop where
 js:s.js.length≤140737488351232
 ms:s.ms.length≤140737488351232
 nm: ∀j,j∈s.js→j.name.size≤140737488351232

def aDF (k:Nat) (out:ByteArray):ByteArray:=if h:k=0 then out else aDF (k / 10) (tW [IntKind.u8.wrap (IntKind.i64.wrap (48+(k:Int).tmod 10))]++out)
termination_by k
decreasing_by omega
def Zh (k:Nat):ByteArray:=if k=0 then { data:= #[109,48] } else({ data:= #[109] } :ByteArray)++aDF k { data:= #[] }
def mkJ (k n:Nat):List J:=(List.range n).map fun i=>⟨Zh (k+4*i),(k+4*i+1:Nat),(k+4*i+2:Nat),((k+4*i+3:Nat):Int).tmod 3==0⟩
def mkM (k n:Nat):List Mb:=(List.range n).map fun i=>⟨(k+3*i:Nat),(k+3*i+1:Nat),(k+3*i+2:Nat)⟩
def mkS (k:Nat) (s:Str):Str:=⟨mkJ k s.js.length,mkM (k+4*s.js.length) s.ms.length⟩
def mkN (k:Nat) (s:Str):Nat:=k+4*s.js.length+3*s.ms.length

end Go.Proofs.YticmgmemnpcbbaaGreat.Vm

namespace Go.Proofs.YticmgmemnpcbbaaGreat.Vm
open Go Go.Proofs
set_option linter.unusedSimpArgs false
set_option linter.unusedVariables false
def aKS (s:Str):List Int:=if sOk s=true then List.replicate (2*s.js.length) 0 else []

def aLK (s:Str):List Int:=if sOk s=true then aI s.js else []
theorem oO (s:Str) (hj:s.js.length≤1048576):RO Tryz.prog 74 [.ptr s.c] (.sl (iv (aI s.js))):=by
 have:=eK 1 (xU s hj) (mN _ _ 0)
 simpa using this
def aK5 (s:Str):Int:=if sOk s=true then s.ms.length - 2*(aI s.js).length else 0
end Go.Proofs.YticmgmemnpcbbaaGreat.Vm

namespace Go.Proofs.YticmgmemnpcbbaaGreat.Vm
open Go Go.RowKit
set_option linter.unusedSimpArgs false
set_option linter.unusedVariables false
def HStep (P:Program) (ops:Array Oper) (blK:Int→Option Blk) (i:Nat) (K:St→Prop) (σ:St):Prop:=match ops[i]? with
 | some o => ∃ v, DY P ops blK o σ v ∧ K (σ.put o.dst v)
 | none => False
theorem oU {P:Program} {id:Nat} {ops:Array Oper} {K:Ex→St→Prop} {σ:St} (hm:P.follows .mixedOrders=true) (blK:Int→Option Blk) (hs:Sub blK σ.bl) (is:List Nat) (fuel n:Nat) (hn:(ops.size==fuel+is.length && is.all (fun i=>decide (i<ops.size))&& hoistB ops is (Array.replicate ops.size false)&& zB ops (fun j=>decide (n≤j)) is)=true)
  (h:HoistF P (ops.toList.map (·.dst)) blK (is.filterMap fun i=>ops[i]?) (iM P ops blK (fun j=>decide (n≤j)) (K .normal) fuel (fQ is (Array.replicate ops.size false))) σ):AW P (.region id ops true) K σ:=by
 simp only[Bool.and_eq_true,beq_iff_eq] at hn
 exact iG hm is fuel blK hs hn.1.1.1 hn.1.2 (tl:=fun j=>decide (n≤j)) (jG hn.2) (iL _ is σ (filter_some is hn.1.1.2) h)
end Go.Proofs.YticmgmemnpcbbaaGreat.Vm

namespace Go.Proofs.YticmgmemnpcbbaaGreat.Vm
open Go Go.Proofs
set_option linter.unusedSimpArgs false
set_option linter.unusedVariables false
def lN (l:List Int) (k:Nat):Int:=l.getD k 0
theorem Il {l:List Int} {k:Nat} (h:k<l.length):lN l k=l[k]:=by simp[lN,h]
def fX (s:Str) (l:List Int) (q:List (Option Rat)) (i:Nat):Option Rat:=op2 (· + ·) (pX s q i) (some (lN l (2*i):Rat))
def fY (s:Str) (l:List Int) (q:List (Option Rat)) (i:Nat):Option Rat:=op2 (· + ·) (pY s q i) (some (lN l (2*i+1):Rat))
theorem aE1 (s:Str) (l:List Int) (q:List (Option Rat)) (i:Nat):okQ (fX s l q i):=gJ _ _ _
theorem Zm (s:Str) (l:List Int) (q:List (Option Rat)) (i:Nat):okQ (fY s l q i):=gJ _ _ _
def isZ (x:Option Rat):Bool:=x.isSome && decide (sgq x=0)
def aJN (s:Str) (l:List Int) (q:List (Option Rat)) (i:Nat):Bool:=isZ (fX s l q i)&& isZ (fY s l q i)
def aLJ (s:Str) (l:List Int) (q:List RT):Bool:=(iQ s q && gL s.js l)&& (aI s.js).all fun j=>aJN s l (bA q) j.toNat
theorem Y5 (js:List J) (t:Nat) (h:t<(aI js).length): ∃i:Nat,(aI js)[t]=i∧i<js.length:=by
 have hm:(aI js)[t]∈aI js:=List.getElem_mem h
 generalize (aI js)[t]=x at hm ⊢
 unfold aI cI at hm
 obtain⟨i,hi,rfl⟩:=List.mem_map.1 hm
 have:=List.mem_filter.1 hi
 exact⟨i,rfl,by simpa using this.1⟩
theorem Di {js:List J} {l:List Int} (h:gL js l=true):l.length=2*js.length∧ ∀k,k<l.length→ -100≤lN l k∧lN l k≤100:=by
 unfold gL at h
 rw[Bool.and_eq_true] at h
 refine⟨by simpa using h.1,fun k hk=> ?_⟩
 have:=List.all_eq_true.1 h.2 l[k] (List.getElem_mem hk)
 rw[Il hk]
 simpa [gI] using this
def aM6 (s:Str) (l:List Int) (q:List RT) (i:Nat):List RT:=if bZ [pX s (bA q) i,pY s (bA q) i]=true then [ro (fX s l (bA q) i),ro (fY s l (bA q) i)] else []
def aMQ (s:Str) (l:List Int) (q:List RT) (i:Nat):Bool:=bZ [fX s l (bA q) i,fY s l (bA q) i]

theorem N6 (x:Option Rat):RO Tryz.prog 103 [fv x] (fv (x.map (- ·))):=by
 cases x with
 | none =>
   refine aK Tryz.func103 rfl rfl (by rw[Tryz.ntmps103];simp) fun bl=> ?_
   rw[Tryz.ntmps103,Tryz.results103]
   refine aC ?_
   simp[fv]
   exact aR (by simp) rfl rfl
 | some q =>
   have hop:=jR q.num
   rw[dP,dP,Int.natAbs_neg] at hop
   refine aK Tryz.func103 rfl rfl (by rw[Tryz.ntmps103];simp) fun bl=> ?_
   rw[Tryz.ntmps103,Tryz.results103]
   refine aC ?_
   rw[show fv (some q)= .ptr (rq q).c from rfl,eG,show fv ((some q).map (- ·))= .ptr [.bool (decide (-q.num<0)),.sl (iv (lim q.num.natAbs)),.sl (iv (lim q.den))] by
    show V.ptr (rq (-q)).c=_
    rw[eG]
    show V.ptr [.bool (decide (-q.num<0)),.sl (iv (lim (-q.num).natAbs)),.sl (iv (lim q.den))]=_
    rw[Int.natAbs_neg]]
   simp
   refine bS aN bl (Sub.refl _) [0,1,2,3,4,5,6,7,8] 3 (by kernel_rfl) ?_
   simp
   refine aG hop ?_
   simp
   refine Dz 9 ?_
   simp
   refine Dz 10 ?_
   simp
   intro g hg0 hg
   refine⟨by simp[hg],Dz 11 ?_⟩
   simp
   refine⟨by simp[hg],Dy ?_⟩
   simp
   refine aQ [.loc g 3 0 0] 1 (by simp) ?_ (by simp[hg])
   show frz _ 1 (.loc g 3 0 0)=_
   rw[kB (e:= [.bool (decide (0<q.num)),.sl (iv (lim q.num.natAbs)),.sl (iv (lim q.den))]) (by simp[dropB,hg])]
   rfl
def tJ (s:Str) (l:List Int) (q:List RT) (j:Int):Bool:=(iQ s q && gL s.js l)&& ((decide (0≤j)&& decide (j<s.js.length))&& (s.js.getD j.toNat default).fixed)
def oZ (s:Str) (l:List Int) (q:List RT) (j:Int):List (Option Rat):=if tJ s l q j=true then [(fX s l (bA q) j.toNat).map (- ·),(fY s l (bA q) j.toNat).map (- ·)] else [none]
theorem Ls (s:Str) (l:List Int) (q:List RT) (j:Int):okL (oZ s l q j)∧(oZ s l q j).length≤24:=by
 unfold oZ;split
 ·refine⟨fun x hx=> ?_,by simp⟩
  rcases List.mem_cons.1 hx with rfl | hx
  ·exact uD (aE1 _ _ _ _)
  ·obtain rfl:x=_:=by simpa using hx
   exact uD (Zm _ _ _ _)
 ·exact⟨qZ,by simp⟩
theorem pL (s:Str) (l:List Int) (q:List RT) (j:Int) (hj:s.js.length≤140737488351232) (hm:s.ms.length≤140737488351232) (hn: ∀j,j∈s.js→j.name.size≤140737488351232) (hl:l.length≤140737488351232) (hq:xE q 1048576):NW Tryz.prog 34 [.agg s.c,.sl (iv l),.sl (rv q),.int .i64 j] (dV (stQ (oZ s l q j)) (bZ (oZ s l q j))):=by
 refine jQ Tryz.func34 rfl rfl (by rw[Tryz.ntmps34];simp) fun bl=> ?_
 rw[Tryz.ntmps34,Tryz.results34]
 refine aE ?_
 simp[Str.c]
 intro g hg0 hg
 refine dJ 1 4 (.ptr s.c) bl (by simp[hg]) (by simp[frz,dropB,hg,Str.c,V.cl]) ?_
 refine aC ?_
 simp
 refine aD (C7 s q hj hm hn hq) ?_
 simp
 refine aV [(1,.sl (iv l)),(3,.int .i64 j),(4,.ptr s.c),(8,.nils),(9,.bool false),(10,.sl (fvs (if iQ s q=true then bA q else []))),(11,.bool (iQ s q))] _ bl 45 (.bool (!tJ s l q j)) ⟨rfl,by simp,Sub.refl _⟩ rfl ?_ ?_
 ·cases hf:iQ s q
  ·simp[tJ,hf]
  simp
  refine aD (tH s l hj hl) ?_
  cases h1:gL s.js l
  ·simp[tJ,hf,h1]
  by_cases h2:j<0
  ·have h3: ¬ 0≤j:=by omega
   simp[tJ,hf,h1,h2,h3]
  have h3:0≤j:=by omega
  by_cases h4:j<s.js.length
  ·have h5: ¬ (s.js.length:Int)≤j:=by omega
   have h6:j.toNat<s.js.length:=by omega
   simp[tJ,hf,h1,h2,h3,h4,h5,h6,Str.c,J.c]
  ·have h5:(s.js.length:Int)≤j:=by omega
   simp[tJ,hf,h1,h2,h3,h4,h5,Str.c]
 cases hp:tJ s l q j
 ·have hz:oZ s l q j= [none]:=by unfold oZ;rw[hp];rfl
  rw[hz]
  simp
  exact fA [.nils,.bool false] [] (by simp) (qJ _) (by simp) (Sub.refl _)
 have hz:oZ s l q j= [(fX s l (bA q) j.toNat).map (- ·),(fY s l (bA q) j.toNat).map (- ·)]:=by unfold oZ;rw[hp];rfl
 unfold tJ at hp
 simp only[Bool.and_eq_true,decide_eq_true_eq] at hp
 obtain⟨⟨hf,hfl⟩,⟨h0,h1⟩,aL1⟩:=hp
 obtain⟨i,rfl⟩: ∃i:Nat,j=i:=⟨j.toNat,by omega⟩
 have hi:i<s.js.length:=by omega
 obtain⟨hs,hlen,dI⟩:=Em hf
 obtain⟨hll,hlb⟩:=Di hfl
 have hnj:=hs.nj
 obtain⟨hzo,_⟩:=Ls s l q i
 rw[hz] at hzo
 simp only[Int.toNat_natCast] at hz hzo
 rw[hz,hf]
 have b1:=hlb (2*i) (by omega)
 have b2:=hlb (2*i+1) (by omega)
 have w1:IntKind.i64.wrap (2*(i:Int))=2*i:=i64_in (by omega) (by omega)
 have w2:IntKind.i64.wrap (2*(i:Int)+1)=2*i+1:=i64_in (by omega) (by omega)
 have p1:2*i<l.length:=by omega
 have p2:2*i+1<l.length:=by omega
 have p3:2*(i:Int)<l.length:=by omega
 have p4:2*(i:Int)+1<l.length:=by omega
 have p5:0≤2*(i:Int):=by omega
 have p6:0≤2*(i:Int)+1:=by omega
 have p7:(2*(i:Int)).toNat=2*i:=by omega
 have p8:(2*(i:Int)+1).toNat=2*i+1:=by omega
 have q1:=Il p1
 have q2:=Il p2
 have hWX:=eO (lN l (2*i)) (by omega)
 have hWY:=eO (lN l (2*i+1)) (by omega)
 have hAX:=kI (pX s (bA q) i) (some (lN l (2*i):Rat)) (oX _ _ _ _ _) (mU (by omega))
 have hAY:=kI (pY s (bA q) i) (some (lN l (2*i+1):Rat)) (oX _ _ _ _ _) (mU (by omega))
 change RO Tryz.prog _ _ (fv (fX s l (bA q) i)) at hAX
 change RO Tryz.prog _ _ (fv (fY s l (bA q) i)) at hAY
 rw[q1] at hWX hAX
 rw[q2] at hWY hAY
 have hNX:=N6 (fX s l (bA q) i)
 have hNY:=N6 (fY s l (bA q) i)
 simp
 refine aD (Ky s (bA q) i hs (He q) (by simpa using hlen)) ?_
 generalize (fX s l (bA q) i).map (- ·)=nx at *
 generalize (fY s l (bA q) i).map (- ·)=ny at *
 simp
 refine bS aN bl (Sub.refl _) [0,1,2,3,4,5,6,7,8,9,10,11,12,13,14,15,16,17,18] 6 (by kernel_rfl) ?_
 simp[w1,w2,p1,p2,p3,p4,p5,p6,p7,p8]
 refine aG hWX ?_
 simp
 refine aG hAX ?_
 simp
 refine aG hNX ?_
 simp[w1,w2,p1,p2,p3,p4,p5,p6,p7,p8]
 refine aG hWY ?_
 simp
 refine aG hAY ?_
 simp
 refine aG hNY ?_
 simp
 refine Dz 19 ?_
 simp[show List.range 2= [0,1] from rfl]
 intro g2 hg2 hb2
 refine⟨by simp[hb2],Dz 20 ?_⟩
 simp
 refine U0 1 (ys:= [.sl (fvs [nx,ny])]) (by simp[frz,fvs,Int.not_lt.2 hg2]) (yW [nx,ny] hzo (by simp)) (aDW _ _) fun v gs b' o f fr=> ?_
 obtain⟨w,rfl,ow,w1',w2'⟩:=Cy o
 have hs1:Sub bl b':=fun x y hy=>eL f fr (by rw[aA,if_neg (fun e=>by rw[e,hb2] at hy;cases hy)];exact hy)
 have fin: ∀σ:St,σ.n=75→σ.sl 8=w→σ.sl 9= .bool (bZ [nx,ny])→σ.bl=b'→xV Tryz.prog [ResultVar.tmp 8,ResultVar.tmp 9] (V8 bl (dV (stQ [nx,ny]) (bZ [nx,ny]))) .ret σ:=fun σ e0 e1 e2 e3=>by
  refine fA [w,.bool (bZ [nx,ny])] gs (by simp[e0,e1,e2]) (by rw[e3];exact o) (fun x hx=>by have:=f x hx;simp[aA] at this;exact this.2) (by rw[e3];exact hs1)
 refine⟨hs1,pU (i:=21) (j:=22) (by kernel_rfl) rfl rfl rfl rfl ?_ ?_⟩
 ·simp
  refine⟨hs1,Dz 22 ?_⟩
  simp
  refine⟨hs1,Dz 23 ?_⟩
  simp
  refine⟨hs1,Dz 24 ?_⟩
  simp
  refine⟨hs1,Dy ?_⟩
  simp
  exact fin _ rfl (by simp) (by simp) rfl
 ·simp
  refine⟨hs1,Dz 21 ?_⟩
  simp
  refine⟨hs1,Dz 23 ?_⟩
  simp
  refine⟨hs1,Dz 24 ?_⟩
  simp
  refine⟨hs1,Dy ?_⟩
  simp
  exact fin _ rfl (by simp) (by simp) rfl
theorem pD (s:Str) (l:List Int) (q:List RT) (j:Int) (hj:s.js.length≤140737488351232) (hm:s.ms.length≤140737488351232) (hn: ∀j,j∈s.js→j.name.size≤140737488351232) (hl:l.length≤140737488351232) (hq:xE q 1048576):RO Tryz.prog 34 [.agg s.c,.sl (iv l),.sl (rv q),.int .i64 j] (.tup [.sl (rv (stQ (oZ s l q j))),.bool (bZ (oZ s l q j))]):=by
 have:=eK 3 (pL s l q j hj hm hn hl hq) (Hb _ _ 0)
 rwa [Nj] at this

def idx (js:List J) (i:Nat):Nat:=(cI js i).length
def fxd (js:List J) (i:Nat):Bool:=(js.getD i default).fixed
def dAt (js:List J) (d:List (Option Rat)) (t p:Nat):Option Rat:=if fxd js (p / 2)=true then some 0 else if idx js (p / 2)<t then d.getD (2*idx js (p / 2)+p % 2) none else some 0
def dsp (js:List J) (d:List (Option Rat)) (t:Nat):List (Option Rat):=(List.range (2*js.length)).map (dAt js d t)
def aNL (js:List J) (d:List (Option Rat)):List (Option Rat):=dsp js d (aI js).length
def dX (js:List J) (d:List (Option Rat)) (i:Nat):Option Rat:=if fxd js i=true then some 0 else d.getD (2*idx js i) none
def dY (js:List J) (d:List (Option Rat)) (i:Nat):Option Rat:=if fxd js i=true then some 0 else d.getD (2*idx js i+1) none
theorem Ms {d:List (Option Rat)} (hd:okL d) (i:Nat):okQ (d.getD i none):=by
 rcases Nat.lt_or_ge i d.length with h | h
 ·rw[mZ _ _ _ h];exact hd _ (List.getElem_mem h)
 ·rw[List.getD_eq_getElem?_getD,List.getElem?_eq_none h];exact fun _ e=>by cases e
def Nk (s:Str) (d:List RT):Bool:=(sOk s && decide (d.length=2*(aI s.js).length))&& iN d

def aMO (s:Str) (k:Int):Int:=IntKind.i64.wrap (IntKind.i64.wrap (aBU s k*aBU s k)+IntKind.i64.wrap (aD6 s k*aD6 s k))

def lat (l:List Int) (i:Nat):Int:=l.getD i 0
theorem tG {l:List Int} {i:Nat} (h:i<l.length):(iv l)[i]? =some [.int .i64 (lat l i)]:=by simp[lat,h]
structure LOk (s : Str) (l : List Int) : Prop where
 sok:SOk s
 n:l.length=2*s.js.length
 f: ∀i,i<l.length→ -100≤lat l i∧lat l i≤100
theorem K6 {js:List J} {l:List Int} (h:gL js l=true):l.length=2*js.length∧ ∀i,i<l.length→ -100≤lat l i∧lat l i≤100:=by
 unfold gL at h
 simp only[Bool.and_eq_true,decide_eq_true_eq] at h
 refine⟨h.1,fun i hi=> ?_⟩
 have:=List.all_eq_true.1 h.2 l[i] (List.getElem_mem hi)
 simp[gI] at this
 simpa [lat,hi] using this
theorem jE {s:Str} {l:List Int} (h:lOk s l=true):LOk s l:=by
 unfold lOk at h
 simp only[Bool.and_eq_true] at h
 obtain⟨h1,h2⟩:=K6 h.2
 exact⟨B4 h.1,h1,h2⟩
def sumX (l:List Int):Nat→Int
 | 0 => 0
 | n + 1 => sumX l n + lat l (2 * n)
def oC (l:List Int):Nat→Int
 | 0 => 0
 | n + 1 => oC l n + lat l (2 * n + 1)
theorem uE {s:Str} {l:List Int} (h:LOk s l): ∀n,n≤s.js.length→ -(100*n:Int)≤sumX l n∧sumX l n≤100*n
 | 0, _ => by simp [sumX]
 | n + 1, hn => by
   have:=uE h n (by omega)
   have:=h.f (2*n) (by have:=h.n;omega)
   simp only[sumX];omega
theorem tY {s:Str} {l:List Int} (h:LOk s l): ∀n,n≤s.js.length→ -(100*n:Int)≤oC l n∧oC l n≤100*n
 | 0, _ => by simp [oC]
 | n + 1, hn => by
   have:=tY h n (by omega)
   have:=h.f (2*n+1) (by have:=h.n;omega)
   simp only[oC];omega
def Fb (s:Str) (l:List Int):Int:=if lOk s l=true then sumX l s.js.length else 0
def Hk (s:Str) (l:List Int):Int:=if lOk s l=true then oC l s.js.length else 0
theorem tN (s:Str) (l:List Int) (hs:s.sz) (hl:l.length≤140737488351232):RO Tryz.prog 32 [.agg s.c,.sl (iv l)] (.tup [.int .i64 (Fb s l),.int .i64 (Hk s l)]):=by
 refine aK Tryz.func32 rfl rfl (by rw[Tryz.ntmps32];simp) fun bl=> ?_
 rw[Tryz.ntmps32,Tryz.results32]
 refine aC ?_
 simp[Str.c]
 intro g hg0 hg
 refine aD (eS s l hs.js hs.ms hs.nm hl) ?_
 simp
 refine⟨fun h=> ?_,fun h=> ?_⟩
 ·exact aQ [_,_] 1 rfl (by simp[frz,V.cl,Fb,Hk,h]) (by simp[hg])
 have h0:=jE h
 have h6:=h0.sok.nj
 have hn:=h0.n
 refine aP (fun i:Nat=> [(1,.sl (iv l)),(6,.int .i64 (sumX l i)),(7,.int .i64 (oC l i)),(14,.sl (jv s.js)),(15,.int .i64 s.js.length),(16,.int .i64 i)]) (fun _=>bl) (fun i=>i≤s.js.length) (fun i=>s.js.length - i) _ 0 (Nat.zero_le _) ⟨rfl,by simp[sumX,oC],by simp[hg]⟩ ?_
 intro i hi
 have bx:=uE h0 i hi
 have by':=tY h0 i hi
 refine aC ?_
 simp
 refine⟨fun h1=> ?_,fun h1=> ?_⟩
 ·have f1:=h0.f (2*i) (by omega)
  have f2:=h0.f (2*i+1) (by omega)
  have e1:(2*(i:Int)).toNat=2*i:=by omega
  have e2:(2*(i:Int)+1).toNat=2*i+1:=by omega
  have e3:(0:Int)≤2*(i:Int):=by omega
  have e4:(0:Int)≤2*(i:Int)+1:=by omega
  simp (disch:=omega) [-fR,h1,i64_in,e1,e2,e3,e4,tG]
  simp only[aB]
  exact⟨i+1,by omega,by omega,rfl,by simp[sumX,oC],by simp⟩
 ·have:i=s.js.length:=by omega
  subst this
  exact aQ [_,_] 1 rfl (by simp[frz,V.cl,Fb,Hk,h]) (Sub.refl _)
def gH (s:Str) (l:List Int) (x y:Int):Nat→Int
 | 0 => 0
 | n + 1 => gH s l x y n + ((jat s.js n).x - x) * lat l (2 * n + 1) - ((jat s.js n).y - y) * lat l (2 * n)
theorem Gj {a b p q:Int} (ha: -p≤a∧a≤p) (hb: -q≤b∧b≤q): -(p*q)≤a*b∧a*b≤p*q:=by
 have hp:0≤p:=by omega
 have hq:0≤q:=by omega
 have h1:a.natAbs≤p.natAbs:=by omega
 have h2:b.natAbs≤q.natAbs:=by omega
 have h3:(a*b).natAbs≤(p*q).natAbs:=by rw[Int.natAbs_mul,Int.natAbs_mul];exact Nat.mul_le_mul h1 h2
 have h4:0≤p*q:=Int.mul_nonneg hp hq
 omega
theorem E4 {s:Str} {l:List Int} {x y:Int} (h:LOk s l) (hx: -1000≤x∧x≤1000) (hy: -1000≤y∧y≤1000) {n:Nat} (hn:n<s.js.length):
  (-1050≤(jat s.js n).x - x∧(jat s.js n).x - x≤1050)∧(-1050≤(jat s.js n).y - y∧(jat s.js n).y - y≤1050)∧
  (-105000≤((jat s.js n).x - x)*lat l (2*n+1)∧((jat s.js n).x - x)*lat l (2*n+1)≤105000)∧(-105000≤((jat s.js n).y - y)*lat l (2*n)∧((jat s.js n).y - y)*lat l (2*n)≤105000):=by
 have c:=h.sok.at (n:=n) (by omega) (by omega)
 have f1:=h.f (2*n) (by have:=h.n;omega)
 have f2:=h.f (2*n+1) (by have:=h.n;omega)
 have a1: -1050≤(jat s.js n).x - x∧(jat s.js n).x - x≤1050:=by omega
 have a2: -1050≤(jat s.js n).y - y∧(jat s.js n).y - y≤1050:=by omega
 have m1:=Gj a1 f2
 have m2:=Gj a2 f1
 refine⟨a1,a2,?_,?_⟩<;>omega
theorem Hm {s:Str} {l:List Int} {x y:Int} (h:LOk s l) (hx: -1000≤x∧x≤1000) (hy: -1000≤y∧y≤1000): ∀n,n≤s.js.length→ -(210000*n:Int)≤gH s l x y n∧gH s l x y n≤210000*n
 | 0, _ => by simp [gH]
 | n + 1, hn => by
   have:=Hm h hx hy n (by omega)
   have:=E4 h hx hy (n:=n) (by omega)
   simp only[gH];omega
def G7 (s:Str) (l:List Int) (x y:Int):Bool:=lOk s l && (decide (-1000≤x)&& decide (x≤1000))&& (decide (-1000≤y)&& decide (y≤1000))
def D6 (s:Str) (l:List Int) (x y:Int):Int:=if G7 s l x y=true then gH s l x y s.js.length else 0
theorem qT {js:List J} {i:Nat} (h:i<js.length):jat js i=js[i]:=by simp[jat,h]
theorem rO (s:Str) (l:List Int) (x y:Int) (hs:s.sz) (hl:l.length≤140737488351232):RO Tryz.prog 33 [.agg s.c,.sl (iv l),.int .i64 x,.int .i64 y] (.int .i64 (D6 s l x y)):=by
 refine aK Tryz.func33 rfl rfl (by rw[Tryz.ntmps33];simp) fun bl=> ?_
 rw[Tryz.ntmps33,Tryz.results33]
 refine aC ?_
 simp[Str.c]
 intro g hg0 hg
 refine aV [(1,.sl (iv l)),(2,.int .i64 x),(3,.int .i64 y),(4,.loc g 2 0 0)] _ _ 31 (.bool (!G7 s l x y)) ⟨rfl,by simp,Sub.refl _⟩ rfl ?_ ?_
 ·simp
  refine aD (eS s l hs.js hs.ms hs.nm hl) ?_
  simp[G7]
  refine⟨fun h=>by simp[h],fun h=> ?_⟩
  simp[h]
  grind
 simp
 refine⟨fun h=> ?_,fun h=> ?_⟩
 ·exact aQ [_] 0 rfl (by simp[frz,D6,h]) (by simp[hg])
 have hh:=h
 unfold G7 at hh
 simp only[Bool.and_eq_true,decide_eq_true_eq] at hh
 obtain⟨⟨hlo,hx⟩,hy⟩:=hh
 have h0:=jE hlo
 have h6:=h0.sok.nj
 have hn:=h0.n
 refine aP (fun i:Nat=> [(1,.sl (iv l)),(2,.int .i64 x),(3,.int .i64 y),(9,.int .i64 (gH s l x y i)),(33,.sl (jv s.js)),(34,.int .i64 s.js.length),(35,.int .i64 i)]) (fun _=>bl) (fun i=>i≤s.js.length) (fun i=>s.js.length - i) _ 0 (Nat.zero_le _) ⟨rfl,by simp[gH],by simp[hg]⟩ ?_
 intro i hi
 have bm:=Hm h0 hx hy i hi
 refine aC ?_
 simp
 refine⟨fun h1=> ?_,fun h1=> ?_⟩
 ·have st:=E4 h0 hx hy h1
  rw[qT h1] at st
  have e1:(2*(i:Int)).toNat=2*i:=by omega
  have e2:(2*(i:Int)+1).toNat=2*i+1:=by omega
  have e3:(0:Int)≤2*(i:Int):=by omega
  have e4:(0:Int)≤2*(i:Int)+1:=by omega
  simp[h1,J.c]
  intro g1 hg1 hb1
  refine bI aN (by kernel_rfl) ?_
  have w1:IntKind.i64.wrap (2*(i:Int))=2*i:=i64_in (by omega) (by omega)
  have w2:IntKind.i64.wrap (2*(i:Int)+1)=2*i+1:=i64_in (by omega) (by omega)
  have q1:=tG (l:=l) (i:=2*i) (by omega)
  have q2:=tG (l:=l) (i:=2*i+1) (by omega)
  simp[-fR,h1,w1,w2,q1,q2,e1,e2,e3,e4]
  simp (disch:=omega) [i64_in]
  simp only[aB]
  refine⟨i+1,by omega,by omega,rfl,?_,by simp[hb1]⟩
  simp[gH,qT h1]
  omega
 ·have:i=s.js.length:=by omega
  subst this
  exact aQ [_] 0 rfl (by simp[frz,D6,h]) (Sub.refl _)

theorem xL (l:List Int) (k:Int) (hl:l.length≤140737488351232):RO Tryz.prog 281 [.sl (iv l),.int .i64 k] (.int .i64 (ixf (fun x=>decide (k=x)) l)):=by
 refine aK Tryz.func281 rfl rfl (by rw[Tryz.ntmps281];simp) fun bl=> ?_
 rw[Tryz.ntmps281,Tryz.results281]
 refine aC ?_
 simp
 refine aP (fun i:Nat=> [(0,.sl (iv l)),(1,.int .i64 k),(7,.int .i64 l.length),(8,.int .i64 i)]) (fun _=>bl) (fun i=>i≤l.length∧ ∀j (h1:j<l.length),j<i→decide (k=l[j])=false) (fun i=>l.length - i) _ 0 ⟨Nat.zero_le _,fun j _ h0=>by omega⟩ ⟨rfl,by simp,Sub.refl _⟩ ?_
 intro i ⟨hi,hc⟩
 refine aC ?_
 simp
 refine⟨fun h1=> ?_,fun h1=> ?_⟩
 ·simp[h1]
  refine⟨fun h2=> ?_,fun h2=> ?_⟩
  ·exact aR (by rw[lS (p:=fun x=>decide (k=x)) h1 hc (by simpa using h2)];simp) rfl rfl
  ·simp (disch:=omega) [i64_in,aB]
   refine⟨i+1,⟨by omega,fun j hj1 hji=> ?_⟩,by omega,rfl,by simp,Sub.refl _⟩
   rcases Nat.lt_or_ge j i with hlt | hge
   ·simpa using hc j hj1 hlt
   ·obtain rfl:j=i:=by omega
    simpa using h2
 ·exact aR (by rw[qL (p:=fun x=>decide (k=x)) fun j hj=>hc j hj (by omega)];simp) rfl rfl
theorem any_eq (l:List Int) (k:Int):(l.any fun x=>decide (k=x))=decide (k∈l):=by
 rw[Bool.eq_iff_iff];simp
theorem sQ (l:List Int) (k:Int) (hl:l.length≤140737488351232):RO Tryz.prog 255 [.sl (iv l),.int .i64 k] (.bool (decide (k∈l))):=by
 refine aK Tryz.func255 rfl rfl (by rw[Tryz.ntmps255];simp) fun bl=> ?_
 rw[Tryz.ntmps255,Tryz.results255]
 refine aC ?_
 simp
 refine aD (xL l k hl) ?_
 simp
 exact aR (by simp[R1,any_eq]) rfl rfl

def Ub (ms:List Mb) (l:List Int) (n:Nat):List Mb:=((List.range n).filter fun(i:Nat)=> !decide ((i:Int)∈l)).map fun(i:Nat)=>ms.getD i default
def aH8 (s:Str) (l:List Int):Str:=⟨s.js,Ub s.ms l s.ms.length⟩

end Go.Proofs.YticmgmemnpcbbaaGreat.Vm

namespace Go.Proofs.YticmgmemnpcbbaaGreat.Vm
open Go Go.Proofs
set_option linter.unusedSimpArgs false
set_option linter.unusedVariables false
def ivv (ws:List (List Int)):List (List V):=ws.map fun w=> [.sl (iv w)]
def dII (ws:List (List Int)):D:= .s 1 (ws.map fun w=> [fl 1 (iv w)])
@[simp] theorem Qh (ws : List (List Int)) : (ivv ws).length = ws.length := by simp [ivv]
@[simp] theorem aCX (ws : List (List Int)) (i : Nat) (h : i < (ivv ws).length) : (ivv ws)[i] = [.sl (iv (ws[i]'(by simpa using h)))] := by simp [ivv]
theorem Py (ws:List (List Int)):(dII ws).fz= .sl (ivv ws):=by
 unfold dII ivv
 rw[D.fz,uB,List.map_map]
 congr 1
 exact List.map_congr_left fun w _=>by simp
theorem Kr (ws:List (List Int)):(dII ws).dep 2:=by
 unfold dII
 rw[D.dep]
 refine⟨by omega,?_⟩
 induction ws with
 | nil => simp [D.depR]
 | cons w ws ih => simp [D.depR, D.depL, mN] at ih ⊢; exact ih

def cQ (s:Str) (j:Int):List Int:=s.ms.map (eqX s j)
def cR (s:Str) (j:Int):List Int:=s.ms.map (eqY s j)
def dK (s:Str):List (List Int):=(aI s.js).flatMap fun j=> [cQ s j,cR s j]
def wC (s:Str) (n:Nat):List (List Int):=((aI s.js).take n).flatMap fun j=> [cQ s j,cR s j]
theorem zA (s:Str) (n:Nat) (h:n<(aI s.js).length):wC s (n+1)=wC s n++ [cQ s (aI s.js)[n],cR s (aI s.js)[n]]:=by
 unfold wC
 rw[List.take_add_one,List.getElem?_eq_getElem h,List.flatMap_append]
 simp
theorem mB (s:Str): ∀n,n≤(aI s.js).length→(wC s n).length=2*n
 | 0, _ => by simp [wC]
 | n + 1, h => by
   rw[zA s n (by omega),List.length_append,mB s n (by omega)]
   simp;omega
@[simp] theorem mK (s : Str) (j : Int) : (cQ s j).length = s.ms.length := by simp [cQ]
@[simp] theorem mD (s : Str) (j : Int) : (cR s j).length = s.ms.length := by simp [cR]
theorem zV {s:Str} {k:Nat} (h:k<s.ms.length):mat s k=s.ms[k]:=by simp[mat,h]
theorem Ez {s:Str} (hs:SOk s) {m:Mb} (hm:m∈s.ms):(-100≤vx s m∧vx s m≤100)∧(-100≤vy s m∧vy s m≤100):=by
 obtain⟨⟨a1,a2⟩,⟨b1,b2⟩⟩:=hs.ix _ hm
 have ca:=hs.at a1 a2
 have cb:=hs.at b1 b2
 unfold vx vy
 omega
structure Ns where
 i:Nat
 g:Int
 els:List (List V)
 gs:List Int
 b:Int→Option Blk
theorem iY (xs:List (List V)) (z:List V) (i:Nat) (h:i<xs.length) (hz:xs[i]=z):part xs z i=part xs z (i+1):=by
 rw[←cJ xs z i h z hz.symm]
 have:=eR xs z i h
 apply List.ext_getElem?
 intro j
 rw[List.getElem?_set]
 split
 ·rename_i e;subst e;rw[if_pos (by rw[sY];exact h)];exact this
 ·rfl
def Er (bl:Int→Option Blk) (s:Str) (p:Ns):Prop:=
 p.i≤(aI s.js).length∧p.b p.g=some ⟨1,p.els⟩∧p.els.length=2*p.i∧OwnR p.b 1 ((wC s p.i).map fun w=> [fl 1 (iv w)]) p.els p.gs∧p.g∉p.gs∧bl p.g=none∧(∀x,x∈p.gs→bl x=none)∧Sub bl p.b∧(p.g<0→p.els= [])
theorem pG {bl:Int→Option Blk} {s:Str} {i:Nat} {g:Int} {els:List (List V)} {gs:List Int} {b:Int→Option Blk} (H:Er bl s ⟨i,g,els,gs,b⟩) (h:i<(aI s.js).length)
  {ga gb gp gn:Int} (hga:0≤ga) (hba:b ga=none) (hgb:0≤gb) (hab: ¬gb=ga) (hbb:b gb=none) (hpa: ¬gp=ga) (hpb: ¬gp=gb) (hbp:b gp=none) (hgn:0≤gn)
  (hbn: ¬gn=g→ ¬gn=gp∧ ¬gn=gb∧ ¬gn=ga∧b gn=none):
  Er bl s ⟨i+1,gn,els++ [[.lsl ga 1 0 s.ms.length]]++ [[.lsl gb 1 0 s.ms.length]],gs++ [ga]++ [gb],
   upd (rem (upd (upd (upd b ga (some ⟨1,iv (cQ s (aI s.js)[i])⟩)) gb (some ⟨1,iv (cR s (aI s.js)[i])⟩)) gp (some ⟨1,[[.lsl ga 1 0 s.ms.length],[.lsl gb 1 0 s.ms.length]]⟩)) g) gn
    (some ⟨1,els.take (2*i)++ [[.lsl ga 1 0 s.ms.length],[.lsl gb 1 0 s.ms.length]]⟩)⟩:=by
 obtain⟨hi,hb,hel,ho,hn,hg,hf,hsb,cM⟩:=H
 simp only at hi hb hel ho hn hg hf hsb cM
 have nga:ga≠g:=fun e=>by rw[e,hb] at hba;cases hba
 have ngb:gb≠g:=fun e=>by rw[e,hb] at hbb;cases hbb
 have ngp:gp≠g:=fun e=>by rw[e,hb] at hbp;cases hbp
 have fa:=dA hsb hba
 have fb:=dA hsb hbb
 have fp:=dA hsb hbp
 have na:gn≠ga:=fun e=>by
  by_cases c:gn=g
  ·exact nga (e.symm.trans c)
  ·exact(hbn c).2.2.1 e
 have nb:gn≠gb:=fun e=>by
  by_cases c:gn=g
  ·exact ngb (e.symm.trans c)
  ·exact(hbn c).2.1 e
 have fn:bl gn=none:=by
  by_cases c:gn=g
  ·rw[c];exact hg
  ·exact dA hsb (hbn c).2.2.2
 have nn:gn∉gs:=by
  by_cases c:gn=g
  ·rw[c];exact hn
  ·exact ho.not (hbn c).2.2.2
 have key: ∀(B:Int→Option Blk) (u v w z:Option Blk),B=upd (rem (upd (upd (upd b ga u) gb v) gp w) g) gn z→ ∀x y,x≠g→x≠gn→b x=some y→B x=some y:=by
  intro B u v w z hB x y c1 c2 hx
  have c3:x≠ga:=fun e=>by rw[e,hba] at hx;cases hx
  have c4:x≠gb:=fun e=>by rw[e,hbb] at hx;cases hx
  have c5:x≠gp:=fun e=>by rw[e,hbp] at hx;cases hx
  rw[hB];simp[c1,c2,c3,c4,c5,hx]
 have vx1: ∀xs:List Int,(iv xs).all (fun r=>r.all V.cl)=true:=fun xs=>by simp[iv,V.cl]
 have vx2: ∀(xs:List Int) r,r∈iv xs→r.length=1:=fun xs r hr=>by
  simp[iv] at hr
  obtain⟨_,_,rfl⟩:=hr;rfl
 have et:els.take (2*i)=els:=List.take_of_length_le (by omega)
 refine⟨by simp only;omega,by simp[et],by simp[hel];omega,?_,?_,fn,?_,?_,fun e=>by simp only at e;omega⟩
 ·simp only
  rw[zA s i h,List.map_append,show(∀(A:List (List D)) (x y:List Int),A++ [x,y].map (fun w=> [fl 1 (iv w)])=A++ [[fl 1 (iv x)]]++ [[fl 1 (iv y)]]) from fun A x y=>by simp]
  generalize hB:upd (rem (upd (upd (upd b ga (some ⟨1,iv (cQ s (aI s.js)[i])⟩)) gb (some ⟨1,iv (cR s (aI s.js)[i])⟩)) gp (some ⟨1,[[.lsl ga 1 0 s.ms.length],[.lsl gb 1 0 s.ms.length]]⟩)) g) gn
    (some ⟨1,els.take (2*i)++ [[.lsl ga 1 0 s.ms.length],[.lsl gb 1 0 s.ms.length]]⟩)=B
  have o0:=ho.fU fun x hx y hy=>key _ _ _ _ _ hB.symm x y (fun e=>hn (e▸hx)) (fun e=>nn (e▸hx)) hy
  have oa:OwnD B (fl 1 (iv (cQ s (aI s.js)[i]))) (.lsl ga 1 0 s.ms.length) [ga]:=(uN (vx1 _) (vx2 _)).2 (.inr ⟨ga,by simp,rfl,by rw[←hB];simp[Ne.symm na,Ne.symm hpa,Ne.symm hab,nga],by omega⟩)
  have ob:OwnD B (fl 1 (iv (cR s (aI s.js)[i]))) (.lsl gb 1 0 s.ms.length) [gb]:=(uN (vx1 _) (vx2 _)).2 (.inr ⟨gb,by simp,rfl,by rw[←hB];simp[Ne.symm nb,Ne.symm hpb,ngb],by omega⟩)
  refine OwnR.snoc (kU.2 ob) rfl (by simp) (OwnR.snoc (kU.2 oa) rfl (by simp) o0 ?_) ?_
  ·intro x hx hx2
   rw[List.mem_singleton] at hx2
   exact ho.not hba (hx2▸hx)
  ·intro x hx hx2
   rw[List.mem_singleton] at hx2
   subst hx2
   rcases List.mem_append.1 hx with hx | hx
   ·exact ho.not hbb hx
   ·rw[List.mem_singleton] at hx;exact hab hx
 ·simp[nn,na,nb]
 ·intro x hx
  simp at hx
  rcases hx with hx | hx | hx
  ·exact hf x hx
  ·rw[hx];exact fa
  ·rw[hx];exact fb
 ·intro x y hx
  exact key _ _ _ _ _ rfl x y (fun e=>by rw[e,hg] at hx;cases hx) (fun e=>by rw[e,fn] at hx;cases hx) (hsb x y hx)
set_option maxHeartbeats 2000000 in
theorem wL (s:Str) (hs:SOk s):NW Tryz.prog 148 [.ptr s.c] (dII (dK s)):=by
 have h6:=hs.nj
 have h8:=hs.nm
 have hfr:=oY s.js s.js.length
 change(aI s.js).length≤s.js.length at hfr
 refine jQ Tryz.func148 rfl rfl (by rw[Tryz.ntmps148];simp) fun bl=> ?_
 rw[Tryz.ntmps148,Tryz.results148]
 refine aC ?_
 simp
 refine aD (oO s (by omega)) ?_
 simp
 refine qU 3 1 (by simp) fun g00 sH=> ?_
 simp at sH
 refine aP (fun p:Ns=> [(0,.ptr s.c),(3,.lsl p.g 1 0 (2*p.i)),(13,.sl (iv (aI s.js))),(14,.int .i64 (aI s.js).length),(15,.int .i64 p.i)]) (fun p=>p.b)
  (Er bl s)
  (fun p=>(aI s.js).length - p.i) 82 ⟨0,g00,[],[],upd bl g00 (some ⟨1,[]⟩)⟩ ⟨Nat.zero_le _,by simp,rfl,by simp[wC,OwnR],by simp,sH,by simp,by simp[sH],fun _=>rfl⟩ ⟨rfl,by simp,by simp⟩ ?_
 rintro⟨i,g,els,gs,b⟩ ⟨hi,hb,hel,ho,hn,hg,hf,hsb,cM⟩
 simp only at hi hb hel ho hn hg hf hsb cM
 refine aC ?_
 simp
 refine⟨fun h=> ?_,fun h=> ?_⟩
 ·have q:=fR (aI s.js) i h
  simp[h]
  obtain⟨j,hj⟩: ∃j,(aI s.js)[i]=j:=⟨_,rfl⟩
  rw[hj]
  refine E5 aN [0,1,2,3,4,6,7,8,9,10] 4 (by kernel_rfl) ?_
  simp[Str.c]
  refine pU (i:=5) (j:=11) (by kernel_rfl) rfl rfl rfl rfl ?_ ?_
  ·simp
   refine⟨by omega,by unfold maxLen;omega,fun ga hga hba=>⟨by simp[hba],?_⟩⟩
   refine pU (i:=11) (j:=12) (by kernel_rfl) rfl rfl rfl rfl ?_ ?_
   ·simp
    refine⟨by omega,by unfold maxLen;omega,fun gb hgb hab hbb=>⟨by simp[hba,hbb,hab],?_⟩⟩
    refine Dz 12 ?_
    simp
    refine⟨by simp[hba,hbb,hab],Dz 13 ?_⟩
    simp
    refine⟨by simp[hba,hbb,hab],Dy ?_⟩
    simp[Str.c]
    have nga:ga≠g:=fun e=>by rw[e,hb] at hba;cases hba
    have ngb:gb≠g:=fun e=>by rw[e,hb] at hbb;cases hbb
    have fa:=dA hsb hba
    have fb:=dA hsb hbb
    have er:List.replicate s.ms.length [V.int IntKind.i64 0]=part (iv (cQ s j)) [.int .i64 0] 0:=by simp
    have er':List.replicate s.ms.length [V.int IntKind.i64 0]=part (iv (cR s j)) [.int .i64 0] 0:=by simp
    refine aP (fun k:Nat=> [(0,.ptr s.c),(3,.lsl g 1 0 (2*i)),(5,.int .i64 j),(6,.lsl ga 1 0 s.ms.length),(7,.lsl gb 1 0 s.ms.length),(13,.sl (iv (aI s.js))),(14,.int .i64 (aI s.js).length),(15,.int .i64 i),(34,.sl (mv s.ms)),(35,.int .i64 s.ms.length),(36,.int .i64 k)])
     (fun k=>upd (upd b ga (some ⟨1,part (iv (cQ s j)) [.int .i64 0] k⟩)) gb (some ⟨1,part (iv (cR s j)) [.int .i64 0] k⟩)) (fun k=>k≤s.ms.length) (fun k=>s.ms.length - k) 82 0 (Nat.zero_le _) ⟨rfl,by simp[Str.c],?_⟩ ?_
    ·intro x y hx
     simp only[aA,rQ,gS,mK,mD] at hx ⊢
     grind
    intro k hk
    refine aC ?_
    simp
    refine⟨fun hkl=> ?_,fun hkl=> ?_⟩
    ·have hv:=Ez hs (List.getElem_mem hkl)
     have hm:mat s (k:Int)=s.ms[k]:=zV hkl
     have D5:=nJ s k hs (by omega) (by omega)
     rw[hm] at D5
     have hx:k<(iv (cQ s j)).length:=by simpa using hkl
     have hy:k<(iv (cR s j)).length:=by simpa using hkl
     have w1:IntKind.i64.wrap ((k:Int)+1)=k+1:=i64_in (by omega) (by omega)
     have nx:IntKind.i64.wrap (-vx s s.ms[k])= -vx s s.ms[k]:=i64_in (by omega) (by omega)
     have ny:IntKind.i64.wrap (-vy s s.ms[k])= -vy s s.ms[k]:=i64_in (by omega) (by omega)
     have px:=eR (iv (cQ s j)) [.int .i64 0] k hx
     have py:=eR (iv (cR s j)) [.int .i64 0] k hy
     simp[hkl,Mb.c]
     intro g9 hg9 h9b h9a hb9
     refine aD D5 ?_
     simp
     refine⟨fun e1=> ?_,fun e1=> ?_⟩
     ·simp[hab,Ne.symm hab,h9a,h9b,Ne.symm h9a,Ne.symm h9b,hkl,px,py,w1,aB]
      have sx:=cJ (iv (cQ s j)) [.int .i64 0] k hx [.int .i64 (vx s s.ms[k])] (by simp[cQ,eqX,e1])
      have sy:=cJ (iv (cR s j)) [.int .i64 0] k hy [.int .i64 (vy s s.ms[k])] (by simp[cR,eqY,e1])
      refine⟨k+1,by omega,by omega,rfl,by simp,?_⟩
      intro x y hx'
      rw[←sx,←sy] at hx'
      simp only[aA] at hx' ⊢
      grind
     ·simp[hab,Ne.symm hab,h9a,h9b,Ne.symm h9a,Ne.symm h9b,hkl,px,py,w1,nx,ny,aB]
      refine⟨fun e2=> ?_,fun e2=> ?_⟩
      ·have fx:eqX s j s.ms[k]= -vx s s.ms[k]:=by rw[eqX,if_neg e1,if_pos e2]
       have fy:eqY s j s.ms[k]= -vy s s.ms[k]:=by rw[eqY,if_neg e1,if_pos e2]
       have sx:=cJ (iv (cQ s j)) [.int .i64 0] k hx [.int .i64 (-vx s s.ms[k])] (by simp[cQ,fx])
       have sy:=cJ (iv (cR s j)) [.int .i64 0] k hy [.int .i64 (-vy s s.ms[k])] (by simp[cR,fy])
       refine⟨k+1,by omega,by omega,rfl,by simp,?_⟩
       intro x y hx'
       rw[←sx,←sy] at hx'
       simp only[aA] at hx' ⊢
       grind
      ·have sx:=iY (iv (cQ s j)) [.int .i64 0] k hx (by simp[cQ,eqX,e1,e2])
       have sy:=iY (iv (cR s j)) [.int .i64 0] k hy (by simp[cR,eqY,e1,e2])
       refine⟨k+1,by omega,by omega,rfl,by simp,?_⟩
       intro x y hx'
       rw[←sx,←sy] at hx'
       simp only[aA] at hx' ⊢
       grind
    ·have:k=s.ms.length:=by omega
     subst this
     rw[gD _ _ _ (by simp),gD _ _ _ (by simp)]
     intro gp hgp hpb hpa hbp
     have npg:gp≠g:=fun e=>by rw[e,hb] at hbp;cases hbp
     have er2:List.range 2= [0,1]:=rfl
     simp[er2,appV,elsV,Int.not_lt.2 hgp,hpb,hpa,Ne.symm hpb,Ne.symm hpa,nga,ngb,Ne.symm nga,Ne.symm ngb,npg,Ne.symm npg,hb,hel]
     refine⟨by omega,fun gn hgn hbn=> ?_⟩
     have w9:IntKind.i64.wrap ((i:Int)+1)=i+1:=i64_in (by omega) (by omega)
     rw[aB]
     subst hj
     have nx:=pG ⟨hi,hb,hel,ho,hn,hg,hf,hsb,cM⟩ h hga hba hgb hab hbb hpa hpb hbp hgn hbn
     refine⟨_,nx,by simp only;omega,rfl,?_,sub_eq rfl⟩
     simp[w9];exact⟨rfl,by omega⟩
   ·simp
    refine⟨by simp[hba],Dz 11 ?_⟩
    simp
    refine⟨by omega,by unfold maxLen;omega,fun gb hgb hab hbb=>⟨by simp[hba,hbb,hab],?_⟩⟩
    refine Dz 13 ?_
    simp
    refine⟨by simp[hba,hbb,hab],Dy ?_⟩
    simp[Str.c]
    have nga:ga≠g:=fun e=>by rw[e,hb] at hba;cases hba
    have ngb:gb≠g:=fun e=>by rw[e,hb] at hbb;cases hbb
    have fa:=dA hsb hba
    have fb:=dA hsb hbb
    have er:List.replicate s.ms.length [V.int IntKind.i64 0]=part (iv (cQ s j)) [.int .i64 0] 0:=by simp
    have er':List.replicate s.ms.length [V.int IntKind.i64 0]=part (iv (cR s j)) [.int .i64 0] 0:=by simp
    refine aP (fun k:Nat=> [(0,.ptr s.c),(3,.lsl g 1 0 (2*i)),(5,.int .i64 j),(6,.lsl ga 1 0 s.ms.length),(7,.lsl gb 1 0 s.ms.length),(13,.sl (iv (aI s.js))),(14,.int .i64 (aI s.js).length),(15,.int .i64 i),(34,.sl (mv s.ms)),(35,.int .i64 s.ms.length),(36,.int .i64 k)])
     (fun k=>upd (upd b ga (some ⟨1,part (iv (cQ s j)) [.int .i64 0] k⟩)) gb (some ⟨1,part (iv (cR s j)) [.int .i64 0] k⟩)) (fun k=>k≤s.ms.length) (fun k=>s.ms.length - k) 82 0 (Nat.zero_le _) ⟨rfl,by simp[Str.c],?_⟩ ?_
    ·intro x y hx
     simp only[aA,rQ,gS,mK,mD] at hx ⊢
     grind
    intro k hk
    refine aC ?_
    simp
    refine⟨fun hkl=> ?_,fun hkl=> ?_⟩
    ·have hv:=Ez hs (List.getElem_mem hkl)
     have hm:mat s (k:Int)=s.ms[k]:=zV hkl
     have D5:=nJ s k hs (by omega) (by omega)
     rw[hm] at D5
     have hx:k<(iv (cQ s j)).length:=by simpa using hkl
     have hy:k<(iv (cR s j)).length:=by simpa using hkl
     have w1:IntKind.i64.wrap ((k:Int)+1)=k+1:=i64_in (by omega) (by omega)
     have nx:IntKind.i64.wrap (-vx s s.ms[k])= -vx s s.ms[k]:=i64_in (by omega) (by omega)
     have ny:IntKind.i64.wrap (-vy s s.ms[k])= -vy s s.ms[k]:=i64_in (by omega) (by omega)
     have px:=eR (iv (cQ s j)) [.int .i64 0] k hx
     have py:=eR (iv (cR s j)) [.int .i64 0] k hy
     simp[hkl,Mb.c]
     intro g9 hg9 h9b h9a hb9
     refine aD D5 ?_
     simp
     refine⟨fun e1=> ?_,fun e1=> ?_⟩
     ·simp[hab,Ne.symm hab,h9a,h9b,Ne.symm h9a,Ne.symm h9b,hkl,px,py,w1,aB]
      have sx:=cJ (iv (cQ s j)) [.int .i64 0] k hx [.int .i64 (vx s s.ms[k])] (by simp[cQ,eqX,e1])
      have sy:=cJ (iv (cR s j)) [.int .i64 0] k hy [.int .i64 (vy s s.ms[k])] (by simp[cR,eqY,e1])
      refine⟨k+1,by omega,by omega,rfl,by simp,?_⟩
      intro x y hx'
      rw[←sx,←sy] at hx'
      simp only[aA] at hx' ⊢
      grind
     ·simp[hab,Ne.symm hab,h9a,h9b,Ne.symm h9a,Ne.symm h9b,hkl,px,py,w1,nx,ny,aB]
      refine⟨fun e2=> ?_,fun e2=> ?_⟩
      ·have fx:eqX s j s.ms[k]= -vx s s.ms[k]:=by rw[eqX,if_neg e1,if_pos e2]
       have fy:eqY s j s.ms[k]= -vy s s.ms[k]:=by rw[eqY,if_neg e1,if_pos e2]
       have sx:=cJ (iv (cQ s j)) [.int .i64 0] k hx [.int .i64 (-vx s s.ms[k])] (by simp[cQ,fx])
       have sy:=cJ (iv (cR s j)) [.int .i64 0] k hy [.int .i64 (-vy s s.ms[k])] (by simp[cR,fy])
       refine⟨k+1,by omega,by omega,rfl,by simp,?_⟩
       intro x y hx'
       rw[←sx,←sy] at hx'
       simp only[aA] at hx' ⊢
       grind
      ·have sx:=iY (iv (cQ s j)) [.int .i64 0] k hx (by simp[cQ,eqX,e1,e2])
       have sy:=iY (iv (cR s j)) [.int .i64 0] k hy (by simp[cR,eqY,e1,e2])
       refine⟨k+1,by omega,by omega,rfl,by simp,?_⟩
       intro x y hx'
       rw[←sx,←sy] at hx'
       simp only[aA] at hx' ⊢
       grind
    ·have:k=s.ms.length:=by omega
     subst this
     rw[gD _ _ _ (by simp),gD _ _ _ (by simp)]
     intro gp hgp hpb hpa hbp
     have npg:gp≠g:=fun e=>by rw[e,hb] at hbp;cases hbp
     have er2:List.range 2= [0,1]:=rfl
     simp[er2,appV,elsV,Int.not_lt.2 hgp,hpb,hpa,Ne.symm hpb,Ne.symm hpa,nga,ngb,Ne.symm nga,Ne.symm ngb,npg,Ne.symm npg,hb,hel]
     refine⟨by omega,fun gn hgn hbn=> ?_⟩
     have w9:IntKind.i64.wrap ((i:Int)+1)=i+1:=i64_in (by omega) (by omega)
     rw[aB]
     subst hj
     have nx:=pG ⟨hi,hb,hel,ho,hn,hg,hf,hsb,cM⟩ h hga hba hgb hab hbb hpa hpb hbp hgn hbn
     refine⟨_,nx,by simp only;omega,rfl,?_,sub_eq rfl⟩
     simp[w9];exact⟨rfl,by omega⟩
  ·simp
   refine⟨by omega,by unfold maxLen;omega,fun gb hgb hbb=>⟨by simp[hbb],?_⟩⟩
   refine Dz 5 ?_
   simp
   refine⟨by omega,by unfold maxLen;omega,fun ga hga hab hba=>⟨by simp[hba,hbb,hab],?_⟩⟩
   refine Dz 12 ?_
   simp
   refine⟨by simp[hba,hbb,hab],Dz 13 ?_⟩
   simp
   refine⟨by simp[hba,hbb,hab],Dy ?_⟩
   simp[Str.c]
   have nga:ga≠g:=fun e=>by rw[e,hb] at hba;cases hba
   have ngb:gb≠g:=fun e=>by rw[e,hb] at hbb;cases hbb
   have fa:=dA hsb hba
   have fb:=dA hsb hbb
   have er:List.replicate s.ms.length [V.int IntKind.i64 0]=part (iv (cQ s j)) [.int .i64 0] 0:=by simp
   have er':List.replicate s.ms.length [V.int IntKind.i64 0]=part (iv (cR s j)) [.int .i64 0] 0:=by simp
   refine aP (fun k:Nat=> [(0,.ptr s.c),(3,.lsl g 1 0 (2*i)),(5,.int .i64 j),(6,.lsl ga 1 0 s.ms.length),(7,.lsl gb 1 0 s.ms.length),(13,.sl (iv (aI s.js))),(14,.int .i64 (aI s.js).length),(15,.int .i64 i),(34,.sl (mv s.ms)),(35,.int .i64 s.ms.length),(36,.int .i64 k)])
    (fun k=>upd (upd b ga (some ⟨1,part (iv (cQ s j)) [.int .i64 0] k⟩)) gb (some ⟨1,part (iv (cR s j)) [.int .i64 0] k⟩)) (fun k=>k≤s.ms.length) (fun k=>s.ms.length - k) 82 0 (Nat.zero_le _) ⟨rfl,by simp[Str.c],?_⟩ ?_
   ·intro x y hx
    simp only[aA,rQ,gS,mK,mD] at hx ⊢
    grind
   intro k hk
   refine aC ?_
   simp
   refine⟨fun hkl=> ?_,fun hkl=> ?_⟩
   ·have hv:=Ez hs (List.getElem_mem hkl)
    have hm:mat s (k:Int)=s.ms[k]:=zV hkl
    have D5:=nJ s k hs (by omega) (by omega)
    rw[hm] at D5
    have hx:k<(iv (cQ s j)).length:=by simpa using hkl
    have hy:k<(iv (cR s j)).length:=by simpa using hkl
    have w1:IntKind.i64.wrap ((k:Int)+1)=k+1:=i64_in (by omega) (by omega)
    have nx:IntKind.i64.wrap (-vx s s.ms[k])= -vx s s.ms[k]:=i64_in (by omega) (by omega)
    have ny:IntKind.i64.wrap (-vy s s.ms[k])= -vy s s.ms[k]:=i64_in (by omega) (by omega)
    have px:=eR (iv (cQ s j)) [.int .i64 0] k hx
    have py:=eR (iv (cR s j)) [.int .i64 0] k hy
    simp[hkl,Mb.c]
    intro g9 hg9 h9b h9a hb9
    refine aD D5 ?_
    simp
    refine⟨fun e1=> ?_,fun e1=> ?_⟩
    ·simp[hab,Ne.symm hab,h9a,h9b,Ne.symm h9a,Ne.symm h9b,hkl,px,py,w1,aB]
     have sx:=cJ (iv (cQ s j)) [.int .i64 0] k hx [.int .i64 (vx s s.ms[k])] (by simp[cQ,eqX,e1])
     have sy:=cJ (iv (cR s j)) [.int .i64 0] k hy [.int .i64 (vy s s.ms[k])] (by simp[cR,eqY,e1])
     refine⟨k+1,by omega,by omega,rfl,by simp,?_⟩
     intro x y hx'
     rw[←sx,←sy] at hx'
     simp only[aA] at hx' ⊢
     grind
    ·simp[hab,Ne.symm hab,h9a,h9b,Ne.symm h9a,Ne.symm h9b,hkl,px,py,w1,nx,ny,aB]
     refine⟨fun e2=> ?_,fun e2=> ?_⟩
     ·have fx:eqX s j s.ms[k]= -vx s s.ms[k]:=by rw[eqX,if_neg e1,if_pos e2]
      have fy:eqY s j s.ms[k]= -vy s s.ms[k]:=by rw[eqY,if_neg e1,if_pos e2]
      have sx:=cJ (iv (cQ s j)) [.int .i64 0] k hx [.int .i64 (-vx s s.ms[k])] (by simp[cQ,fx])
      have sy:=cJ (iv (cR s j)) [.int .i64 0] k hy [.int .i64 (-vy s s.ms[k])] (by simp[cR,fy])
      refine⟨k+1,by omega,by omega,rfl,by simp,?_⟩
      intro x y hx'
      rw[←sx,←sy] at hx'
      simp only[aA] at hx' ⊢
      grind
     ·have sx:=iY (iv (cQ s j)) [.int .i64 0] k hx (by simp[cQ,eqX,e1,e2])
      have sy:=iY (iv (cR s j)) [.int .i64 0] k hy (by simp[cR,eqY,e1,e2])
      refine⟨k+1,by omega,by omega,rfl,by simp,?_⟩
      intro x y hx'
      rw[←sx,←sy] at hx'
      simp only[aA] at hx' ⊢
      grind
   ·have:k=s.ms.length:=by omega
    subst this
    rw[gD _ _ _ (by simp),gD _ _ _ (by simp)]
    intro gp hgp hpb hpa hbp
    have npg:gp≠g:=fun e=>by rw[e,hb] at hbp;cases hbp
    have er2:List.range 2= [0,1]:=rfl
    simp[er2,appV,elsV,Int.not_lt.2 hgp,hpb,hpa,Ne.symm hpb,Ne.symm hpa,nga,ngb,Ne.symm nga,Ne.symm ngb,npg,Ne.symm npg,hb,hel]
    refine⟨by omega,fun gn hgn hbn=> ?_⟩
    have w9:IntKind.i64.wrap ((i:Int)+1)=i+1:=i64_in (by omega) (by omega)
    rw[aB]
    subst hj
    have nx:=pG ⟨hi,hb,hel,ho,hn,hg,hf,hsb,cM⟩ h hga hba hgb (Ne.symm hab) hbb hpa hpb hbp hgn hbn
    refine⟨_,nx,by simp only;omega,rfl,?_,sub_eq rfl⟩
    simp[w9];exact⟨rfl,by omega⟩
 ·have:i=(aI s.js).length:=by omega
  subst this
  refine fA [.lsl g 1 0 (2*(aI s.js).length)] (g::gs) (by simp) ?_ ?_ hsb
  ·unfold dII
   rw[OwnD]
   have e:dK s=wC s (aI s.js).length:=by simp[wC,dK]
   refine .inr ⟨g,els,gs,by rw[e,List.length_map,mB s _ (Nat.le_refl _)];rfl,rfl,hn,hb,cM,?_⟩
   rw[e];exact ho
  ·intro x hx
   rcases List.mem_cons.1 hx with rfl | hx
   ·exact hg
   ·exact hf x hx

def tS (m:Mb) (k:Nat):List (Int×Int):=(if m.kind=2 then [] else [((k:Int),1)])++(if m.kind=1 then [] else [((k:Int), -1)])
def cU (ms:List Mb) (n:Nat):List (Int×Int):=(List.range n).flatMap fun k=>tS (ms.getD k default) k
def aZ (ms:List Mb):List (Int×Int):=cU ms ms.length
def cv (cs:List (Int×Int)):List (List V):=cs.map fun p=> [.int .i64 p.1,.int .i64 p.2]
theorem mF (ms:List Mb) (n:Nat):cU ms (n+1)=cU ms n++tS (ms.getD n default) n:=by
 unfold cU
 rw[List.range_succ,List.flatMap_append];simp
theorem Kq (m:Mb) (k:Nat):(tS m k).length≤2:=by
 unfold tS;split<;>split<;>simp
theorem kA (ms:List Mb): ∀n,(cU ms n).length≤2*n
 | 0 => by simp [cU]
 | n + 1 => by
   rw[mF,List.length_append]
   have:=kA ms n
   have:=Kq (ms.getD n default) n
   omega
theorem nE (a b:List (Int×Int)):cv (a++b)=cv a++cv b:=by simp[cv]
@[simp] theorem Y9 (a : List (Int × Int)) : (cv a).length = a.length := by simp [cv]
theorem pP (a:List (Int×Int)):(cv a).take a.length=cv a:=by rw[←Y9 a,List.take_length]
theorem aA4 (a:List (Int×Int)):(cv a).all (fun e=>e.all V.cl)=true:=by simp[cv,V.cl]
theorem Mg (a:List (Int×Int)): ∀r,r∈cv a→r.length=2:=by
 intro r hr
 obtain⟨n,_,rfl⟩:=List.mem_map.1 hr
 rfl
theorem Ts {bl:Int→Option Blk} {ns:List (Int×Int)} {v:V} {gs:List Int} :OwnD bl (fl 2 (cv ns)) v gs ↔ (ns= []∧v= .nils∧gs= [])∨ ∃g,v= .lsl g 2 0 ns.length∧gs= [g]∧bl g=some ⟨2,cv ns⟩∧(g<0→ns= []):=by
 rw[uN (aA4 ns) (Mg ns)]
 simp[cv]
theorem Q6 (s:Str) (hm:s.ms.length≤8):NW Tryz.prog 146 [.ptr s.c] (fl 2 (cv (aZ s.ms))):=by
 refine jQ Tryz.func146 rfl rfl (by rw[Tryz.ntmps146];simp) fun bl=> ?_
 rw[Tryz.ntmps146,Tryz.results146]
 refine aC ?_
 simp[Str.c]
 refine qU 3 2 (by simp) fun g00 sH=> ?_
 refine aP (fun p:Nat×Int=> [(3,.lsl p.2 2 0 (cU s.ms p.1).length),(9,.sl (mv s.ms)),(10,.int .i64 s.ms.length),(11,.int .i64 p.1)]) (fun p=>upd bl p.2 (some ⟨2,cv (cU s.ms p.1)⟩)) (fun p=>p.1≤s.ms.length∧bl p.2=none∧(p.2<0→cU s.ms p.1= [])) (fun p=>s.ms.length - p.1) _ (0,g00) ⟨Nat.zero_le _,sH,fun _=>rfl⟩ ⟨rfl,by simp[cU],sub_eq (by simp[cU,cv])⟩ ?_
 rintro⟨i,g⟩ ⟨hi,hg,h0⟩
 simp only at hi hg h0
 have hl:=kA s.ms i
 refine aC ?_
 simp
 refine⟨fun h=> ?_,fun h=> ?_⟩
 ·have w1:IntKind.i64.wrap ((i:Int)+1)=i+1:=i64_in (by omega) (by omega)
  have hsc:=mF s.ms i
  rw[mZ _ _ _ h] at hsc
  simp[h,Mb.c]
  intro g1 hg1 h1g hb1
  refine⟨fun hf=> ?_,fun hf=> ?_⟩
  ·intro g2 hg2 h21 h2g hb2
   simp[h1g,h21,h2g,Ne.symm h1g,Ne.symm h21,Ne.symm h2g,appV,elsV,Int.not_lt.2 hg2]
   refine⟨by omega,fun g3 hg3 hb3=> ?_⟩
   have h31:g3≠g1:=by grind
   have xH:bl g3=none:=by grind
   simp[h31,Ne.symm h31,h1g,h21,Ne.symm h1g,Ne.symm h21]
   refine⟨fun hf2=> ?_,fun hf2=> ?_⟩
   ·intro g4 hg4 h43 h42
    simp[h43,Ne.symm h43,h31,Ne.symm h31,appV,elsV,Int.not_lt.2 hg4]
    refine⟨by omega,fun g5 hg5 hb5=> ?_⟩
    have aIV:bl g5=none:=by grind
    have hb4:bl g4=none:=by grind
    have hs1:cU s.ms (i+1)=cU s.ms i++ [((i:Int),1)]++ [((i:Int), -1)]:=by rw[hsc,tS,if_neg hf,if_neg hf2,List.append_assoc]
    simp[w1,aB]
    refine⟨i+1,g5,⟨by omega,aIV,by omega⟩,by omega,rfl,by simp[hs1],?_⟩
    rw[hs1,nE,nE]
    exact lH (by rw[pP,List.take_of_length_le (by simp)];rfl) (by simp[hg,hb1,hb2,xH,hb4,h1g,h21,h2g])
   ·have hs1:cU s.ms (i+1)=cU s.ms i++ [((i:Int),1)]:=by rw[hsc,tS,if_neg hf,if_pos hf2,List.append_nil]
    simp[w1,aB]
    refine⟨i+1,g3,⟨by omega,xH,by omega⟩,by omega,rfl,by simp[hs1],?_⟩
    rw[hs1,nE]
    exact lH (by rw[pP];rfl) (by simp[hg,hb1,hb2,h1g,h21,h2g])
  ·refine⟨fun hf2=> ?_,fun hf2=> ?_⟩
   ·intro g2 hg2 h21 h2g hb2
    simp[h1g,h21,h2g,Ne.symm h1g,Ne.symm h21,Ne.symm h2g,appV,elsV,Int.not_lt.2 hg2]
    refine⟨by omega,fun g3 hg3 hb3=> ?_⟩
    have xH:bl g3=none:=by grind
    have hs1:cU s.ms (i+1)=cU s.ms i++ [((i:Int), -1)]:=by rw[hsc,tS,if_pos hf,if_neg hf2,List.nil_append]
    simp[w1,aB]
    refine⟨i+1,g3,⟨by omega,xH,by omega⟩,by omega,rfl,by simp[hs1],?_⟩
    rw[hs1,nE]
    exact lH (by rw[pP];rfl) (by simp[hg,hb1,hb2,h1g,h21,h2g])
   ·omega
 ·have hi:i=s.ms.length:=by omega
  subst hi
  refine fA [.lsl g 2 0 (cU s.ms s.ms.length).length] [g] (by simp) ?_ (by simpa using hg) (by simp[hg])
  refine Ts.2 (.inr ⟨g,rfl,rfl,by simp[aZ],h0⟩)
def who (s:Str):List Int:=(aZ s.ms).map (·.1)
def sgn (s:Str):List Int:=(aZ s.ms).map (·.2)
def dWS (s:Str):D:= .t [fl 1 (iv (who s)),fl 1 (iv (sgn s))]
structure Two where
 i:Nat
 g:Int
 h:Int
 b:Int→Option Blk
def aJF (bl:Int→Option Blk) (A B:Nat→List Int) (n:Nat) (p:Two):Prop:=
 p.i≤n∧p.g≠p.h∧p.b p.g=some ⟨1,iv (A p.i)⟩∧p.b p.h=some ⟨1,iv (B p.i)⟩∧bl p.g=none∧bl p.h=none∧Sub bl p.b∧(p.g<0→A p.i= [])∧(p.h<0→B p.i= [])
theorem oQ (s:Str) (hm:s.ms.length≤8):RO Tryz.prog 146 [.ptr s.c] (.sl (cv (aZ s.ms))):=by
 have:=eK 1 (Q6 s hm) (mN _ _ 0)
 simpa using this

def vsg (p:Int) (x:Option Rat):Option Rat:=if p<0 then x.map (- ·) else x
def stI (acc:List (Option Rat)) (p:Int×Int) (x:Option Rat):List (Option Rat):=
 acc.set p.1.toNat (if(acc.getD p.1.toNat none).isSome=true then op2 (· + ·) (acc.getD p.1.toNat none) (vsg p.2 x) else vsg p.2 x)
def stS (acc:List (Option Rat)) (p:Int×Int) (x:Option Rat):List (Option Rat):=
 acc.set p.1.toNat (if 0<p.2 then op2 (· + ·) (acc.getD p.1.toNat none) x else op2 (· - ·) (acc.getD p.1.toNat none) x)
def fF (ms:List Mb) (d:List (Option Rat)) (t:Nat):List (Option Rat):=(List.range t).foldl (fun acc j=>stI acc ((aZ ms).getD j (0,0)) (d.getD j none)) (List.replicate ms.length none)
def aMY (ms:List Mb) (d:List (Option Rat)) (t:Nat):List (Option Rat):=(List.range t).foldl (fun acc j=>stS acc ((aZ ms).getD j (0,0)) (d.getD j none)) (List.replicate ms.length (some 0))
theorem nV (ms:List Mb) (d:List (Option Rat)) (t:Nat):fF ms d (t+1)=stI (fF ms d t) ((aZ ms).getD t (0,0)) (d.getD t none):=by
 unfold fF;rw[List.range_succ,List.foldl_append];rfl
theorem dN (ms:List Mb) (d:List (Option Rat)): ∀t,(fF ms d t).length=ms.length
 | 0 => by simp [fF]
 | t + 1 => by rw [nV, stI, List.length_set, dN ms d t]
theorem Iu :okQ none:=fun _ e=>by cases e
theorem Rx {p:Int} {x:Option Rat} (h:okQ x):okQ (vsg p x):=by
 unfold vsg;split
 ·exact uD h
 ·exact h
theorem Ku {xs:List (Option Rat)} (h:okL xs) (i:Nat) {x:Option Rat} (hx:okQ x):okL (xs.set i x):=fun y hy=>by
 rcases List.mem_or_eq_of_mem_set hy with h1 | h1
 ·exact h y h1
 ·rw[h1];exact hx
theorem B7 (ms:List Mb) {d:List (Option Rat)} (hd:okL d): ∀t,okL (fF ms d t)
 | 0 => fun y hy => by
   have:y∈List.replicate ms.length (none:Option Rat):=hy
   rw[List.mem_replicate] at this
   rw[this.2];exact Iu
 | t + 1 => by
   rw[nV,stI]
   refine Ku (B7 ms hd t) _ ?_
   split
   ·exact gJ _ _ _
   ·exact Rx (Ms hd _)
theorem Ju {ms:List Mb} {p:Int×Int} : ∀n,n≤ms.length→p∈cU ms n→ ∃k:Nat,p.1=k∧k<ms.length∧(p.2=1∨p.2= -1):=by
 intro n
 induction n with
 | zero => intro _ h; simp [cU] at h
 | succ n ih =>
   intro hn h
   rw[mF] at h
   rcases List.mem_append.1 h with h | h
   ·exact ih (by omega) h
   ·refine⟨n,?_⟩
    unfold tS at h
    rcases List.mem_append.1 h with h | h
    ·split at h
     ·cases h
     ·obtain rfl:p=_:=by simpa using h
      exact⟨rfl,by omega,.inl rfl⟩
    ·split at h
     ·cases h
     ·obtain rfl:p=_:=by simpa using h
      exact⟨rfl,by omega,.inr rfl⟩
theorem getD_set_ne {xs:List (Option Rat)} {i k:Nat} (h:i≠k) (x:Option Rat):(xs.set i x).getD k none=xs.getD k none:=by
 rw[List.getD_eq_getElem?_getD,List.getElem?_set_ne h,List.getD_eq_getElem?_getD]
def aKG (ms:List Mb) (A B:List (Option Rat)) (n:Nat):Prop:= ∀k,k<ms.length→(k<n→A.getD k none=B.getD k none)∧(n≤k→A.getD k none=none∧B.getD k none=some 0)

end Go.Proofs.YticmgmemnpcbbaaGreat.Vm

namespace Go.Proofs.YticmgmemnpcbbaaGreat.Vm
open Go Go.Proofs
set_option linter.unusedSimpArgs false
set_option linter.unusedVariables false
def apX (s:Str) (d:List (Option Rat)) (m:Mb):Option Rat:=op2 (· - ·) (dX s.js d m.b.toNat) (dX s.js d m.a.toNat)
def apY (s:Str) (d:List (Option Rat)) (m:Mb):Option Rat:=op2 (· - ·) (dY s.js d m.b.toNat) (dY s.js d m.a.toNat)
def Tl (s:Str) (d:List (Option Rat)) (k:Nat):Option Rat:=op2 (· + ·) (op2 (· * ·) (some (vx s (mat s k):Rat)) (apX s d (mat s k))) (op2 (· * ·) (some (vy s (mat s k):Rat)) (apY s d (mat s k)))
def aB7 (s:Str) (k:Int) (d:List RT):Bool:=Nk s d && (decide (0≤k)&& decide (k<s.ms.length))
def aME (s:Str) (k:Int) (d:List RT):Option Rat:=if aB7 s k d=true then Tl s (bA d) k.toNat else none

def aLC (rs:List RT):Bool:=rs.all fun r=> !decide (r.d= [])
def Tu (a b:List RT):Bool:=(Fs a && Fs b)&& decide (a.length=b.length)
def aK6 (a b:List RT):List (Option Rat):=if Tu a b=true then List.zipWith (op2 (· + ·)) (bA a) (bA b) else [none]
def aLX (r:RT) (q:List RT):List (Option Rat):=if(r.ok∧Fs q=true) then(bA q).map (op2 (· * ·) (rd r)) else [none]

def atW (s:Str) (i:Nat):Int:=if fxd s.js i=true then -1 else(idx s.js i:Int)

def aKT (bl:Int→Option Blk) (g6:Int) (p:Int×Int):Prop:=0≤p.1∧0≤p.2∧ ¬ p.1=p.2∧ ¬ p.1=g6∧ ¬ p.2=g6∧bl p.1=none∧bl p.2=none

def Ed (m:Mb) (x:Option Rat):Bool:=(!x.isSome || (decide (m.kind≠2)&& decide (0<sgq x)))|| (decide (m.kind≠1)&& decide (sgq x<0))
def To (s:Str) (d:List (Option Rat)):Bool:=(List.range s.ms.length).all fun k=> !Ed (mat s k) (Tl s d k)
def aIJ (s:Str) (d:List (Option Rat)) (n:Nat):Prop:= ∀k:Nat,k<n→Ed (mat s k) (Tl s d k)=false
def wkTo (s:Str) (l:List Int) (d:List (Option Rat)):Nat→Option Rat
 | 0 => some 0
 | t + 1 => op2 (· + ·) (op2 (· + ·) (wkTo s l d t) (op2 (· * ·) (some (lN l (2 * ((aI s.js).getD t 0).toNat) : Rat)) (d.getD (2 * t) none))) (op2 (· * ·) (some (lN l (2 * ((aI s.js).getD t 0).toNat + 1) : Rat)) (d.getD (2 * t + 1) none))
def wkW (s:Str) (l:List Int) (d:List (Option Rat)):Option Rat:=wkTo s l d (aI s.js).length
def aNP (s:Str) (l:List Int) (d:List RT):Bool:=(Nk s d && gL s.js l)&& (To s (bA d)&& decide (0<sgq (wkW s l (bA d))))

theorem uF (cs:List (Int×Int)) (i:Nat) (h:i<(cv cs).length):(cv cs)[i]= [.int .i64 (cs[i]'(by simpa using h)).1,.int .i64 (cs[i]'(by simpa using h)).2]:=by simp[cv]
theorem tX (xs:List (Option Rat)) (i:Nat) (x:Option Rat):(fvs xs).set i [fv x]=fvs (xs.set i x):=by simp[fvs,List.map_set]
theorem Jr (s:Str) (D:List (Option Rat)) (hm:s.ms.length≤8) (hD:okL D) (hl:D.length=(aZ s.ms).length):RO Tryz.prog 147 [.ptr s.c,.sl (fvs D)] (.sl (fvs (fF s.ms D (aZ s.ms).length))):=by
 have hcl:=kA s.ms s.ms.length
 change(aZ s.ms).length≤2*s.ms.length at hcl
 refine aK Tryz.func147 rfl rfl (by rw[Tryz.ntmps147];simp) fun bl=> ?_
 rw[Tryz.ntmps147,Tryz.results147]
 refine aC ?_
 simp[Str.c]
 refine⟨by omega,by unfold maxLen;omega,fun g hg0 hg=> ?_⟩
 refine aD (oQ s hm) ?_
 simp
 refine aP (fun j:Nat=> [(1,.sl (fvs D)),(5,.lsl g 1 0 s.ms.length),(16,.sl (cv (aZ s.ms))),(17,.int .i64 (aZ s.ms).length),(18,.int .i64 j)]) (fun j=>upd bl g (some ⟨1,fvs (fF s.ms D j)⟩)) (fun j=>j≤(aZ s.ms).length) (fun j=>(aZ s.ms).length - j) _ 0 (Nat.zero_le _) ⟨rfl,by simp,sub_eq (by simp[fF,fvs,fv])⟩ ?_
 intro j hj
 have wj:IntKind.i64.wrap ((j:Int)+1)=(j:Int)+1:=i64_in (by omega) (by omega)
 refine aC ?_
 simp
 refine⟨fun h=> ?_,fun h=> ?_⟩
 ·have pJ:(aZ s.ms)[j]∈aZ s.ms:=List.getElem_mem h
  obtain⟨k,e1,hk,hsg⟩:=Ju s.ms.length (Nat.le_refl _) pJ
  have h2:j<D.length:=by omega
  have hrl:=dN s.ms D j
  have hkA:k<(fF s.ms D j).length:=by omega
  have oj:=hD _ (List.getElem_mem h2)
  have okk:=B7 s.ms hD j _ (List.getElem_mem hkA)
  have hst:=nV s.ms D j
  rw[mZ _ _ _ h,mZ _ _ _ h2,stI,e1,Int.toNat_natCast,mZ _ _ _ hkA] at hst
  have hns:=N6 D[j]
  have hA1:=kI (fF s.ms D j)[k] D[j] okk oj
  have hA2:=kI (fF s.ms D j)[k] (D[j].map (- ·)) okk (uD oj)
  rcases hsg with e2 | e2
  ·rcases eA:(fF s.ms D j)[k] with _ | a
   ·rw[eA,if_neg (by simp),e2,vsg,if_neg (by omega)] at hst
    simp[h,uF,e1,e2]
    intro g7 hg7 h7g hb7
    simp[h7g,Ne.symm h7g,h2]
    simp[h7g,Ne.symm h7g,hrl,hk,hkA,eA,show fv none= .nilp from rfl,show∀a,fv (some a)= .ptr (rq a).c from fun _=>rfl]
    simp[wj,aB,tX]
    exact⟨j+1,by omega,by omega,rfl,by simp,by rw[hst];intro z b hz;simp only[aA] at hz ⊢;grind⟩
   ·rw[eA,if_pos (by rfl),←eA,e2,vsg,if_neg (by omega)] at hst
    simp[h,uF,e1,e2]
    intro g7 hg7 h7g hb7
    simp[h7g,Ne.symm h7g,h2]
    simp[h7g,Ne.symm h7g,hrl,hk,hkA,eA,show fv none= .nilp from rfl,show∀a,fv (some a)= .ptr (rq a).c from fun _=>rfl]
    refine cD aN [0,1,2,3,4,5,6,7,8,9,10] 1 11 (by kernel_rfl) ?_
    simp[h7g,Ne.symm h7g,hrl,hk,hkA]
    refine aG hA1 ?_
    simp[h7g,Ne.symm h7g,hrl,hk,hkA]
    refine bO (i:=11) (by kernel_rfl) rfl rfl rfl ?_
    simp[h7g,Ne.symm h7g,hrl,hk,hkA]
    refine Dy ?_
    try simp
    simp[wj,aB,tX]
    exact⟨j+1,by omega,by omega,rfl,by simp,by rw[hst];intro z b hz;simp only[aA] at hz ⊢;grind⟩
  ·rcases eA:(fF s.ms D j)[k] with _ | a
   ·rw[eA,if_neg (by simp),e2,vsg,if_pos (by omega)] at hst
    simp[h,uF,e1,e2]
    intro g7 hg7 h7g hb7
    simp[h7g,Ne.symm h7g,h2]
    refine aD hns ?_
    simp[h7g,Ne.symm h7g,h2]
    simp[h7g,Ne.symm h7g,hrl,hk,hkA,eA,show fv none= .nilp from rfl,show∀a,fv (some a)= .ptr (rq a).c from fun _=>rfl]
    simp[wj,aB,tX]
    exact⟨j+1,by omega,by omega,rfl,by simp,by rw[hst];intro z b hz;simp only[aA] at hz ⊢;grind⟩
   ·rw[eA,if_pos (by rfl),←eA,e2,vsg,if_pos (by omega)] at hst
    simp[h,uF,e1,e2]
    intro g7 hg7 h7g hb7
    simp[h7g,Ne.symm h7g,h2]
    refine aD hns ?_
    simp[h7g,Ne.symm h7g,h2]
    simp[h7g,Ne.symm h7g,hrl,hk,hkA,eA,show fv none= .nilp from rfl,show∀a,fv (some a)= .ptr (rq a).c from fun _=>rfl]
    refine cD aN [0,1,2,3,4,5,6,7,8,9,10] 1 11 (by kernel_rfl) ?_
    simp[h7g,Ne.symm h7g,hrl,hk,hkA]
    refine aG hA2 ?_
    simp[h7g,Ne.symm h7g,hrl,hk,hkA]
    refine bO (i:=11) (by kernel_rfl) rfl rfl rfl ?_
    simp[h7g,Ne.symm h7g,hrl,hk,hkA]
    refine Dy ?_
    try simp
    simp[wj,aB,tX]
    exact⟨j+1,by omega,by omega,rfl,by simp,by rw[hst];intro z b hz;simp only[aA] at hz ⊢;grind⟩
 ·have hj2:j=(aZ s.ms).length:=by omega
  subst hj2
  have hrl:=dN s.ms D (aZ s.ms).length
  exact aQ [.lsl g 1 0 s.ms.length] 1 (by simp) (dU (sz:=1) (n:=s.ms.length) hg0 hg (els:=fvs (fF s.ms D (aZ s.ms).length)) (by simp) (by simpa using hrl) (Da _)) (by simp[hg])
def aBG (s:Str) (d:List RT):Bool:=sOk s && (decide (d.length=(aZ s.ms).length)&& iN d)
def aMC (s:Str) (d:List RT):List (Option Rat):=if aBG s d=true then fF s.ms (bA d) (aZ s.ms).length else [none]
def aLM (n:Nat):List RT:=List.replicate n (ro (some 0))

theorem J1 {zs:List (Option Rat)} (h:okL zs):iN (cZ zs)=bZ zs:=by
 unfold iN cZ bZ
 rw[List.all_map,Bool.eq_iff_iff,List.all_eq_true,List.all_eq_true]
 constructor
 ·intro H x hx
  have:=H x hx
  rwa [Function.comp,K9 (h x hx)] at this
 ·intro H x hx
  rw[Function.comp,K9 (h x hx)];exact H x hx
theorem Af {zs:List (Option Rat)} (h:okL zs) (hl:zs.length≤1048576):xE (cZ zs) 1048576:=by
 refine⟨by simpa using hl,fun r hr=> ?_⟩
 obtain⟨x,hx,rfl⟩:=List.mem_map.1 hr
 have:=ro_le (h x hx)
 exact⟨by omega,by omega⟩

def gv (cells:List (List (Option Rat))):List (List V):=cells.map fun r=> [.sl (fvs r)]
def dGr (cells:List (List (Option Rat))):D:= .s 1 (cells.map fun r=> [fl 1 (fvs r)])
def dG (r c:Nat) (cells:List (List (Option Rat))):D:= .a [.c (.int .i64 r),.c (.int .i64 c),dGr cells]
def rowOf (c:Nat) (m:Nat→Nat→Option Rat) (i:Nat):List (Option Rat):=(List.range c).map (m i)
def aKR (r c:Nat) (m:Nat→Nat→Option Rat):List (List (Option Rat)):=(List.range r).map (rowOf c m)
theorem wP (b:Int→Option Blk) (g:Int):Sub (rem b g) b:=fun z y hz=>by
 rw[aJ] at hz
 split at hz
 ·cases hz
 ·exact hz

theorem OwnR.append {bl:Int→Option Blk} {sz:Nat} {rs2:List (List D)} {e2:List (List V)} {g2:List Int} (h2:OwnR bl sz rs2 e2 g2): ∀ {rs:List (List D)} {els:List (List V)} {g1:List Int},OwnR bl sz rs els g1→(∀x,x∈g1→x∉g2)→OwnR bl sz (rs++rs2) (els++e2) (g1++g2)
 | [], els, g1, h, hd => by
   rw[OwnR] at h
   obtain⟨rfl,rfl⟩:=h
   exact h2
 | r :: rs, els, g1, h, hd => by
   rw[OwnR] at h
   obtain⟨e,jJ,ga,gb,rfl,rfl,h3,h4,h5,h6,h7⟩:=h
   have ih:=OwnR.append h2 h7 fun x hx=>hd x (List.mem_append_right _ hx)
   show OwnR bl sz (r::(rs++rs2)) (e::(jJ++e2)) (ga++gb++g2)
   rw[OwnR]
   refine⟨e,jJ++e2,ga,gb++g2,rfl,by simp,fun x hx hx2=> ?_,h4,h5,h6,ih⟩
   rcases List.mem_append.1 hx2 with hx2 | hx2
   ·exact h3 x hx hx2
   ·exact hd x (List.mem_append_left _ hx) hx2
structure MX where
 r:Int
 c:Int
 cells:List RT
def MX.c3 (m:MX):List V:= [.int .i64 m.r,.int .i64 m.c,.sl (rv m.cells)]
def dMx (m:MX):List D:= [.c (.int .i64 m.r),.c (.int .i64 m.c),dRs m.cells]
def aBS (cells:List (List (Option Rat))):Bool:=cells.all bZ
def aMZ (r c:Int) (cells:List (List (Option Rat))):MX:=if aBS cells=true then⟨r,c,(cells.map cZ).flatten⟩ else⟨0,0,[]⟩
def dMB (m:MX) (b:Bool):D:= .t [.a (dMx m),.c (.bool b)]
def aJE (cells:List (List (Option Rat))) (i:Nat):List RT:=((cells.take i).map cZ).flatten

end Go.Proofs.YticmgmemnpcbbaaGreat.Vm

namespace Go.Proofs.YticmgmemnpcbbaaGreat.Vm
open Go Go.Proofs
set_option linter.unusedSimpArgs false
set_option linter.unusedVariables false
def Fk (s:Str) (n:Nat):List Int:=((aI s.js).take n).flatMap fun j=>cQ s j++cR s j
def mP (s:Str):List Int:=(aI s.js).flatMap fun j=>cQ s j++cR s j
structure aC0 where
 i:Nat
 g:Int
 b:Int→Option Blk
def aDJ (bl:Int→Option Blk) (s:Str) (gs:Int) (p:aC0):Prop:=
 p.i≤(aI s.js).length∧p.g≠gs∧p.b p.g=some ⟨1,iv (Fk s p.i)⟩∧p.b gs=some ⟨2,[[.sl (jv s.js),.sl (mv s.ms)]]⟩∧bl p.g=none∧Sub bl p.b∧(p.g<0→Fk s p.i= [])
def xTo (s:Str) (j:Int) (n:Nat):List Int:=(s.ms.take n).map (eqX s j)
def yTo (s:Str) (j:Int) (n:Nat):List Int:=(s.ms.take n).map (eqY s j)
def lF (s:Str) (l:List Int) (n:Nat):List Int:=((aI s.js).take n).flatMap fun j=> [-lat l (2*j).toNat, -lat l (2*j+1).toNat]
def right (s:Str) (l:List Int):List Int:=(aI s.js).flatMap fun j=> [-lat l (2*j).toNat, -lat l (2*j+1).toNat]
theorem A4 (s:Str) (l:List Int) (n:Nat) (h:n<(aI s.js).length):lF s l (n+1)=lF s l n++ [-lat l (2*(aI s.js)[n]).toNat, -lat l (2*(aI s.js)[n]+1).toNat]:=by
 unfold lF
 rw[List.take_add_one,List.getElem?_eq_getElem h,List.flatMap_append];simp
theorem mH (s:Str) (l:List Int): ∀n,n≤(aI s.js).length→(lF s l n).length=2*n
 | 0, _ => by simp [lF]
 | n + 1, h => by
   rw[A4 s l n (by omega),List.length_append,mH s l n (by omega)];simp;omega
theorem K0 {s:Str} {j:Int} (h:j∈aI s.js):0≤j∧j<s.js.length:=by
 unfold aI cI at h
 obtain⟨k,hk,rfl⟩:=List.mem_map.1 h
 have:=List.mem_range.1 (List.mem_filter.1 hk).1
 omega

structure Pg where
 rows:Int
 aZ:Int
 a:List Int
 b:List Int
 c:List Int
def Pg.v (p:Pg):List V:= [.int .i64 p.rows,.int .i64 p.aZ,.sl (iv p.a),.sl (iv p.b),.sl (iv p.c)]
def nR (s:Str):Nat:=2*(aI s.js).length
def nC (s:Str):Nat:=(aZ s.ms).length
def bQ (s:Str) (c:Nat):Int×Int:=(aZ s.ms).getD c (0,0)
def ent (s:Str) (i c:Nat):Int:=(bQ s c).2*lat (mP s) (i*s.ms.length+(bQ s c).1.toNat)
def aTo (s:Str) (n:Nat):List Int:=(List.range n).map fun t=>ent s (t / nC s) (t % nC s)
def cH (s:Str) (l:List Int):Pg:=⟨nR s,nC s,aTo s (nR s*nC s),right s l,List.replicate (nC s) 0⟩
@[simp] theorem Ql (s : Str) (n : Nat) : (aTo s n).length = n := by simp [aTo]
theorem Ft {ms:List Mb} {n:Nat} {p:Int×Int} (h:p∈cU ms n):(0≤p.1∧p.1<n)∧(p.2=1∨p.2= -1):=by
 unfold cU at h
 obtain⟨k,hk,hp⟩:=List.mem_flatMap.1 h
 have:=List.mem_range.1 hk
 unfold tS at hp
 rcases List.mem_append.1 hp with hp | hp<;>split at hp<;>simp at hp<;>subst hp<;>simp<;>omega
theorem lU (s:Str) (c:Nat) (h:c<nC s):(0≤(bQ s c).1∧(bQ s c).1<s.ms.length)∧((bQ s c).2=1∨(bQ s c).2= -1):=by
 unfold nC at h
 have:bQ s c=(aZ s.ms)[c]:=by simp[bQ,h]
 rw[this]
 exact Ft (List.getElem_mem h)
theorem L3 {s:Str} (hs:SOk s) (n:Nat): -100≤lat (mP s) n∧lat (mP s) n≤100:=by
 have key: ∀x,x∈mP s→ -100≤x∧x≤100:=by
  intro x hx
  unfold mP at hx
  obtain⟨j,_,hx⟩:=List.mem_flatMap.1 hx
  rcases List.mem_append.1 hx with hx | hx
  ·obtain⟨m,hm,rfl⟩:=List.mem_map.1 hx
   have:=Ez hs hm
   unfold eqX;split
   ·omega
   ·split<;>omega
  ·obtain⟨m,hm,rfl⟩:=List.mem_map.1 hx
   have:=Ez hs hm
   unfold eqY;split
   ·omega
   ·split<;>omega
 unfold lat
 rw[List.getD_eq_getElem?_getD]
 cases h:(mP s)[n]? with
 | none => simp
 | some x => exact key x (List.mem_of_getElem? h)
structure PS where
 n:Nat
 g:Int
 b:Int→Option Blk
structure PI (bl : Int → Option Blk) (s : Str) (l : List Int) (gr gp gc : Int) (p : PS) : Prop where
 hr:p.b gr=some ⟨5,[[.int .i64 0,.int .i64 0,.nils,.nils,.nils]]⟩
 hp:p.b gp=some ⟨5,[[.int .i64 (nR s),.int .i64 (nC s),.lsl p.g 1 0 p.n,.sl (iv (right s l)),.lsl gc 1 0 (nC s)]]⟩
 hc:p.b gc=some ⟨1,iv (List.replicate (nC s) 0)⟩
 ha:p.b p.g=some ⟨1,iv (aTo s p.n)⟩
 pr:p.g≠gr
 pp:p.g≠gp
 pc:p.g≠gc
 f:bl p.g=none
 sub:Sub bl p.b
 neg:p.g<0→aTo s p.n= []

theorem qR {n:Nat} : ∀(rs:List (List Int)),(∀r,r∈rs→r.length=n)→ ∀(i k:Nat) (hi:i<rs.length),k<n→lat rs.flatten (i*n+k)=lat rs[i] k
 | [], _, i, k, hi, _ => by simp at hi
 | r :: rs, h, 0, k, hi, hk => by
   have:=h r List.mem_cons_self
   simp[lat,List.flatten_cons,List.getElem?_append_left (show k<r.length by omega)]
 | r :: rs, h, i + 1, k, hi, hk => by
   have hr:=h r List.mem_cons_self
   have ih:=qR rs (fun r hr=>h r (List.mem_cons_of_mem _ hr)) i k (by simpa using hi) hk
   have e:(i+1)*n+k=r.length+(i*n+k):=by rw[hr,Nat.add_mul];omega
   rw[List.flatten_cons,e]
   simp only[lat,List.getD_eq_getElem?_getD] at ih ⊢
   rw[List.getElem?_append_right (by omega),Nat.add_sub_cancel_left,ih];rfl
theorem pE (s:Str):mP s=(dK s).flatten:=by
 unfold mP dK
 induction aI s.js with
 | nil => rfl
 | cons j js ih => simp [ih]
theorem jC (s:Str): ∀r,r∈dK s→r.length=s.ms.length:=by
 intro r hr
 unfold dK at hr
 obtain⟨j,_,hr⟩:=List.mem_flatMap.1 hr
 simp at hr
 rcases hr with rfl | rfl<;>simp
theorem Qd (s:Str) (n m:Nat) (h:m<n):(iv (aTo s n))[m]'(by simpa using h)= [.int .i64 (ent s (m / nC s) (m % nC s))]:=by simp[aTo]
theorem eY (s:Str) (l:List Int):(right s l).length=nR s:=by
 have e:right s l=lF s l (aI s.js).length:=by simp[right,lF]
 rw[e,mH s l _ (Nat.le_refl _)];rfl
theorem vO (s:Str) (l:List Int): ∀(fs:List Int) (i:Nat) (h:i<fs.length),lat (fs.flatMap fun j=> [-lat l (2*j).toNat, -lat l (2*j+1).toNat]) (2*i)= -lat l (2*fs[i]).toNat∧lat (fs.flatMap fun j=> [-lat l (2*j).toNat, -lat l (2*j+1).toNat]) (2*i+1)= -lat l (2*fs[i]+1).toNat
 | [], i, h => by simp at h
 | f :: fs, 0, _ => by simp [lat]
 | f :: fs, i + 1, h => by
   have ih:=vO s l fs i (by simpa using h)
   have e1:2*(i+1)=(2*i)+1+1:=by omega
   have e2:2*(i+1)+1=(2*i+1)+1+1:=by omega
   rw[e2,e1]
   simpa [lat] using ih
theorem wE (s:Str) (hs:SOk s):RO Tryz.prog 148 [.ptr s.c] (.sl (ivv (dK s))):=by
 have:=eK 2 (wL s hs) (Kr _)
 rwa [Py] at this
def dPg (p:Pg):D:= .a [.c (.int .i64 p.rows),.c (.int .i64 p.aZ),fl 1 (iv p.a),fl 1 (iv p.b),fl 1 (iv p.c)]
structure ABC where
 a:Int
 b:Int
 c:Int
structure Nm (bl : Int → Option Blk) (gr gp : Int) (p : ABC) : Prop where
 a0:0≤p.a
 b0:0≤p.b
 c0:0≤p.c
 ba: ¬p.b=p.a
 ca: ¬p.c=p.a
 cb: ¬p.c=p.b
 ar: ¬p.a=gr
 ap: ¬p.a=gp
 br: ¬p.b=gr
 bp: ¬p.b=gp
 cr: ¬p.c=gr
 cp: ¬p.c=gp
 fa:bl p.a=none
 fb:bl p.b=none
 fc:bl p.c=none
theorem ad {p:Prop} {a b:Int} (F:p) (h: ¬a=b):p∧(a=b)=False∧(b=a)=False:=⟨F,eq_false h,eq_false fun e=>h e.symm⟩
theorem an {p q:Prop} (F:p) (h:q):p∧q:=⟨F,h⟩
set_option maxHeartbeats 4000000 in
theorem tQ (s:Str) (l:List Int) (hL:LOk s l):NW Tryz.prog 72 [.ptr s.c,.sl (iv l),.int .i64 0,.int .i64 0] (dPg (cH s l)):=by
 have hs:=hL.sok
 have h6:=hs.nj
 have h8:=hs.nm
 have hfr:=oY s.js s.js.length
 change(aI s.js).length≤s.js.length at hfr
 have hcn:nC s≤2*s.ms.length:=kA s.ms s.ms.length
 have hrn:nR s≤12:=by unfold nR;omega
 have er:(dK s).length=nR s:=by
  have e:dK s=wC s (aI s.js).length:=by simp[wC,dK]
  rw[e,mB s _ (Nat.le_refl _)];rfl
 have ec:(aZ s.ms).length=nC s:=rfl
 refine jQ Tryz.func72 rfl rfl (by rw[Tryz.ntmps72];simp) fun bl=> ?_
 rw[Tryz.ntmps72,Tryz.results72]
 refine aE ?_
 simp
 intro gr aMH hbr
 refine aE ?_
 simp
 refine aD (wE s hs) ?_
 simp
 refine aD (oQ s (by omega)) ?_
 simp
 refine aE ?_
 have w1:IntKind.i64.wrap (nR s:Int)=nR s:=i64_in (by omega) (by omega)
 have w2:IntKind.i64.wrap (nC s:Int)=nC s:=i64_in (by omega) (by omega)
 simp[er,ec,w1,w2]
 intro gp aJ0 hpr hbp
 obtain⟨nA,hA⟩: ∃n:Nat,n=nR s*nC s:=⟨_,rfl⟩
 have hA2:nA≤12*16:=by rw[hA];exact Nat.mul_le_mul (by omega) (by omega)
 have w3:IntKind.i64.wrap ((nR s:Int)*nC s)=nA:=by
  rw[hA]
  have:((nR s*nC s:Nat):Int)=nR s*nC s:=by simp
  rw[←this]
  exact i64_in (by omega) (by omega)
 let S:ABC→List (Nat×V):=fun _=> [(0,.ptr s.c),(1,.sl (iv l)),(8,.loc gr 5 0 0),(9,.sl (ivv (dK s))),(10,.sl (cv (aZ s.ms))),(11,.loc gp 5 0 0)]
 let B:ABC→Int→Option Blk:=fun p=>upd (upd (upd (upd (upd bl gr (some ⟨5,[[.int .i64 0,.int .i64 0,.nils,.nils,.nils]]⟩)) gp (some ⟨5,[[.int .i64 (nR s),.int .i64 (nC s),.lsl p.a 1 0 nA,.lsl p.b 1 0 (nR s),.lsl p.c 1 0 (nC s)]]⟩)) p.a (some ⟨1,List.replicate nA [.int .i64 0]⟩)) p.b (some ⟨1,List.replicate (nR s) [.int .i64 0]⟩)) p.c (some ⟨1,List.replicate (nC s) [.int .i64 0]⟩)
 have leaf: ∀(n:Nat) (σ:St) (ga gb gc:Int),0≤ga→0≤gb→0≤gc→(¬gb=ga∧ ¬gc=ga∧ ¬gc=gb∧ ¬ga=gr∧ ¬ga=gp∧ ¬gb=gr∧ ¬gb=gp∧ ¬gc=gr∧ ¬gc=gp∧bl ga=none∧bl gb=none∧bl gc=none)→σ.n=n→(∀p,p∈S ⟨ga,gb,gc⟩→σ.sl p.1=p.2)→Sub (B ⟨ga,gb,gc⟩) σ.bl→
   ∃a,Nm bl gr gp a∧Fit (S a) n (B a) σ:=fun n σ ga gb gc h1 h2 h3 ⟨h4,h5,h6,h7,h8,h9,h10,h11,h12,h13,h14,h15⟩ h16 h17 h18=>⟨⟨ga,gb,gc⟩,⟨h1,h2,h3,h4,h5,h6,h7,h8,h9,h10,h11,h12,h13,h14,h15⟩,h16,h17,h18⟩
 refine lW S B (Nm bl gr gp) 113 ?_ ?_
 ·have F:=an (an (ad trivial (show ¬gp=gr from hpr)) hbr) hbp
  refine Av aN _ (Sub.refl _) [0,1,2,3,4,6,7,9,10] 9 12 (by kernel_rfl) ?_
  simp[w3]
  refine uX (i:=5) (j:=8) (m:=11) false false false (by kernel_rfl) rfl rfl (by kernel_rfl) rfl rfl (by kernel_rfl) rfl rfl (by kernel_rfl) ?_ ?_ ?_
  ·simp[F]
   refine⟨by omega,by unfold maxLen;omega,?_⟩
   intro ga hga
   intros
   have F:=an (ad (ad F (show ¬ga=gr by assumption)) (show ¬ga=gp by assumption)) (show bl ga=none by assumption)
   refine⟨by simp[F],?_⟩
   refine uX (i:=8) (j:=11) (m:=12) false false true (by kernel_rfl) rfl rfl (by kernel_rfl) rfl rfl (by kernel_rfl) rfl rfl (by kernel_rfl) ?_ ?_ ?_
   ·simp[F]
    refine⟨by omega,by unfold maxLen;omega,?_⟩
    intro gb hgb
    intros
    have F:=an (ad (ad (ad F (show ¬gb=gr by assumption)) (show ¬gb=gp by assumption)) (show ¬gb=ga by assumption)) (show bl gb=none by assumption)
    refine⟨by simp[F],?_⟩
    refine Dw 11 12 false true ?_ ?_
    ·simp[F]
     refine⟨by omega,by unfold maxLen;omega,?_⟩
     intro gc hgc
     intros
     have F:=an (ad (ad (ad (ad F (show ¬gc=gr by assumption)) (show ¬gc=gp by assumption)) (show ¬gc=ga by assumption)) (show ¬gc=gb by assumption)) (show bl gc=none by assumption)
     refine⟨by simp[F],?_⟩
     refine Dq 12 true ?_
     simp[F]
     refine Dq 13 true ?_
     simp[F]
     refine Dq 14 true ?_
     simp[F]
     refine Dq 15 true ?_
     simp[F]
     refine Dq 16 true ?_
     simp[F]
     refine Dq 17 true ?_
     simp[F]
     refine Dd ?_
     rw[aF]
     exact leaf _ _ ga gb gc hga hgb hgc (by simp[F]) rfl (by simp[S]) (by intro x y hx;simp only[B,aA] at hx ⊢;grind)
    ·simp[F]
     refine Dw 11 13 true true ?_ ?_
     ·simp[F]
      refine⟨by omega,by unfold maxLen;omega,?_⟩
      intro gc hgc
      intros
      have F:=an (ad (ad (ad (ad F (show ¬gc=gr by assumption)) (show ¬gc=gp by assumption)) (show ¬gc=ga by assumption)) (show ¬gc=gb by assumption)) (show bl gc=none by assumption)
      refine Dq 13 true ?_
      simp[F]
      refine Dq 14 true ?_
      simp[F]
      refine Dq 15 true ?_
      simp[F]
      refine Dq 16 true ?_
      simp[F]
      refine Dq 17 true ?_
      simp[F]
      refine Dd ?_
      rw[aF]
      exact leaf _ _ ga gb gc hga hgb hgc (by simp[F]) rfl (by simp[S]) (by intro x y hx;simp only[B,aA] at hx ⊢;grind)
     ·simp[F]
      refine Dw 11 14 true true ?_ ?_
      ·simp[F]
       refine⟨by omega,by unfold maxLen;omega,?_⟩
       intro gc hgc
       intros
       have F:=an (ad (ad (ad (ad F (show ¬gc=gr by assumption)) (show ¬gc=gp by assumption)) (show ¬gc=ga by assumption)) (show ¬gc=gb by assumption)) (show bl gc=none by assumption)
       refine Dq 14 true ?_
       simp[F]
       refine Dq 15 true ?_
       simp[F]
       refine Dq 16 true ?_
       simp[F]
       refine Dq 17 true ?_
       simp[F]
       refine Dd ?_
       rw[aF]
       exact leaf _ _ ga gb gc hga hgb hgc (by simp[F]) rfl (by simp[S]) (by intro x y hx;simp only[B,aA] at hx ⊢;grind)
      ·simp[F]
       refine Dw 11 15 true true ?_ ?_
       ·simp[F]
        refine⟨by omega,by unfold maxLen;omega,?_⟩
        intro gc hgc
        intros
        have F:=an (ad (ad (ad (ad F (show ¬gc=gr by assumption)) (show ¬gc=gp by assumption)) (show ¬gc=ga by assumption)) (show ¬gc=gb by assumption)) (show bl gc=none by assumption)
        refine Dq 15 true ?_
        simp[F]
        refine Dq 16 true ?_
        simp[F]
        refine Dq 17 true ?_
        simp[F]
        refine Dd ?_
        rw[aF]
        exact leaf _ _ ga gb gc hga hgb hgc (by simp[F]) rfl (by simp[S]) (by intro x y hx;simp only[B,aA] at hx ⊢;grind)
       ·simp[F]
        refine Dq 11 true ?_
        simp[F]
        refine⟨by omega,by unfold maxLen;omega,?_⟩
        intro gc hgc
        intros
        have F:=an (ad (ad (ad (ad F (show ¬gc=gr by assumption)) (show ¬gc=gp by assumption)) (show ¬gc=ga by assumption)) (show ¬gc=gb by assumption)) (show bl gc=none by assumption)
        refine Dq 16 true ?_
        simp[F]
        refine Dq 17 true ?_
        simp[F]
        refine Dd ?_
        rw[aF]
        exact leaf _ _ ga gb gc hga hgb hgc (by simp[F]) rfl (by simp[S]) (by intro x y hx;simp only[B,aA] at hx ⊢;grind)
   ·simp[F]
    refine⟨by omega,by unfold maxLen;omega,?_⟩
    intro gc hgc
    intros
    have F:=an (ad (ad (ad F (show ¬gc=gr by assumption)) (show ¬gc=gp by assumption)) (show ¬gc=ga by assumption)) (show bl gc=none by assumption)
    refine⟨by simp[F],?_⟩
    refine Dw 8 12 false true ?_ ?_
    ·simp[F]
     refine⟨by omega,by unfold maxLen;omega,?_⟩
     intro gb hgb
     intros
     have F:=an (ad (ad (ad (ad F (show ¬gb=gr by assumption)) (show ¬gb=gp by assumption)) (show ¬gb=ga by assumption)) (show ¬gb=gc by assumption)) (show bl gb=none by assumption)
     refine⟨by simp[F],?_⟩
     refine Dq 12 true ?_
     simp[F]
     refine Dq 13 true ?_
     simp[F]
     refine Dq 14 true ?_
     simp[F]
     refine Dq 15 true ?_
     simp[F]
     refine Dq 16 true ?_
     simp[F]
     refine Dq 17 true ?_
     simp[F]
     refine Dd ?_
     rw[aF]
     exact leaf _ _ ga gb gc hga hgb hgc (by simp[F]) rfl (by simp[S]) (by intro x y hx;simp only[B,aA] at hx ⊢;grind)
    ·simp[F]
     refine Dw 8 13 true true ?_ ?_
     ·simp[F]
      refine⟨by omega,by unfold maxLen;omega,?_⟩
      intro gb hgb
      intros
      have F:=an (ad (ad (ad (ad F (show ¬gb=gr by assumption)) (show ¬gb=gp by assumption)) (show ¬gb=ga by assumption)) (show ¬gb=gc by assumption)) (show bl gb=none by assumption)
      refine Dq 13 true ?_
      simp[F]
      refine Dq 14 true ?_
      simp[F]
      refine Dq 15 true ?_
      simp[F]
      refine Dq 16 true ?_
      simp[F]
      refine Dq 17 true ?_
      simp[F]
      refine Dd ?_
      rw[aF]
      exact leaf _ _ ga gb gc hga hgb hgc (by simp[F]) rfl (by simp[S]) (by intro x y hx;simp only[B,aA] at hx ⊢;grind)
     ·simp[F]
      refine Dq 8 true ?_
      simp[F]
      refine⟨by omega,by unfold maxLen;omega,?_⟩
      intro gb hgb
      intros
      have F:=an (ad (ad (ad (ad F (show ¬gb=gr by assumption)) (show ¬gb=gp by assumption)) (show ¬gb=ga by assumption)) (show ¬gb=gc by assumption)) (show bl gb=none by assumption)
      refine Dq 14 true ?_
      simp[F]
      refine Dq 15 true ?_
      simp[F]
      refine Dq 16 true ?_
      simp[F]
      refine Dq 17 true ?_
      simp[F]
      refine Dd ?_
      rw[aF]
      exact leaf _ _ ga gb gc hga hgb hgc (by simp[F]) rfl (by simp[S]) (by intro x y hx;simp only[B,aA] at hx ⊢;grind)
   ·simp[F]
    refine uX (i:=8) (j:=11) (m:=13) true true true (by kernel_rfl) rfl rfl (by kernel_rfl) rfl rfl (by kernel_rfl) rfl rfl (by kernel_rfl) ?_ ?_ ?_
    ·simp[F]
     refine⟨by omega,by unfold maxLen;omega,?_⟩
     intro gb hgb
     intros
     have F:=an (ad (ad (ad F (show ¬gb=gr by assumption)) (show ¬gb=gp by assumption)) (show ¬gb=ga by assumption)) (show bl gb=none by assumption)
     refine Dw 11 13 true true ?_ ?_
     ·simp[F]
      refine⟨by omega,by unfold maxLen;omega,?_⟩
      intro gc hgc
      intros
      have F:=an (ad (ad (ad (ad F (show ¬gc=gr by assumption)) (show ¬gc=gp by assumption)) (show ¬gc=ga by assumption)) (show ¬gc=gb by assumption)) (show bl gc=none by assumption)
      refine Dq 13 true ?_
      simp[F]
      refine Dq 14 true ?_
      simp[F]
      refine Dq 15 true ?_
      simp[F]
      refine Dq 16 true ?_
      simp[F]
      refine Dq 17 true ?_
      simp[F]
      refine Dd ?_
      rw[aF]
      exact leaf _ _ ga gb gc hga hgb hgc (by simp[F]) rfl (by simp[S]) (by intro x y hx;simp only[B,aA] at hx ⊢;grind)
     ·simp[F]
      refine Dw 11 14 true true ?_ ?_
      ·simp[F]
       refine⟨by omega,by unfold maxLen;omega,?_⟩
       intro gc hgc
       intros
       have F:=an (ad (ad (ad (ad F (show ¬gc=gr by assumption)) (show ¬gc=gp by assumption)) (show ¬gc=ga by assumption)) (show ¬gc=gb by assumption)) (show bl gc=none by assumption)
       refine Dq 14 true ?_
       simp[F]
       refine Dq 15 true ?_
       simp[F]
       refine Dq 16 true ?_
       simp[F]
       refine Dq 17 true ?_
       simp[F]
       refine Dd ?_
       rw[aF]
       exact leaf _ _ ga gb gc hga hgb hgc (by simp[F]) rfl (by simp[S]) (by intro x y hx;simp only[B,aA] at hx ⊢;grind)
      ·simp[F]
       refine Dw 11 15 true true ?_ ?_
       ·simp[F]
        refine⟨by omega,by unfold maxLen;omega,?_⟩
        intro gc hgc
        intros
        have F:=an (ad (ad (ad (ad F (show ¬gc=gr by assumption)) (show ¬gc=gp by assumption)) (show ¬gc=ga by assumption)) (show ¬gc=gb by assumption)) (show bl gc=none by assumption)
        refine Dq 15 true ?_
        simp[F]
        refine Dq 16 true ?_
        simp[F]
        refine Dq 17 true ?_
        simp[F]
        refine Dd ?_
        rw[aF]
        exact leaf _ _ ga gb gc hga hgb hgc (by simp[F]) rfl (by simp[S]) (by intro x y hx;simp only[B,aA] at hx ⊢;grind)
       ·simp[F]
        refine Dq 11 true ?_
        simp[F]
        refine⟨by omega,by unfold maxLen;omega,?_⟩
        intro gc hgc
        intros
        have F:=an (ad (ad (ad (ad F (show ¬gc=gr by assumption)) (show ¬gc=gp by assumption)) (show ¬gc=ga by assumption)) (show ¬gc=gb by assumption)) (show bl gc=none by assumption)
        refine Dq 16 true ?_
        simp[F]
        refine Dq 17 true ?_
        simp[F]
        refine Dd ?_
        rw[aF]
        exact leaf _ _ ga gb gc hga hgb hgc (by simp[F]) rfl (by simp[S]) (by intro x y hx;simp only[B,aA] at hx ⊢;grind)
    ·simp[F]
     refine⟨by omega,by unfold maxLen;omega,?_⟩
     intro gc hgc
     intros
     have F:=an (ad (ad (ad F (show ¬gc=gr by assumption)) (show ¬gc=gp by assumption)) (show ¬gc=ga by assumption)) (show bl gc=none by assumption)
     refine Dw 8 13 true true ?_ ?_
     ·simp[F]
      refine⟨by omega,by unfold maxLen;omega,?_⟩
      intro gb hgb
      intros
      have F:=an (ad (ad (ad (ad F (show ¬gb=gr by assumption)) (show ¬gb=gp by assumption)) (show ¬gb=ga by assumption)) (show ¬gb=gc by assumption)) (show bl gb=none by assumption)
      refine Dq 13 true ?_
      simp[F]
      refine Dq 14 true ?_
      simp[F]
      refine Dq 15 true ?_
      simp[F]
      refine Dq 16 true ?_
      simp[F]
      refine Dq 17 true ?_
      simp[F]
      refine Dd ?_
      rw[aF]
      exact leaf _ _ ga gb gc hga hgb hgc (by simp[F]) rfl (by simp[S]) (by intro x y hx;simp only[B,aA] at hx ⊢;grind)
     ·simp[F]
      refine Dq 8 true ?_
      simp[F]
      refine⟨by omega,by unfold maxLen;omega,?_⟩
      intro gb hgb
      intros
      have F:=an (ad (ad (ad (ad F (show ¬gb=gr by assumption)) (show ¬gb=gp by assumption)) (show ¬gb=ga by assumption)) (show ¬gb=gc by assumption)) (show bl gb=none by assumption)
      refine Dq 14 true ?_
      simp[F]
      refine Dq 15 true ?_
      simp[F]
      refine Dq 16 true ?_
      simp[F]
      refine Dq 17 true ?_
      simp[F]
      refine Dd ?_
      rw[aF]
      exact leaf _ _ ga gb gc hga hgb hgc (by simp[F]) rfl (by simp[S]) (by intro x y hx;simp only[B,aA] at hx ⊢;grind)
    ·simp[F]
     refine Dw 8 11 true true ?_ ?_
     ·simp[F]
      refine⟨by omega,by unfold maxLen;omega,?_⟩
      intro gb hgb
      intros
      have F:=an (ad (ad (ad F (show ¬gb=gr by assumption)) (show ¬gb=gp by assumption)) (show ¬gb=ga by assumption)) (show bl gb=none by assumption)
      refine Dw 11 14 true true ?_ ?_
      ·simp[F]
       refine⟨by omega,by unfold maxLen;omega,?_⟩
       intro gc hgc
       intros
       have F:=an (ad (ad (ad (ad F (show ¬gc=gr by assumption)) (show ¬gc=gp by assumption)) (show ¬gc=ga by assumption)) (show ¬gc=gb by assumption)) (show bl gc=none by assumption)
       refine Dq 14 true ?_
       simp[F]
       refine Dq 15 true ?_
       simp[F]
       refine Dq 16 true ?_
       simp[F]
       refine Dq 17 true ?_
       simp[F]
       refine Dd ?_
       rw[aF]
       exact leaf _ _ ga gb gc hga hgb hgc (by simp[F]) rfl (by simp[S]) (by intro x y hx;simp only[B,aA] at hx ⊢;grind)
      ·simp[F]
       refine Dw 11 15 true true ?_ ?_
       ·simp[F]
        refine⟨by omega,by unfold maxLen;omega,?_⟩
        intro gc hgc
        intros
        have F:=an (ad (ad (ad (ad F (show ¬gc=gr by assumption)) (show ¬gc=gp by assumption)) (show ¬gc=ga by assumption)) (show ¬gc=gb by assumption)) (show bl gc=none by assumption)
        refine Dq 15 true ?_
        simp[F]
        refine Dq 16 true ?_
        simp[F]
        refine Dq 17 true ?_
        simp[F]
        refine Dd ?_
        rw[aF]
        exact leaf _ _ ga gb gc hga hgb hgc (by simp[F]) rfl (by simp[S]) (by intro x y hx;simp only[B,aA] at hx ⊢;grind)
       ·simp[F]
        refine Dq 11 true ?_
        simp[F]
        refine⟨by omega,by unfold maxLen;omega,?_⟩
        intro gc hgc
        intros
        have F:=an (ad (ad (ad (ad F (show ¬gc=gr by assumption)) (show ¬gc=gp by assumption)) (show ¬gc=ga by assumption)) (show ¬gc=gb by assumption)) (show bl gc=none by assumption)
        refine Dq 16 true ?_
        simp[F]
        refine Dq 17 true ?_
        simp[F]
        refine Dd ?_
        rw[aF]
        exact leaf _ _ ga gb gc hga hgb hgc (by simp[F]) rfl (by simp[S]) (by intro x y hx;simp only[B,aA] at hx ⊢;grind)
     ·simp[F]
      refine⟨by omega,by unfold maxLen;omega,?_⟩
      intro gc hgc
      intros
      have F:=an (ad (ad (ad F (show ¬gc=gr by assumption)) (show ¬gc=gp by assumption)) (show ¬gc=ga by assumption)) (show bl gc=none by assumption)
      refine Dq 8 true ?_
      simp[F]
      refine⟨by omega,by unfold maxLen;omega,?_⟩
      intro gb hgb
      intros
      have F:=an (ad (ad (ad (ad F (show ¬gb=gr by assumption)) (show ¬gb=gp by assumption)) (show ¬gb=ga by assumption)) (show ¬gb=gc by assumption)) (show bl gb=none by assumption)
      refine Dq 14 true ?_
      simp[F]
      refine Dq 15 true ?_
      simp[F]
      refine Dq 16 true ?_
      simp[F]
      refine Dq 17 true ?_
      simp[F]
      refine Dd ?_
      rw[aF]
      exact leaf _ _ ga gb gc hga hgb hgc (by simp[F]) rfl (by simp[S]) (by intro x y hx;simp only[B,aA] at hx ⊢;grind)
  ·simp[F]
   refine⟨by omega,by unfold maxLen;omega,?_⟩
   intro gb hgb
   intros
   have F:=an (ad (ad F (show ¬gb=gr by assumption)) (show ¬gb=gp by assumption)) (show bl gb=none by assumption)
   refine⟨by simp[F],?_⟩
   refine Dw 5 11 false false ?_ ?_
   ·simp[F]
    refine⟨by omega,by unfold maxLen;omega,?_⟩
    intro ga hga
    intros
    have F:=an (ad (ad (ad F (show ¬ga=gr by assumption)) (show ¬ga=gp by assumption)) (show ¬ga=gb by assumption)) (show bl ga=none by assumption)
    refine⟨by simp[F],?_⟩
    refine Dw 11 12 false true ?_ ?_
    ·simp[F]
     refine⟨by omega,by unfold maxLen;omega,?_⟩
     intro gc hgc
     intros
     have F:=an (ad (ad (ad (ad F (show ¬gc=gr by assumption)) (show ¬gc=gp by assumption)) (show ¬gc=gb by assumption)) (show ¬gc=ga by assumption)) (show bl gc=none by assumption)
     refine⟨by simp[F],?_⟩
     refine Dq 12 true ?_
     simp[F]
     refine Dq 13 true ?_
     simp[F]
     refine Dq 14 true ?_
     simp[F]
     refine Dq 15 true ?_
     simp[F]
     refine Dq 16 true ?_
     simp[F]
     refine Dq 17 true ?_
     simp[F]
     refine Dd ?_
     rw[aF]
     exact leaf _ _ ga gb gc hga hgb hgc (by simp[F]) rfl (by simp[S]) (by intro x y hx;simp only[B,aA] at hx ⊢;grind)
    ·simp[F]
     refine Dw 11 13 true true ?_ ?_
     ·simp[F]
      refine⟨by omega,by unfold maxLen;omega,?_⟩
      intro gc hgc
      intros
      have F:=an (ad (ad (ad (ad F (show ¬gc=gr by assumption)) (show ¬gc=gp by assumption)) (show ¬gc=gb by assumption)) (show ¬gc=ga by assumption)) (show bl gc=none by assumption)
      refine Dq 13 true ?_
      simp[F]
      refine Dq 14 true ?_
      simp[F]
      refine Dq 15 true ?_
      simp[F]
      refine Dq 16 true ?_
      simp[F]
      refine Dq 17 true ?_
      simp[F]
      refine Dd ?_
      rw[aF]
      exact leaf _ _ ga gb gc hga hgb hgc (by simp[F]) rfl (by simp[S]) (by intro x y hx;simp only[B,aA] at hx ⊢;grind)
     ·simp[F]
      refine Dw 11 14 true true ?_ ?_
      ·simp[F]
       refine⟨by omega,by unfold maxLen;omega,?_⟩
       intro gc hgc
       intros
       have F:=an (ad (ad (ad (ad F (show ¬gc=gr by assumption)) (show ¬gc=gp by assumption)) (show ¬gc=gb by assumption)) (show ¬gc=ga by assumption)) (show bl gc=none by assumption)
       refine Dq 14 true ?_
       simp[F]
       refine Dq 15 true ?_
       simp[F]
       refine Dq 16 true ?_
       simp[F]
       refine Dq 17 true ?_
       simp[F]
       refine Dd ?_
       rw[aF]
       exact leaf _ _ ga gb gc hga hgb hgc (by simp[F]) rfl (by simp[S]) (by intro x y hx;simp only[B,aA] at hx ⊢;grind)
      ·simp[F]
       refine Dw 11 15 true true ?_ ?_
       ·simp[F]
        refine⟨by omega,by unfold maxLen;omega,?_⟩
        intro gc hgc
        intros
        have F:=an (ad (ad (ad (ad F (show ¬gc=gr by assumption)) (show ¬gc=gp by assumption)) (show ¬gc=gb by assumption)) (show ¬gc=ga by assumption)) (show bl gc=none by assumption)
        refine Dq 15 true ?_
        simp[F]
        refine Dq 16 true ?_
        simp[F]
        refine Dq 17 true ?_
        simp[F]
        refine Dd ?_
        rw[aF]
        exact leaf _ _ ga gb gc hga hgb hgc (by simp[F]) rfl (by simp[S]) (by intro x y hx;simp only[B,aA] at hx ⊢;grind)
       ·simp[F]
        refine Dq 11 true ?_
        simp[F]
        refine⟨by omega,by unfold maxLen;omega,?_⟩
        intro gc hgc
        intros
        have F:=an (ad (ad (ad (ad F (show ¬gc=gr by assumption)) (show ¬gc=gp by assumption)) (show ¬gc=gb by assumption)) (show ¬gc=ga by assumption)) (show bl gc=none by assumption)
        refine Dq 16 true ?_
        simp[F]
        refine Dq 17 true ?_
        simp[F]
        refine Dd ?_
        rw[aF]
        exact leaf _ _ ga gb gc hga hgb hgc (by simp[F]) rfl (by simp[S]) (by intro x y hx;simp only[B,aA] at hx ⊢;grind)
   ·simp[F]
    refine⟨by omega,by unfold maxLen;omega,?_⟩
    intro gc hgc
    intros
    have F:=an (ad (ad (ad F (show ¬gc=gr by assumption)) (show ¬gc=gp by assumption)) (show ¬gc=gb by assumption)) (show bl gc=none by assumption)
    refine⟨by simp[F],?_⟩
    refine Dq 5 false ?_
    simp[F]
    refine⟨by omega,by unfold maxLen;omega,?_⟩
    intro ga hga
    intros
    have F:=an (ad (ad (ad (ad F (show ¬ga=gr by assumption)) (show ¬ga=gp by assumption)) (show ¬ga=gb by assumption)) (show ¬ga=gc by assumption)) (show bl ga=none by assumption)
    refine⟨by simp[F],?_⟩
    refine Dq 12 true ?_
    simp[F]
    refine Dq 13 true ?_
    simp[F]
    refine Dq 14 true ?_
    simp[F]
    refine Dq 15 true ?_
    simp[F]
    refine Dq 16 true ?_
    simp[F]
    refine Dq 17 true ?_
    simp[F]
    refine Dd ?_
    rw[aF]
    exact leaf _ _ ga gb gc hga hgb hgc (by simp[F]) rfl (by simp[S]) (by intro x y hx;simp only[B,aA] at hx ⊢;grind)
  ·simp[F]
   refine⟨by omega,by unfold maxLen;omega,?_⟩
   intro gc hgc
   intros
   have F:=an (ad (ad F (show ¬gc=gr by assumption)) (show ¬gc=gp by assumption)) (show bl gc=none by assumption)
   refine⟨by simp[F],?_⟩
   refine Dw 5 8 false false ?_ ?_
   ·simp[F]
    refine⟨by omega,by unfold maxLen;omega,?_⟩
    intro ga hga
    intros
    have F:=an (ad (ad (ad F (show ¬ga=gr by assumption)) (show ¬ga=gp by assumption)) (show ¬ga=gc by assumption)) (show bl ga=none by assumption)
    refine⟨by simp[F],?_⟩
    refine Dw 8 12 false true ?_ ?_
    ·simp[F]
     refine⟨by omega,by unfold maxLen;omega,?_⟩
     intro gb hgb
     intros
     have F:=an (ad (ad (ad (ad F (show ¬gb=gr by assumption)) (show ¬gb=gp by assumption)) (show ¬gb=gc by assumption)) (show ¬gb=ga by assumption)) (show bl gb=none by assumption)
     refine⟨by simp[F],?_⟩
     refine Dq 12 true ?_
     simp[F]
     refine Dq 13 true ?_
     simp[F]
     refine Dq 14 true ?_
     simp[F]
     refine Dq 15 true ?_
     simp[F]
     refine Dq 16 true ?_
     simp[F]
     refine Dq 17 true ?_
     simp[F]
     refine Dd ?_
     rw[aF]
     exact leaf _ _ ga gb gc hga hgb hgc (by simp[F]) rfl (by simp[S]) (by intro x y hx;simp only[B,aA] at hx ⊢;grind)
    ·simp[F]
     refine Dw 8 13 true true ?_ ?_
     ·simp[F]
      refine⟨by omega,by unfold maxLen;omega,?_⟩
      intro gb hgb
      intros
      have F:=an (ad (ad (ad (ad F (show ¬gb=gr by assumption)) (show ¬gb=gp by assumption)) (show ¬gb=gc by assumption)) (show ¬gb=ga by assumption)) (show bl gb=none by assumption)
      refine Dq 13 true ?_
      simp[F]
      refine Dq 14 true ?_
      simp[F]
      refine Dq 15 true ?_
      simp[F]
      refine Dq 16 true ?_
      simp[F]
      refine Dq 17 true ?_
      simp[F]
      refine Dd ?_
      rw[aF]
      exact leaf _ _ ga gb gc hga hgb hgc (by simp[F]) rfl (by simp[S]) (by intro x y hx;simp only[B,aA] at hx ⊢;grind)
     ·simp[F]
      refine Dq 8 true ?_
      simp[F]
      refine⟨by omega,by unfold maxLen;omega,?_⟩
      intro gb hgb
      intros
      have F:=an (ad (ad (ad (ad F (show ¬gb=gr by assumption)) (show ¬gb=gp by assumption)) (show ¬gb=gc by assumption)) (show ¬gb=ga by assumption)) (show bl gb=none by assumption)
      refine Dq 14 true ?_
      simp[F]
      refine Dq 15 true ?_
      simp[F]
      refine Dq 16 true ?_
      simp[F]
      refine Dq 17 true ?_
      simp[F]
      refine Dd ?_
      rw[aF]
      exact leaf _ _ ga gb gc hga hgb hgc (by simp[F]) rfl (by simp[S]) (by intro x y hx;simp only[B,aA] at hx ⊢;grind)
   ·simp[F]
    refine⟨by omega,by unfold maxLen;omega,?_⟩
    intro gb hgb
    intros
    have F:=an (ad (ad (ad F (show ¬gb=gr by assumption)) (show ¬gb=gp by assumption)) (show ¬gb=gc by assumption)) (show bl gb=none by assumption)
    refine⟨by simp[F],?_⟩
    refine Dq 5 false ?_
    simp[F]
    refine⟨by omega,by unfold maxLen;omega,?_⟩
    intro ga hga
    intros
    have F:=an (ad (ad (ad (ad F (show ¬ga=gr by assumption)) (show ¬ga=gp by assumption)) (show ¬ga=gc by assumption)) (show ¬ga=gb by assumption)) (show bl ga=none by assumption)
    refine⟨by simp[F],?_⟩
    refine Dq 12 true ?_
    simp[F]
    refine Dq 13 true ?_
    simp[F]
    refine Dq 14 true ?_
    simp[F]
    refine Dq 15 true ?_
    simp[F]
    refine Dq 16 true ?_
    simp[F]
    refine Dq 17 true ?_
    simp[F]
    refine Dd ?_
    rw[aF]
    exact leaf _ _ ga gb gc hga hgb hgc (by simp[F]) rfl (by simp[S]) (by intro x y hx;simp only[B,aA] at hx ⊢;grind)
 rintro⟨ga,gb,gc⟩ ⟨a0,b0,c0,ba,ca,cb,ar,ap,br,bp,cr,cp,fa,fb,fc⟩
 simp only at a0 b0 c0 ba ca cb ar ap br bp cr cp fa fb fc
 simp only[S,B]
 clear leaf S B
 obtain⟨BB,hBB⟩: ∃BB:List (List V)→List (List V)→Int→Option Blk,BB=fun ea eb=>upd (upd (upd (upd (upd bl gr (some ⟨5,[[.int .i64 0,.int .i64 0,.nils,.nils,.nils]]⟩)) gp (some ⟨5,[[.int .i64 (nR s),.int .i64 (nC s),.lsl ga 1 0 nA,.lsl gb 1 0 (nR s),.lsl gc 1 0 (nC s)]]⟩)) ga (some ⟨1,ea⟩)) gb (some ⟨1,eb⟩)) gc (some ⟨1,List.replicate (nC s) [.int .i64 0]⟩):=⟨_,rfl⟩
 have hBr: ∀ea eb,BB ea eb gr=some ⟨5,[[.int .i64 0,.int .i64 0,.nils,.nils,.nils]]⟩:=fun ea eb=>by rw[hBB];simp[hpr,Ne.symm hpr,ar,br,cr,Ne.symm ar,Ne.symm br,Ne.symm cr]
 have hBp: ∀ea eb,BB ea eb gp=some ⟨5,[[.int .i64 (nR s),.int .i64 (nC s),.lsl ga 1 0 nA,.lsl gb 1 0 (nR s),.lsl gc 1 0 (nC s)]]⟩:=fun ea eb=>by rw[hBB];simp[ap,bp,cp,Ne.symm ap,Ne.symm bp,Ne.symm cp]
 have hBa: ∀ea eb,BB ea eb ga=some ⟨1,ea⟩:=fun ea eb=>by rw[hBB];simp[ba,ca,Ne.symm ba,Ne.symm ca]
 have hBb: ∀ea eb,BB ea eb gb=some ⟨1,eb⟩:=fun ea eb=>by rw[hBB];simp[cb,Ne.symm cb]
 have hBc: ∀ea eb,BB ea eb gc=some ⟨1,List.replicate (nC s) [.int .i64 0]⟩:=fun ea eb=>by rw[hBB];simp
 have hBs: ∀ea eb,Sub bl (BB ea eb):=fun ea eb=>by rw[hBB];simp[hbr,hbp,fa,fb,fc]
 have aA7: ∀ea eb e,upd (BB ea eb) ga (some ⟨1,e⟩)=BB e eb:=fun ea eb e=>by
  rw[hBB];funext x;simp only[aA];grind
 have Za: ∀ea eb e,upd (BB ea eb) gb (some ⟨1,e⟩)=BB ea e:=fun ea eb e=>by
  rw[hBB];funext x;simp only[aA];grind
 have hB0:upd (upd (upd (upd (upd bl gr (some ⟨5,[[.int .i64 0,.int .i64 0,.nils,.nils,.nils]]⟩)) gp (some ⟨5,[[.int .i64 (nR s),.int .i64 (nC s),.lsl ga 1 0 nA,.lsl gb 1 0 (nR s),.lsl gc 1 0 (nC s)]]⟩)) ga (some ⟨1,List.replicate nA [.int .i64 0]⟩)) gb (some ⟨1,List.replicate (nR s) [.int .i64 0]⟩)) gc (some ⟨1,List.replicate (nC s) [.int .i64 0]⟩)=BB (part (iv (aTo s nA)) [.int .i64 0] 0) (part (iv (right s l)) [.int .i64 0] 0):=by
  rw[hBB];simp[eY]
 rw[hB0]
 clear hB0 hBB
 refine aC ?_
 simp[er]
 refine aP (fun i:Nat=> [(0,.ptr s.c),(1,.sl (iv l)),(8,.loc gr 5 0 0),(10,.sl (cv (aZ s.ms))),(11,.loc gp 5 0 0),(46,.sl (ivv (dK s))),(47,.int .i64 (nR s)),(48,.int .i64 i)]) (fun i=>BB (part (iv (aTo s nA)) [.int .i64 0] (i*nC s)) (part (iv (right s l)) [.int .i64 0] 0)) (fun i=>i≤nR s) (fun i=>nR s - i) 113 0 (Nat.zero_le _) ⟨rfl,by simp,sub_eq (by simp)⟩ ?_
 intro i hi
 refine aC ?_
 simp
 refine⟨fun h=> ?_,fun h=> ?_⟩
 ·have hie:i<(dK s).length:=by omega
  simp[hie]
  obtain⟨row,Kt⟩: ∃r,(dK s)[i]=r:=⟨_,rfl⟩
  have aNK:row.length=s.ms.length:=jC s row (Kt▸List.getElem_mem hie)
  rw[Kt]
  refine aP (fun c:Nat=> [(0,.ptr s.c),(1,.sl (iv l)),(8,.loc gr 5 0 0),(10,.sl (cv (aZ s.ms))),(11,.loc gp 5 0 0),(12,.int .i64 i),(13,.sl (iv row)),(46,.sl (ivv (dK s))),(47,.int .i64 (nR s)),(48,.int .i64 i),(53,.sl (cv (aZ s.ms))),(54,.int .i64 (nC s)),(55,.int .i64 c)]) (fun c=>BB (part (iv (aTo s nA)) [.int .i64 0] (i*nC s+c)) (part (iv (right s l)) [.int .i64 0] 0)) (fun c=>c≤nC s) (fun c=>nC s - c) 113 0 (Nat.zero_le _) ⟨rfl,by simp[ec],sub_eq (by simp)⟩ ?_
  intro c hc
  refine aC ?_
  simp
  refine⟨fun hcl=> ?_,fun hcl=> ?_⟩
  ·have hcc:c<(aZ s.ms).length:=hcl
   obtain⟨⟨k0,k1⟩,k2⟩:=lU s c hcl
   have qc:(cv (aZ s.ms))[c]? =some [.int .i64 (bQ s c).1,.int .i64 (bQ s c).2]:=by simp[cv,bQ,hcc]
   simp[qc]
   intro g1 hg1 hb1
   have n1p:g1≠gp:=fun e=>by rw[e,hBp] at hb1;cases hb1
   have n1a:g1≠ga:=fun e=>by rw[e,hBa] at hb1;cases hb1
   have f1:=dA (hBs _ _) hb1
   obtain⟨⟨k,sg⟩,hk⟩: ∃k,bQ s c=k:=⟨_,rfl⟩
   rw[hk] at k0 k1 k2 ⊢
   simp only at k0 k1 k2 ⊢
   have en:ent s i c=sg*lat row k.toNat:=by
    unfold ent
    rw[hk,pE,qR _ (jC s) i k.toNat hie (by omega),Kt]
   have bd: -100≤lat row k.toNat∧lat row k.toNat≤100:=by
    rw[←Kt,←qR _ (jC s) i k.toNat hie (by omega),←pE];exact L3 hs _
   have qr:(iv row)[k.toNat]? =some [.int .i64 (lat row k.toNat)]:=tG (by omega)
   have w6:IntKind.i64.wrap (sg*lat row k.toNat)=ent s i c:=by
    rw[en];rcases k2 with rfl | rfl<;>exact i64_in (by omega) (by omega)
   have mc:(i+1)*nC s≤nA:=by rw[hA];exact Nat.mul_le_mul_right _ h
   rw[Nat.add_mul] at mc
   have mi:((i*nC s:Nat):Int)=(i:Int)*nC s:=by simp
   have w4:IntKind.i64.wrap ((i:Int)*nC s)=(i:Int)*nC s:=i64_in (by omega) (by omega)
   have w5:IntKind.i64.wrap ((i:Int)*nC s+c)=(i:Int)*nC s+c:=i64_in (by omega) (by omega)
   have w7:IntKind.i64.wrap ((c:Int)+1)=c+1:=i64_in (by omega) (by omega)
   have e1:((i:Int)*nC s+c).toNat=i*nC s+c:=by omega
   have p1:0≤(i:Int)*nC s+c:=by omega
   have p2:(i:Int)*nC s+c<nA:=by omega
   have p3:k<row.length:=by omega
   have hlt:i*nC s+c<(iv (aTo s nA)).length:=by simp;omega
   have ps:=cJ (iv (aTo s nA)) [.int .i64 0] (i*nC s+c) hlt [.int .i64 (ent s i c)] (by
    rw[Qd s nA _ (by omega),Nat.mul_comm i,Nat.mul_add_div (by omega),Nat.mul_add_mod,Nat.div_eq_of_lt hcl,Nat.mod_eq_of_lt hcl,Nat.add_zero])
   have hK:Sub (upd (upd bl gp (some ⟨5,[[.int .i64 (nR s),.int .i64 (nC s),.lsl ga 1 0 nA,.lsl gb 1 0 (nR s),.lsl gc 1 0 (nC s)]]⟩)) g1 (some ⟨2,[[.int .i64 k,.int .i64 sg]]⟩)) (upd (BB (part (iv (aTo s nA)) [.int .i64 0] (i*nC s+c)) (List.replicate (right s l).length [.int .i64 0])) g1 (some ⟨2,[[.int .i64 k,.int .i64 sg]]⟩)):=by
    refine L9 fun x y hx=> ?_
    rw[aA] at hx
    split at hx
    ·rename_i e;rw[e,hBp];exact hx
    ·exact hBs _ _ x y hx
   have hkr:k.toNat<row.length:=by omega
   have er2:row[k.toNat]'hkr=lat row k.toNat:=by simp[lat,hkr]
   refine bS aN _ hK [0,1,2,3,4,5,6,7,8,9,10,11,12,13,14,15,16] 1 (by kernel_rfl) ?_
   simp[-fR,n1p,Ne.symm n1p,w4,w5,w6,qr,k0,p1,p2,p3,er2]
   refine Dz 17 ?_
   have pg:=eR (iv (aTo s nA)) [.int .i64 0] (i*nC s+c) hlt
   simp[n1a,Ne.symm n1a,hBa,e1,pg,ps,er2,w6]
   have hK2: ∀z,Sub (upd (upd bl gp (some ⟨5,[[.int .i64 (nR s),.int .i64 (nC s),.lsl ga 1 0 nA,.lsl gb 1 0 (nR s),.lsl gc 1 0 (nC s)]]⟩)) g1 (some ⟨2,[[.int .i64 k,.int .i64 sg]]⟩)) (upd (upd (BB (part (iv (aTo s nA)) [.int .i64 0] (i*nC s+c)) (List.replicate (right s l).length [.int .i64 0])) g1 (some ⟨2,[[.int .i64 k,.int .i64 sg]]⟩)) ga z):=by
    intro z x y hx
    have hxa:x≠ga:=fun e=>by
     rw[e,aA,if_neg (Ne.symm n1a),aA,if_neg ap,fa] at hx;cases hx
    rw[aA,if_neg hxa]
    exact hK x y hx
   refine⟨hK2 _,Dy ?_⟩
   simp[w7,aB]
   refine⟨c+1,by omega,by omega,rfl,by simp,?_⟩
   intro x y hx
   show upd (upd (BB _ _) g1 _) ga _ x=some y
   rw[aA,aA]
   split
   ·rename_i e;rw[e,hBa] at hx;exact hx
   ·rename_i e
    rw[if_neg (fun e=>by rw[e] at hx;rw[←aA7 (part (iv (aTo s nA)) [.int .i64 0] (i*nC s+c)),aA,if_neg n1a,hb1] at hx;cases hx)]
    rw[←aA7 (part (iv (aTo s nA)) [.int .i64 0] (i*nC s+c)),aA,if_neg e] at hx
    exact hx
  ·have:c=nC s:=by omega
   subst this
   have w7:IntKind.i64.wrap ((i:Int)+1)=i+1:=i64_in (by omega) (by omega)
   simp[w7,aB]
   exact⟨i+1,by omega,by omega,rfl,by simp,sub_eq (by rw[Nat.add_mul,Nat.one_mul])⟩
 ·have:i=nR s:=by omega
  subst this
  rw[←hA,gD _ _ _ (by simp)]
  refine aD (oO s (by omega)) ?_
  simp
  refine aP (fun i:Nat=> [(1,.sl (iv l)),(8,.loc gr 5 0 0),(11,.loc gp 5 0 0),(80,.sl (iv (aI s.js))),(81,.int .i64 (aI s.js).length),(82,.int .i64 i)]) (fun i=>BB (iv (aTo s nA)) (part (iv (right s l)) [.int .i64 0] (2*i))) (fun i=>i≤(aI s.js).length) (fun i=>(aI s.js).length - i) 113 0 (Nat.zero_le _) ⟨rfl,by simp,sub_eq (by simp)⟩ ?_
  intro i hi
  refine aC ?_
  simp
  refine⟨fun h=> ?_,fun h=> ?_⟩
  ·obtain⟨r1,r2⟩:=K0 (List.getElem_mem h)
   have ra:=vO s l (aI s.js) i h
   simp[h]
   obtain⟨j,hj⟩: ∃j,(aI s.js)[i]=j:=⟨_,rfl⟩
   rw[hj] at r1 r2 ra ⊢
   change lat (right s l) (2*i)=_∧lat (right s l) (2*i+1)=_ at ra
   have a1:(2*j).toNat<l.length:=by rw[hL.n];omega
   have a2:(2*j+1).toNat<l.length:=by rw[hL.n];omega
   have b1:=hL.f _ a1
   have b2:=hL.f _ a2
   have q1:=tG a1
   have q2:=tG a2
   have w1:IntKind.i64.wrap (2*j)=2*j:=i64_in (by omega) (by omega)
   have w2:IntKind.i64.wrap (2*j+1)=2*j+1:=i64_in (by omega) (by omega)
   have w3:IntKind.i64.wrap (-lat l (2*j).toNat)=lat (right s l) (2*i):=by rw[ra.1];exact i64_in (by omega) (by omega)
   have w4:IntKind.i64.wrap (-lat l (2*j+1).toNat)=lat (right s l) (2*i+1):=by rw[ra.2];exact i64_in (by omega) (by omega)
   have w5:IntKind.i64.wrap ((i:Int)+1)=i+1:=i64_in (by omega) (by omega)
   have w6:IntKind.i64.wrap (2*(i:Int))=2*i:=i64_in (by omega) (by omega)
   have w7:IntKind.i64.wrap (2*(i:Int)+1)=2*i+1:=i64_in (by omega) (by omega)
   have p1:0≤2*j:=by omega
   have p2:0≤2*j+1:=by omega
   have p3:2*(i:Int)<nR s:=by unfold nR;omega
   have p4:2*(i:Int)+1<nR s:=by unfold nR;omega
   have t1:(2*(i:Int)).toNat=2*i:=by omega
   have t2:(2*(i:Int)+1).toNat=2*i+1:=by omega
   have hl1:2*i<(iv (right s l)).length:=by rw[gS,eY];omega
   have hl2:2*i+1<(iv (right s l)).length:=by rw[gS,eY];omega
   have hK:Sub (upd bl gp (some ⟨5,[[.int .i64 (nR s),.int .i64 (nC s),.lsl ga 1 0 nA,.lsl gb 1 0 (nR s),.lsl gc 1 0 (nC s)]]⟩)) (BB (iv (aTo s nA)) (part (iv (right s l)) [.int .i64 0] (2*i))):=by
    intro x y hx
    rw[aA] at hx
    split at hx
    ·rename_i e;rw[e,hBp];exact hx
    ·exact hBs _ _ x y hx
   have hK2: ∀e,Sub (upd bl gp (some ⟨5,[[.int .i64 (nR s),.int .i64 (nC s),.lsl ga 1 0 nA,.lsl gb 1 0 (nR s),.lsl gc 1 0 (nC s)]]⟩)) (BB (iv (aTo s nA)) e):=by
    intro e x y hx
    rw[aA] at hx
    split at hx
    ·rename_i e;rw[e,hBp];exact hx
    ·exact hBs _ _ x y hx
   have g1:=eR (iv (right s l)) [.int .i64 0] (2*i) hl1
   have g2:=eR (iv (right s l)) [.int .i64 0] (2*i+1) hl2
   have s1:=cJ (iv (right s l)) [.int .i64 0] (2*i) hl1 [.int .i64 (lat (right s l) (2*i))] (by
    have:=tG (l:=right s l) (i:=2*i) (by simpa using hl1);rw[List.getElem?_eq_getElem hl1] at this;exact(Option.some.inj this).symm)
   have s2:=cJ (iv (right s l)) [.int .i64 0] (2*i+1) hl2 [.int .i64 (lat (right s l) (2*i+1))] (by
    have:=tG (l:=right s l) (i:=2*i+1) (by simpa using hl2);rw[List.getElem?_eq_getElem hl2] at this;exact(Option.some.inj this).symm)
   refine bS aN _ hK [0,1,2,3,4,5,6,7,8,9,10,11,12,13,14,15,16,17,18,19,20,21,22] 3 (by kernel_rfl) ?_
   have p5:0≤2*(i:Int):=by omega
   have p6:0≤2*(i:Int)+1:=by omega
   simp[-fR,w1,w2,w3,w4,w6,w7,q1,q2,p1,p2,p3,p4,p5,p6]
   refine qI (i:=23) (by kernel_rfl) (by rfl) (by rfl) ?_
   simp[hBb,t1,g1,s1,Za]
   refine⟨hK2 _,qI (i:=24) (by kernel_rfl) (by rfl) (by rfl) ?_⟩
   simp[p4,p6]
   refine⟨hK2 _,qI (i:=25) (by kernel_rfl) (by rfl) (by rfl) ?_⟩
   simp[hBb,t2,g2,s2,Za]
   refine⟨hK2 _,Dy ?_⟩
   simp[w5,aB]
   exact⟨i+1,by omega,by omega,rfl,by simp,sub_eq (by rw[Nat.mul_add])⟩
  ·have:i=(aI s.js).length:=by omega
   subst this
   have dI:part (iv (right s l)) [.int .i64 0] (2*(aI s.js).length)=iv (right s l):=by
    have e:(iv (right s l)).length=2*(aI s.js).length:=by rw[gS,eY];rfl
    rw[←e];exact gD _ _ _ (Nat.le_refl _)
   rw[dI]
   simp[hBp,hBr]
   refine fA [.agg [.int .i64 (nR s),.int .i64 (nC s),.lsl ga 1 0 nA,.lsl gb 1 0 (nR s),.lsl gc 1 0 (nC s)]] [ga,gb,gc] (by simp) ?_ (by simp[fa,fb,fc]) ?_
   ·show OwnD _ (.a _) (.agg _) _
    rw[OwnD]
    refine⟨_,rfl,jL (U7 _) (jL (U7 _) (jL (g1:= [ga]) (jU.2 (.inr ⟨ga,by simp[cH,hA],rfl,?_,by omega⟩)) (jL (g1:= [gb]) (jU.2 (.inr ⟨gb,by simp[cH,eY],rfl,?_,by omega⟩)) (jL (g1:= [gc]) (jU.2 (.inr ⟨gc,by simp[cH],rfl,?_,by omega⟩)) Lk (by simp)) (by simp[Ne.symm cb])) (by simp[Ne.symm ba,Ne.symm ca])) (by simp)) (by simp)⟩
    ·simp[ar,hBa,cH,hA]
    ·simp[br,hBb,cH]
    ·simp[cr,hBc,cH,iv]
   ·intro x y hx
    have hxr:x≠gr:=fun e=>by rw[e,hbr] at hx;cases hx
    simp[hxr]
    exact hBs _ _ x y hx

end Go.Proofs.YticmgmemnpcbbaaGreat.Vm

namespace Go.Proofs.YticmgmemnpcbbaaGreat.Vm
open Go Go.Proofs
set_option linter.unusedSimpArgs false
set_option linter.unusedVariables false
def aIR (row:List Int):List (Option Rat):=row.map fun(n:Int)=>some (n:Rat)
def aLE (rows:List (List Int)):List (List (Option Rat)):=rows.map aIR
def Ox (l:List Int):List RT:=l.map fun(n:Int)=>ro (some (n:Rat))
def small (rows:List (List Int)):Prop:= ∀w,w∈rows→ ∀n,n∈w→ -100≤n∧n≤100
def aMK (s:Str):MX:=if sOk s=true then⟨(dK s).length,s.ms.length,Ox (mP s)⟩ else⟨0,0,[]⟩

def r6 (n:Int):Rat:=mkRat n 6
def q6 (n:Int):Option Rat:=some (r6 n)
def dotTo (a u:List Int):Nat→Int
 | 0 => 0
 | n + 1 => dotTo a u n + lN a n * lN u n
def aAA (a b:List (Option Rat)):Nat→Option Rat
 | 0 => some 0
 | n + 1 => op2 (· + ·) (aAA a b n) (op2 (· * ·) (a.getD n none) (b.getD n none))

def aKP :Pg:=⟨0,0,[],[],[]⟩
def aL6 (s:Str) (l:List Int):Pg:=if lOk s l=true then cH s l else aKP
def aL4 (p q:Pg):Bool:=decide (p.rows=q.rows)&& (decide (p.aZ=q.aZ)&& (decide (p.a=q.a)&& (decide (p.b=q.b)&& decide (p.c=q.c))))
def mkP (k:Nat) (p:Pg):Pg:=⟨p.rows,p.aZ,marks k p.a.length,marks (k+p.a.length:Nat) p.b.length,marks (k+p.a.length+p.b.length:Nat) p.c.length⟩
def aL5 (k:Nat) (p:Pg):Nat:=k+p.a.length+p.b.length+p.c.length

theorem Lg (p:Pg):(dPg p).dep 2:=by simp[dPg,D.dep,D.depL,mN]
theorem Pb (p:Pg):(dPg p).fz= .agg p.v:=by simp[dPg,D.fz,D.fzL,Pg.v]

def bv (bs:List Int):List (List V):=bs.map fun b=> [.int .u8 b]
@[simp] theorem Xl (bs : List Int) : (bv bs).length = bs.length := by simp [bv]
theorem Ty (bs:List Int) (i:Nat) (h:i<bs.length):(bv bs)[i]? =some [.int .u8 bs[i]]:=by simp[bv,h]
@[simp] theorem aHF (bs : List Int) (i : Nat) (h : i < (bv bs).length) : (bv bs)[i] = [.int .u8 (bs[i]'(by simpa using h))] := by simp [bv]
def cur (bs:List Int) (i h:Int):Blk:=⟨3,[[.sl (bv bs),.int .i64 i,.int .i64 h]]⟩
def lo8 (a:Int):Int:=IntKind.i64.wrap ((BitVec.ofInt 64 a &&& BitVec.ofInt 64 255).toNat)
theorem Ev (a:Int):0≤lo8 a∧lo8 a≤255:=by
 have h:(BitVec.ofInt 64 a &&& BitVec.ofInt 64 255).toNat≤255:=by
  rw[BitVec.toNat_and]
  exact Nat.le_trans Nat.and_le_right (by decide)
 unfold lo8
 rw[i64_in (by omega) (by omega)]
 omega
@[simp high] theorem L1 (P : Program) (t : TypeId) (a : Int) : binV P .and t (.int .i64 a) (.int .i64 255) = some (.int .i64 (lo8 a)) := rfl
def Aq (a:Int) (n:Nat):Int:=a.fdiv (2^n)
def Pm (a b:Int):Int:=IntKind.i64.wrap ((BitVec.ofInt 64 a^^^BitVec.ofInt 64 b).toNat)
@[simp high] theorem Kl (P : Program) (t : TypeId) (a : Int) : binV P .shr t (.int .i64 a) (.int .u64 33) = some (.int .i64 (Aq a 33)) := rfl
@[simp high] theorem Me (P : Program) (t : TypeId) (a : Int) : binV P .shr t (.int .i64 a) (.int .u64 45) = some (.int .i64 (Aq a 45)) := rfl
@[simp high] theorem Bi (P : Program) (t : TypeId) (a b : Int) : binV P .xor t (.int .i64 a) (.int .i64 b) = some (.int .i64 (Pm a b)) := rfl
structure gQ (bs : List Int) (i : Int) : Prop where
 n:bs.length≤1048576
 b: ∀x,x∈bs→0≤x∧x<256
 i0:0≤i
 i1:i≤bs.length
theorem N4 {bl:Int→Option Blk} {K:V→(Int→Option Blk)→Prop} (bs:List Int) (i h g:Int) (hc:gQ bs i) (hb:bl g=some (cur bs i h))
  (hK: ∀(x i' h':Int),0≤x∧x≤255→gQ bs i'→K (.int .i64 x) (upd bl g (some (cur bs i' h')))):bN Tryz.prog 169 [.loc g 3 0 0] bl K:=by
 obtain⟨hn,hbs,h0,h1⟩:=hc
 obtain⟨k,rfl⟩: ∃k:Nat,i=k:=⟨i.toNat,by omega⟩
 refine bD Tryz.func169 rfl rfl (by rw[Tryz.ntmps169];simp) ?_
 rw[Tryz.ntmps169,Tryz.results169]
 refine aC ?_
 simp[hb,cur]
 generalize IntKind.i64.wrap (IntKind.i64.wrap (h*6364136223846793005)+1442695040888963407)=h2
 refine bI aN (by kernel_rfl) ?_
 simp[-binV, -intV,L1,Kl,Me,Bi]
 obtain⟨x0,hx0⟩: ∃x,x=lo8 (Pm (Aq h2 33) (Aq h2 45)):=⟨_,rfl⟩
 have bx:=Ev (Pm (Aq h2 33) (Aq h2 45))
 rw[←hx0] at bx ⊢
 clear hx0
 refine bI aN (by kernel_rfl) ?_
 simp
 refine⟨fun hlt=> ?_,fun hlt=> ?_⟩
 ·have hk:k<bs.length:=by omega
  have q:=Ty bs k hk
  have w1:IntKind.i64.wrap ((k:Int)+1)=k+1:=i64_in (by omega) (by omega)
  refine bI aN (by kernel_rfl) ?_
  simp[hk,q,L1]
  rw[aW]
  refine⟨[_],by simp;rfl,?_⟩
  simp[w1]
  exact hK _ _ _ (Ev _) ⟨hn,hbs,by omega,by omega⟩
 ·rw[aW]
  refine⟨[_],by simp;rfl,?_⟩
  simp
  exact hK _ _ _ bx ⟨hn,hbs,h0,h1⟩
theorem aS {bl:Int→Option Blk} {K:V→(Int→Option Blk)→Prop} (bs:List Int) (i h g n:Int) (hn:1≤n∧n≤256) (hc:gQ bs i) (hb:bl g=some (cur bs i h))
  (hK: ∀(x i' h':Int),0≤x∧x<n→gQ bs i'→K (.int .i64 x) (upd bl g (some (cur bs i' h')))):bN Tryz.prog 171 [.loc g 3 0 0,.int .i64 n] bl K:=by
 refine bD Tryz.func171 rfl rfl (by rw[Tryz.ntmps171];simp) ?_
 rw[Tryz.ntmps171,Tryz.results171]
 refine aC ?_
 simp
 refine⟨fun h1=>by omega,fun h1=>⟨fun h2=> ?_,fun h2=>by omega⟩⟩
 refine N4 bs i h g hc hb fun x i' h' hx hc'=> ?_
 have hm:x.tmod n=x % n:=Int.tmod_eq_emod_of_nonneg hx.1
 have m1:=Int.emod_nonneg x (show n≠0 by omega)
 have m2:=Int.emod_lt_of_pos x (show 0<n by omega)
 have n0: ¬ n=0:=by omega
 simp[n0]
 rw[aW]
 refine⟨[_],by simp;rfl,?_⟩
 simp
 rw[hm]
 exact hK _ _ _ ⟨m1,m2⟩ hc'
theorem oW {bl:Int→Option Blk} {K:V→(Int→Option Blk)→Prop} (bs:List Int) (i h g n:Int) (hn:1≤n∧n≤256) (hc:gQ bs i) (hb:bl g=some (cur bs i h))
  (hK: ∀(x:Bool) (i' h':Int),gQ bs i'→K (.bool x) (upd bl g (some (cur bs i' h')))):bN Tryz.prog 179 [.loc g 3 0 0,.int .i64 n] bl K:=by
 refine bD Tryz.func179 rfl rfl (by rw[Tryz.ntmps179];simp) ?_
 rw[Tryz.ntmps179,Tryz.results179]
 refine aC ?_
 simp
 refine aS bs i h g n hn hc hb fun x i' h' hx hc'=> ?_
 simp
 rw[aW]
 refine⟨[_],by simp;rfl,?_⟩
 exact hK _ _ _ hc'
theorem pO {bl:Int→Option Blk} {K:V→(Int→Option Blk)→Prop} (bs:List Int) (i h g g2:Int) (xs:List Int) (hn:1≤xs.length∧xs.length≤256) (hc:gQ bs i) (hb:bl g=some (cur bs i h)) (h2:bl g2=some ⟨1,iv xs⟩) (hne:g2≠g) (h0:0≤g2)
  (hK: ∀(x i' h':Int),x∈xs→gQ bs i'→K (.int .i64 x) (upd bl g (some (cur bs i' h')))):bN Tryz.prog 172 [.loc g 3 0 0,.lsl g2 1 0 xs.length] bl K:=by
 refine bD Tryz.func172 rfl rfl (by rw[Tryz.ntmps172];simp) ?_
 rw[Tryz.ntmps172,Tryz.results172]
 refine aC ?_
 simp
 refine aS bs i h g xs.length (by omega) hc hb fun x i' h' hx hc'=> ?_
 obtain⟨m,rfl⟩: ∃m:Nat,x=m:=⟨x.toNat,by omega⟩
 have hm:m<xs.length:=by omega
 simp[hm,hne,h2]
 rw[aW]
 refine⟨[_],by simp;rfl,?_⟩
 exact hK _ _ _ (List.getElem_mem hm) hc'

def msk (a b:Int):Int:=IntKind.i64.wrap ((BitVec.ofInt 64 a &&& BitVec.ofInt 64 b).toNat)
theorem J9 (P:Program) (t:TypeId) (a b:Int):binV P .and t (.int .i64 a) (.int .i64 b)=some (.int .i64 (msk a b)):=rfl
theorem yO (P:Program) (t:TypeId) (a b:Int):binV P .add t (.int .i64 a) (.int .i64 b)=some (.int .i64 (IntKind.i64.wrap (a+b))):=rfl
theorem yQ (P:Program) (t:TypeId) (a b:Int):binV P .mul t (.int .i64 a) (.int .i64 b)=some (.int .i64 (IntKind.i64.wrap (a*b))):=rfl
theorem Br {bl:Int→Option Blk} {K:V→(Int→Option Blk)→Prop} (bs:List Int) (hn:bs.length≤1048576)
  (hK: ∀(g h:Int),0≤g→bl g=none→K (.loc g 3 0 0) (upd bl g (some (cur bs 0 h)))):bN Tryz.prog 70 [.sl (bv bs)] bl K:=by
 refine bD Tryz.func70 rfl rfl (by rw[Tryz.ntmps70];simp) ?_
 rw[Tryz.ntmps70,Tryz.results70]
 refine aC ?_
 simp
 refine aP (fun p:Nat×Int=> [(0,.sl (bv bs)),(3,.int .i64 p.2),(4,.int .i64 p.1)]) (fun _=>bl) (fun p=>p.1≤bs.length) (fun p=>bs.length - p.1) 32 (0,_) (Nat.zero_le _) ⟨rfl,by simp;rfl,Sub.refl _⟩ ?_
 rintro⟨i,h⟩ hi
 simp only at hi
 refine aC ?_
 simp
 refine aV [(0,.sl (bv bs)),(3,.int .i64 h),(4,.int .i64 i)] _ bl 15 (.bool (decide (i<bs.length)&& decide (i<4000))) ⟨rfl,by simp,Sub.refl _⟩ rfl ?_ ?_
 ·simp
  refine⟨fun h=>by rw[decide_eq_true h,Bool.true_and];exact decide_eq_decide.2 (by omega),fun h1 h2=>by omega⟩
 have w1:IntKind.i64.wrap ((i:Int)+1)=i+1:=i64_in (by omega) (by omega)
 simp[-binV, -intV,J9,yO,yQ]
 refine⟨fun h1 h2=> ?_,fun h1=> ?_⟩
 ·simp[-binV, -intV,J9,yO,yQ,h1,w1]
  rw[aB]
  exact⟨(i+1,msk (IntKind.i64.wrap (IntKind.i64.wrap (IntKind.i64.wrap (h*73)+IntKind.i64.wrap bs[i])+7)) 1073741823),by simp only;omega,by simp only;omega,rfl,by simp,Sub.refl _⟩
 ·intro g hg hb
  rw[aW]
  refine⟨[_],by simp;rfl,?_⟩
  exact hK g h hg hb

structure LD where
 k:Nat
 ns:List Int
 i:Int
 h:Int
theorem E7 (ns:List Int) (i:Nat) (x:Int):(iv ns).set i [.int .i64 x]=iv (ns.set i x):=by simp[iv,List.map_set]
theorem S5 {ns:List Int} {i:Nat} {x:Int} (h: ∀y,y∈ns→ -8≤y∧y≤8) (hx: -8≤x∧x≤8): ∀y,y∈ns.set i x→ -8≤y∧y≤8:=by
 intro y hy
 rcases List.mem_or_eq_of_mem_set hy with hy | rfl
 ·exact h y hy
 ·exact hx
theorem M6 {bl:Int→Option Blk} {K:V→(Int→Option Blk)→Prop} (bs:List Int) (i h g:Int) (s:Str) (hj:1≤s.js.length∧s.js.length≤6) (hc:gQ bs i) (hb:bl g=some (cur bs i h))
  (hK: ∀(g2:Int) (ns:List Int) (i' h':Int) bl',0≤g2→bl g2=none→ns.length=2*s.js.length→(∀x,x∈ns→ -8≤x∧x≤8)→gQ bs i'→bl' g=some (cur bs i' h')→bl' g2=some ⟨1,iv ns⟩→(∀x y,x≠g→bl x=some y→bl' x=some y)→K (.lsl g2 1 0 (2*s.js.length)) bl'):
  bN Tryz.prog 105 [.loc g 3 0 0,.agg s.c] bl K:=by
 refine bD Tryz.func105 rfl rfl (by rw[Tryz.ntmps105];simp) ?_
 rw[Tryz.ntmps105,Tryz.results105]
 refine aC ?_
 have w0:IntKind.i64.wrap (2*(s.js.length:Int))=2*s.js.length:=i64_in (by omega) (by omega)
 simp[Str.c,w0]
 intro gs aDM hgs
 refine⟨2*s.js.length,by simp,by simp,by omega,by unfold maxLen;omega,fun g2 hg2 h2=> ?_⟩
 have ngs:gs≠g:=fun e=>by rw[e,hb] at hgs;cases hgs
 simp at h2
 obtain⟨n2s,hb2⟩:=h2
 have n2g:g2≠g:=fun e=>by rw[e,hb] at hb2;cases hb2
 have er:List.replicate (2*s.js.length) [V.int IntKind.i64 0]=iv (List.replicate (2*s.js.length) 0):=by simp[iv]
 simp[n2s,Ne.symm n2s,er]
 refine aP (fun p:LD=> [(0,.loc g 3 0 0),(3,.loc gs 2 0 0),(5,.lsl g2 1 0 (2*s.js.length)),(14,.sl (jv s.js)),(15,.int .i64 s.js.length),(16,.int .i64 p.k)]) (fun p=>upd (upd (upd bl gs (some ⟨2,[[.sl (jv s.js),.sl (mv s.ms)]]⟩)) g2 (some ⟨1,iv p.ns⟩)) g (some (cur bs p.i p.h)))
  (fun p=>p.k≤s.js.length∧gQ bs p.i∧p.ns.length=2*s.js.length∧ ∀x,x∈p.ns→ -8≤x∧x≤8) (fun p=>s.js.length - p.k) 48 ⟨0,List.replicate (2*s.js.length) 0,i,h⟩ ⟨Nat.zero_le _,hc,by simp,fun x hx=>by simp at hx;omega⟩ ⟨rfl,by simp,fun x y hx=>by simp only[aA] at hx ⊢;grind⟩ ?_
 rintro⟨k,ns,i',h'⟩ ⟨hk,hc',hl,hr⟩
 simp only at hk hc' hl hr
 refine aC ?_
 simp
 refine⟨fun h1=> ?_,fun h1=> ?_⟩
 ·simp[h1,J.c]
  intro g7 hg7 h7g h72 h7s hb7
  refine⟨fun hf=> ?_,fun hf=> ?_⟩
  ·have w2:IntKind.i64.wrap (2*(k:Int))=2*k:=i64_in (by omega) (by omega)
   have w3:IntKind.i64.wrap (2*(k:Int)+1)=2*k+1:=i64_in (by omega) (by omega)
   have p1:0≤2*(k:Int):=by omega
   have p2:0≤2*(k:Int)+1:=by omega
   have p3:2*(k:Int)<2*s.js.length:=by omega
   have p4:2*(k:Int)+1<2*s.js.length:=by omega
   have t1:(2*(k:Int)).toNat=2*k:=by omega
   have t2:(2*(k:Int)+1).toNat=2*k+1:=by omega
   refine aS bs i' h' g 7 (by omega) hc' (by simp[Ne.symm h7g]) fun x i1 h1' hx hc1=> ?_
   have w4:IntKind.i64.wrap (x - 3)=x - 3:=i64_in (by omega) (by omega)
   have k1:2*k<ns.length:=by omega
   simp[w2,w3,w4,p1,p2,p3,p4,t1,t2,h7g,Ne.symm h7g,h72,Ne.symm h72,n2g,Ne.symm n2g,k1]
   refine⟨h1,aS bs i1 h1' g 9 (by omega) hc1 (by simp[Ne.symm n2g]) fun y i2 h2' hy hc2=> ?_⟩
   have w5:IntKind.i64.wrap (-y)= -y:=i64_in (by omega) (by omega)
   have k2:2*k+1<ns.length:=by omega
   have w1:IntKind.i64.wrap ((k:Int)+1)=k+1:=i64_in (by omega) (by omega)
   simp[w1,w5,p2,p4,t2,n2g,Ne.symm n2g,k2,E7]
   rw[aB]
   refine⟨⟨k+1,(ns.set (2*k) (x - 3)).set (2*k+1) (-y),i2,h2'⟩,⟨by simp only;omega,hc2,by simp[hl],S5 (S5 hr (by omega)) (by omega)⟩,by simp only;omega,rfl,by simp,?_⟩
   intro u z hx
   simp only[aA] at hx ⊢
   grind
  ·have w1:IntKind.i64.wrap ((k:Int)+1)=k+1:=i64_in (by omega) (by omega)
   simp[w1]
   rw[aB]
   exact⟨⟨k+1,ns,i',h'⟩,⟨by simp only;omega,hc',hl,hr⟩,by simp only;omega,rfl,by simp,by simp[h7g,h72,h7s,hb7]⟩
 ·have n8:1≤(8:Int)∧(8:Int)≤256:=by omega
  refine oW bs i' h' g 8 n8 hc' (by simp) fun x i1 h1' hc1=> ?_
  cases x
  ·simp
   rw[aW]
   refine⟨[_],by simp;rfl,?_⟩
   refine hK g2 ns i1 h1' _ hg2 hb2 hl hr hc1 (by simp) (by simp[n2g]) fun u z hu hz=> ?_
   have e1:u≠gs:=fun e=>by rw[e,hgs] at hz;cases hz
   have e2:u≠g2:=fun e=>by rw[e,hb2] at hz;cases hz
   simp[hu,e1,e2,hz]
  ·have w6:IntKind.i64.wrap (2*(s.js.length:Int) - 1)=2*s.js.length - 1:=i64_in (by omega) (by omega)
   have p5:0≤2*(s.js.length:Int) - 1:=by omega
   have p6:2*(s.js.length:Int) - 1<2*s.js.length:=by omega
   have t3:(2*(s.js.length:Int) - 1).toNat=2*s.js.length - 1:=by omega
   have k3:2*s.js.length - 1<ns.length:=by omega
   simp[w6,p5,p6,t3,n2g,Ne.symm n2g,k3,E7]
   refine⟨by omega,?_⟩
   rw[aW]
   refine⟨[_],by simp;rfl,?_⟩
   refine hK g2 (ns.set (2*s.js.length - 1) 4) i1 h1' _ hg2 hb2 (by simp[hl]) (S5 hr (by omega)) hc1 (by simp[Ne.symm n2g]) (by simp) fun u z hu hz=> ?_
   have e1:u≠gs:=fun e=>by rw[e,hgs] at hz;cases hz
   have e2:u≠g2:=fun e=>by rw[e,hb2] at hz;cases hz
   simp[hu,e1,e2,hz]
end Go.Proofs.YticmgmemnpcbbaaGreat.Vm
