import Derived.Test.YticmgmemnpcbbaaGreatQCFnCone4

namespace Go.Proofs.YticmgmemnpcbbaaGreat.Vm
open Go Go.Proofs
set_option linter.unusedSimpArgs false
set_option linter.unusedVariables false
def fvs (xs:List (Option Rat)):List (List V):=xs.map fun x=> [fv x]
@[simp] theorem T3 (xs : List (Option Rat)) : (fvs xs).length = xs.length := by simp [fvs]
@[simp] theorem Ft (xs : List (Option Rat)) (i : Nat) (h : i < (fvs xs).length) : (fvs xs)[i] = [fv (xs[i]'(by simpa using h))] := by simp [fvs]
@[simp] theorem aK6 (x : Option Rat) : (fv x).cl = true := by cases x <;> rfl
@[simp] theorem aJA (x : Option Rat) : (fv x).one = true := by cases x <;> rfl
@[simp] theorem aE3 (x : Option Rat) : (fv x).cells = [fv x] := by cases x <;> rfl
theorem N8 (xs:List (Option Rat)):(fvs xs).all (fun r=>r.all V.cl)=true:=by simp[fvs]
theorem Ik (xs:List (Option Rat)): ∀r,r∈fvs xs→r.length=1:=by
 intro r hr
 obtain⟨n,_,rfl⟩:=List.mem_map.1 hr
 rfl
theorem oC {bl:Int→Option Blk} {xs:List (Option Rat)} {v:V} {gs:List Int} :OwnD bl (fl 1 (fvs xs)) v gs ↔ (xs= []∧v= .nils∧gs= [])∨ ∃g,v= .lsl g 1 0 xs.length∧gs= [g]∧bl g=some ⟨1,fvs xs⟩∧(g<0→xs= []):=by
 rw[uM (N8 xs) (Ik xs)]
 simp[fvs]
def okL (xs:List (Option Rat)):Prop:= ∀x,x∈xs→okQ x
def dL (xs:List (Option Rat)) (b:Bool):D:= .t [fl 1 (fvs xs),.c (.bool b)]
theorem jS {bl:Int→Option Blk} {d:D} {b:Bool} {v:V} {gs:List Int} :OwnD bl (.t [d,.c (.bool b)]) v gs ↔ ∃w,v= .tup [w,.bool b]∧OwnD bl d w gs:=by
 rw[OwnD]
 constructor
 ·rintro⟨vs,rfl,h⟩
  obtain⟨v,w,g1,g2,rfl,rfl,hd,h1,h2⟩:=kM.1 h
  rw[OwnD] at h2
  obtain⟨rfl,_,rfl⟩:=h2
  exact⟨v,rfl,by simpa using h1⟩
 ·rintro⟨w,rfl,h⟩
  exact⟨_,rfl,kM.2 ⟨w,.bool b,gs,[],rfl,by simp,fun x hx h=>(by cases h),h,vA b⟩⟩
theorem Gl (xs:List (Option Rat)) (b:Bool) (n:Nat):(dL xs b).dep (n+2):=by
 unfold dL;rw[D.dep];exact⟨by omega,by simp[D.depL,D.dep,jF]⟩
theorem No (xs:List (Option Rat)) (b:Bool):(dL xs b).fz= .tup [.sl (fvs xs),.bool b]:=by simp[dL,D.fz,D.fzL]
def eS (rs:List RT):Bool:=rs.all fun r=>(rd r).isSome
def aM (rs:List RT):List (Option Rat):=rs.map rd
@[simp] theorem D3 (rs : List RT) : (aM rs).length = rs.length := by simp [aM]
theorem qV (rs:List RT):okL (aM rs):=by
 intro x hx
 obtain⟨r,_,rfl⟩:=List.mem_map.1 hx
 exact Fm r
theorem E3 (rs:List RT) (hq:jE rs 1048576):NW Tryz.prog 152 [.sl (rv rs)] (dL (if eS rs=true then aM rs else []) (eS rs)):=by
 have hw:=hq.1
 refine fZ Tryz.func152 rfl rfl (by rw[Tryz.ntmps152];simp) fun bl=> ?_
 rw[Tryz.ntmps152,Tryz.results152]
 refine aC ?_
 simp
 refine⟨by omega,by unfold maxLen;omega,fun g hg0 hg=> ?_⟩
 refine aL (fun i:Nat=> [(4,.lsl g 1 0 rs.length),(10,.sl (rv rs)),(11,.int .i64 rs.length),(12,.int .i64 i)]) (fun i=>upd bl g (some ⟨1,part (fvs (aM rs)) [.nilp] i⟩)) (fun i=>i≤rs.length∧ ∀r,r∈rs.take i→(rd r).isSome=true) (fun i=>rs.length - i) _ 0 ⟨Nat.zero_le _,by simp⟩ ⟨rfl,by simp,sub_eq (by simp)⟩ ?_
 rintro i ⟨hi,cQ⟩
 refine aC ?_
 simp
 refine⟨fun h=> ?_,fun h=> ?_⟩
 ·have hi':i<(fvs (aM rs)).length:=by simpa using h
  simp[h,RT.c]
  intro g2 hg2 h2g hb2
  try simp[h2g,Ne.symm h2g]
  have hr:=hq.2 _ (List.getElem_mem h)
  refine aD (W8 rs[i] (by have:=hr.1;omega) (by have:=hr.2;omega)) ?_
  have hpl:i<(part (fvs (aM rs)) [.nilp] i).length:=by simp[part];omega
  have hpi:(part (fvs (aM rs)) [.nilp] i)[i]? =some [.nilp]:=dZ _ _ _ hi'
  have hpe:(part (fvs (aM rs)) [.nilp] i)[i]= [.nilp]:=by
   rw[List.getElem?_eq_getElem hpl] at hpi;exact Option.some.inj hpi
  rcases ev:rd rs[i] with _ | a
  ·have hno:eS rs=false:=by
    rw[Bool.eq_false_iff]
    intro hh
    have:=List.all_eq_true.1 hh rs[i] (List.getElem_mem h)
    rw[ev] at this;cases this
   simp[h,ev,fv,hpl,hpe,h2g,Ne.symm h2g,hno]
   refine cP [.nils,.bool false] [] (by simp) ?_ (by simp) (by simp[hg,hb2])
   exact jS.2 ⟨.nils,rfl,oC.2 (.inl ⟨rfl,rfl,rfl⟩)⟩
  ·have T6:(part (fvs (aM rs)) [.nilp] i).set i [fv (some a)]=part (fvs (aM rs)) [.nilp] (i+1):=by
    rw[bZ _ _ _ hi']
    simp[aM,ev]
   simp[h,ev,fv,hpl,hpe,h2g,Ne.symm h2g]
   simp (disch:=omega) [i64_in,aB]
   refine⟨i+1,⟨by omega,fun r hr=> ?_⟩,by omega,rfl,by simp,?_⟩
   ·rw[List.take_add_one,List.getElem?_eq_getElem h] at hr
    rcases List.mem_append.1 hr with hr | hr
    ·exact cQ r hr
    ·obtain rfl:r=rs[i]:=by simpa using hr
     rw[ev];rfl
   ·have e2:=T6
    simp only[fv] at e2
    intro z y hz
    simp only[aA,e2] at hz ⊢
    grind
 ·have hi2:i=rs.length:=by omega
  have Cm:eS rs=true:=List.all_eq_true.2 fun r hr=>cQ r (by rw[hi2,List.take_length];exact hr)
  simp[Cm]
  refine cP [.lsl g 1 0 rs.length,.bool true] [g] (by simp) ?_ (by simpa using hg) (by simp[hg])
  rw[fD _ _ _ (by simpa using h)]
  exact jS.2 ⟨_,rfl,oC.2 (.inr ⟨g,by simp,rfl,by simp,by omega⟩)⟩
theorem Ds (rs:List RT) (hq:jE rs 1048576):RO Tryz.prog 152 [.sl (rv rs)] (.tup [.sl (fvs (if eS rs=true then aM rs else [])),.bool (eS rs)]):=by
 have:=dK 2 (E3 rs hq) (Gl _ _ 0)
 rwa [No] at this
def cX (rs:List RT):Bool:=decide (rs.length≤24)&& eS rs
theorem Cx {bl:Int→Option Blk} {xs:List (Option Rat)} {b:Bool} {v:V} {gs:List Int} (h:OwnD bl (dL xs b) v gs): ∃w,v= .tup [w,.bool b]∧OwnD bl (fl 1 (fvs xs)) w gs∧w.one=true∧w.cells= [w]:=by
 obtain⟨w,rfl,o⟩:=jS.1 h
 exact⟨w,rfl,o,o.one⟩
theorem oV (rs:List RT) (hq:jE rs 1048576):NW Tryz.prog 180 [.sl (rv rs)] (dL (if cX rs=true then aM rs else []) (cX rs)):=by
 have hw:=hq.1
 refine fZ Tryz.func180 rfl rfl (by rw[Tryz.ntmps180];simp) fun bl=> ?_
 rw[Tryz.ntmps180,Tryz.results180]
 refine aC ?_
 simp
 refine⟨fun h=> ?_,fun h=> ?_⟩
 ·have hv:cX rs=false:=by unfold cX;rw[decide_eq_false (by omega)];rfl
  rw[hv]
  refine cP [.nils,.bool false] [] (by simp) ?_ (by simp) (Sub.refl _)
  exact jS.2 ⟨.nils,rfl,oC.2 (.inl ⟨rfl,rfl,rfl⟩)⟩
 ·have hv:cX rs=eS rs:=by unfold cX;rw[decide_eq_true (by omega)];rfl
  rw[hv]
  refine dN (E3 rs hq) fun v gs b o f fr=> ?_
  obtain⟨w,rfl,ow,w1,w2⟩:=Cx o
  simp
  exact cP [w,.bool (eS rs)] gs (by simp) (jS.2 ⟨w,rfl,ow⟩) f (fun x y hy=>cL f fr hy)
theorem oX (rs:List RT) (hq:jE rs 1048576):RO Tryz.prog 180 [.sl (rv rs)] (.tup [.sl (fvs (if cX rs=true then aM rs else [])),.bool (cX rs)]):=by
 have:=dK 2 (oV rs hq) (Gl _ _ 0)
 rwa [No] at this
def bE (xs:List (Option Rat)):Bool:=xs.all Option.isSome
def bW (xs:List (Option Rat)):List RT:=xs.map ro
@[simp] theorem Kx (xs : List (Option Rat)) : (bW xs).length = xs.length := by simp [bW]
def stQ (xs:List (Option Rat)):List RT:=if bE xs=true then bW xs else []
def dV (rs:List RT) (b:Bool):D:= .t [dRs rs,.c (.bool b)]
theorem O6 (rs:List RT) (b:Bool) (n:Nat):(dV rs b).dep (n+3):=by
 unfold dV;rw[D.dep];exact⟨by omega,by simp[D.depL,D.dep,Mp]⟩
theorem Im (rs:List RT) (b:Bool):(dV rs b).fz= .tup [.sl (rv rs),.bool b]:=by simp[dV,D.fz,D.fzL,Rs]
theorem aED (rs:List RT) (b:Bool):(dV rs b).sc=true:=by simp[dV,D.sc,D.scL,Sz,V.ow]
theorem wD {bl:Int→Option Blk} {rs:List RT} {b:Bool} {v:V} {gs:List Int} (h:OwnD bl (dV rs b) v gs): ∃w,v= .tup [w,.bool b]∧OwnD bl (dRs rs) w gs∧w.one=true∧w.cells= [w]:=by
 obtain⟨w,rfl,o⟩:=jS.1 h
 exact⟨w,rfl,o,Lg o⟩
theorem nX {bl:Int→Option Blk} (b:Bool):OwnD bl (dV [] b) (.tup [.nils,.bool b]) []:=jS.2 ⟨.nils,rfl,S2.2 (.inl ⟨rfl,rfl,rfl⟩)⟩
theorem sO (xs:List (Option Rat)) (hx:okL xs) (hw:xs.length≤1048576):NW Tryz.prog 73 [.sl (fvs xs)] (dV (stQ xs) (bE xs)):=by
 refine fZ Tryz.func73 rfl rfl (by rw[Tryz.ntmps73];simp) fun bl=> ?_
 rw[Tryz.ntmps73,Tryz.results73]
 refine aC ?_
 simp
 refine⟨by omega,by unfold maxLen;omega,fun g hg0 hg=> ?_⟩
 refine aL (fun p:aJ1=> [(4,.lsl g 3 0 xs.length),(10,.sl (fvs xs)),(11,.int .i64 xs.length),(12,.int .i64 p.els.length)]) (fun p=>p.b)
  (fun p=>p.els.length≤xs.length∧(∀x,x∈xs.take p.els.length→x.isSome=true)∧p.b g=some ⟨3,p.els++List.replicate (xs.length - p.els.length) [.bool false,.nils,.nils]⟩∧OwnR p.b 3 (((bW xs).map dR).take p.els.length) p.els p.gs∧g∉p.gs∧(∀x,x∈p.gs→bl x=none)∧Sub bl p.b)
  (fun p=>xs.length - p.els.length) 26 ⟨[],[],upd bl g (some ⟨3,List.replicate xs.length [.bool false,.nils,.nils]⟩)⟩ ⟨Nat.zero_le _,by simp,by simp,by simp[OwnR],by simp,by simp,by simp[hg]⟩ ⟨rfl,by simp,by simp⟩ ?_
 rintro⟨els,gs,b⟩ ⟨hi,cQ,hb,ho,hn,hf,hs⟩
 simp only at hi cQ hb ho hn hf hs
 refine aC ?_
 simp
 refine⟨fun h=> ?_,fun h=> ?_⟩
 ·rcases ex:xs[els.length] with _ | q
  ·have hno:bE xs=false:=by
    rw[Bool.eq_false_iff]
    intro hh
    have:=List.all_eq_true.1 hh xs[els.length] (List.getElem_mem h)
    rw[ex] at this;cases this
   have hst:stQ xs= []:=by unfold stQ;rw[hno];rfl
   simp[h,ex,fv]
   rw[hno,hst]
   refine cP [.nils,.bool false] [] (by simp) (nX _) (by simp) hs
  ·simp[h,ex,fv]
   have hq0:okQ (some q):=by rw[←ex];exact hx _ (List.getElem_mem h)
   have Gw:=L8 (some q) hq0
   rw[show fv (some q)= .ptr (rq q).c from rfl] at Gw
   refine dN Gw fun v gv b' o f fr=> ?_
   rw[OwnD] at o
   obtain⟨vs,rfl,o⟩:=o
   obtain⟨vm,vd,_,_,rfl,_,_,om,od⟩:=D8.1 o
   have c1:=om.one.1
   have d1:=od.one.1
   have hb':b' g=_:=cL f fr hb
   have hgv:g∉gv:=fun hh=>by have:=f g hh;rw[hb] at this;cases this
   simp[h,hb',Gn els [.bool false,.nils,.nils] xs.length h,c1,d1]
   simp (disch:=omega) [i64_in,aB]
   have gg:=Ah els [.bool false,.nils,.nils] [.bool (ro (some q)).neg,vm,vd] xs.length h
   refine⟨⟨els++ [[.bool (ro (some q)).neg,vm,vd]],gs++gv,upd b' g (some ⟨3,(els++ [[.bool (ro (some q)).neg,vm,vd]])++List.replicate (xs.length - (els++ [[V.bool (ro (some q)).neg,vm,vd]]).length) [.bool false,.nils,.nils]⟩)⟩,⟨by simp;omega,?_,by simp,?_,?_,?_,?_⟩,by simp;omega,rfl,by simp,sub_eq ?_⟩
   ·intro x hx
    simp only[List.length_append,List.length_singleton] at hx
    rw[List.take_add_one,List.getElem?_eq_getElem h] at hx
    rcases List.mem_append.1 hx with hx | hx
    ·exact cQ x hx
    ·obtain rfl:x=xs[els.length]:=by simpa using hx
     rw[ex];rfl
   ·have h2:els.length<(bW xs).length:=by simpa using h
    have ht:((bW xs).map dR).take (els++ [[V.bool (ro (some q)).neg,vm,vd]]).length=((bW xs).map dR).take els.length++ [dR (ro (some q))]:=by
     rw[List.length_append,List.length_singleton,List.take_add_one,List.getElem?_map,List.getElem?_eq_getElem h2];simp[bW,ex]
    simp only
    rw[ht]
    refine OwnR.snoc (o.frame fun x hx=>by simp[show x≠g from fun e=>hgv (e▸hx)]) rfl (by simp[c1,d1]) (ho.fV fun x hx y hy=> ?_) fun x hx hx2=> ?_
    ·rw[aA,if_neg (fun e=>hn (by rw[←e];exact hx))];exact cL f fr hy
    ·exact ho.not (f x hx2) hx
   ·simp only[List.mem_append];rintro(h | h)
    ·exact hn h
    ·exact hgv h
   ·intro x hx
    rcases List.mem_append.1 hx with hx | hx
    ·exact hf x hx
    ·exact cM hs (f x hx)
   ·exact N7 hg fun x y hy=>cL f fr (hs x y hy)
   ·exact congrArg (fun e=>upd b' g (some (Blk.mk 3 e))) gg
 ·have hl:els.length=xs.length:=by omega
  have Cm:bE xs=true:=List.all_eq_true.2 fun x hx=>cQ x (by rw[hl,List.take_length];exact hx)
  have hst:stQ xs=bW xs:=by unfold stQ;rw[Cm];rfl
  rw[Cm,hst]
  refine cP [.lsl g 3 0 xs.length,.bool true] (g::gs) (by simp) ?_ (by simpa [hg] using hf) hs
  refine jS.2 ⟨_,rfl,S2.2 (.inr ⟨g,els,gs,by simp,rfl,hn,?_,by omega,?_⟩)⟩
  ·show b g=_
   rw[hb,hl];simp
  ·rw[hl] at ho
   rw[List.take_of_length_le (by simp)] at ho
   exact ho
theorem Ja {bl:Int→Option Blk} {n:Nat} {x y:V} {b:Bool} (h:frz bl n x=some y):frz bl (n+1) (.tup [x,.bool b])=some (.tup [y,.bool b]):=by
 rw[C3]
 simp only[List.mapM_cons,List.mapM_nil,h,show frz bl n (.bool b)=some (.bool b) by cases n<;>simp[frz]]
 rfl
theorem mZ :okL [none]:=by
 intro x hx
 obtain rfl:x=none:=by simpa using hx
 intro q h;cases h

def eO (s:Str) (q:List RT):Bool:=(sOk s && decide (q.length=s.ms.length))&& eS q
theorem rG (s:Str) (q:List RT) (hj:s.js.length≤140737488351232) (hm:s.ms.length≤140737488351232) (hn: ∀j,j∈s.js→j.name.size≤140737488351232) (hq:jE q 1048576):RO Tryz.prog 77 [.ptr s.c,.sl (rv q)] (.tup [.sl (fvs (if eO s q=true then aM q else [])),.bool (eO s q)]):=by
 refine aK Tryz.func77 rfl rfl (by rw[Tryz.ntmps77];simp) fun bl=> ?_
 rw[Tryz.ntmps77,Tryz.results77]
 refine aC ?_
 simp[Str.c]
 refine aX [(0,.ptr s.c),(1,.sl (rv q)),(4,.nils),(5,.bool false)] _ bl 20 (.bool (!(sOk s && decide (q.length=s.ms.length)))) ⟨rfl,by simp[Str.c],Sub.refl _⟩ rfl ?_ ?_
 ·simp[Str.c]
  refine⟨fun h=> ?_,fun h=> ?_⟩
  ·right;omega
  ·refine aD (dJ s hj hm hn) ?_
   simp
   intro h2;omega
 cases hw:(sOk s && decide (q.length=s.ms.length))
 ·have hf:eO s q=false:=by unfold eO;rw[hw];rfl
  rw[hf]
  simp
  exact aQ [.nils,.bool false] 1 (by simp) (by simp[frz,fvs,V.cl]) (Sub.refl _)
 ·have hf:eO s q=eS q:=by unfold eO;rw[hw];rfl
  rw[hf]
  simp
  refine aD (Ds q hq) ?_
  simp
  exact aQ [.sl (fvs (if eS q=true then aM q else [])),.bool (eS q)] 1 (by simp) (by simp[frz]) (Sub.refl _)
def qD (m:Mb) (x:Option Rat):Bool:=(decide (m.kind=1)&& decide (sgq x<0))|| (decide (m.kind=2)&& decide (0<sgq x))
def Fg (ms:List Mb) (q:List RT) (n:Nat):Prop:= ∀k (h1:k<ms.length) (h2:k<q.length),k<n→qD ms[k] (rd q[k])=false
def tM (s:Str) (q:List RT):Bool:=eO s q && (List.zip s.ms q).all fun p=> !qD p.1 (rd p.2)
theorem H8 {s:Str} {q:List RT} (hf:eO s q=true) (h:Fg s.ms q s.ms.length):tM s q=true:=by
 unfold tM
 rw[hf,Bool.true_and,List.all_eq_true]
 intro p hp
 obtain⟨k,hk,rfl⟩:=List.getElem_of_mem hp
 rw[List.length_zip] at hk
 rw[List.getElem_zip]
 simp only
 rw[h k (by omega) (by omega) (by omega)];rfl
theorem Ln {s:Str} {q:List RT} (k:Nat) (h1:k<s.ms.length) (h2:k<q.length) (h:qD s.ms[k] (rd q[k])=true):tM s q=false:=by
 unfold tM
 rw[Bool.and_eq_false_iff]
 right
 rw[List.all_eq_false]
 refine⟨(s.ms[k],q[k]),?_,by simp[h]⟩
 rw[List.mem_iff_getElem]
 exact⟨k,by rw[List.length_zip];omega,by rw[List.getElem_zip]⟩
theorem sU (s:Str) (q:List RT) (hj:s.js.length≤140737488351232) (hm:s.ms.length≤140737488351232) (hn: ∀j,j∈s.js→j.name.size≤140737488351232) (hq:jE q 1048576):RO Tryz.prog 20 [.agg s.c,.sl (rv q)] (.bool (tM s q)):=by
 refine aK Tryz.func20 rfl rfl (by rw[Tryz.ntmps20];simp) fun bl=> ?_
 rw[Tryz.ntmps20,Tryz.results20]
 refine aE ?_
 simp[Str.c]
 intro g hg0 hg
 refine cK 1 2 (.ptr s.c) bl (by simp[hg]) (by simp[frz,dropB,hg,Str.c,V.cl]) ?_
 refine aC ?_
 simp
 refine aD (rG s q hj hm hn hq) ?_
 simp
 cases hf:eO s q
 ·have hno:tM s q=false:=by unfold tM;rw[hf];rfl
  simp
  exact aQ [.bool false] 0 (by simp) (by simp[frz,hno]) (Sub.refl _)
 have hlen:q.length=s.ms.length:=by
  unfold eO at hf;simp at hf;exact hf.1.2
 have cQ:eS q=true:=by unfold eO at hf;simp at hf;exact hf.2
 have hq1:=hq.1
 simp[Str.c]
 refine aL (fun i:Nat=> [(5,.sl (fvs (aM q))),(18,.sl (mv s.ms)),(19,.int .i64 s.ms.length),(20,.int .i64 i)]) (fun _=>bl) (fun i=>i≤s.ms.length∧Fg s.ms q i) (fun i=>s.ms.length - i) _ 0 ⟨Nat.zero_le _,fun k _ _ h0=>by omega⟩ ⟨rfl,by simp,Sub.refl _⟩ ?_
 rintro i ⟨hi,hc⟩
 refine aC ?_
 simp
 refine⟨fun h=> ?_,fun h=> ?_⟩
 ·have h2:i<q.length:=by omega
  have h3:i<(aM q).length:=by simpa using h2
  obtain⟨a,ea⟩: ∃a,rd q[i]=some a:=by
   have:=List.all_eq_true.1 cQ q[i] (List.getElem_mem h2)
   exact Option.isSome_iff_exists.1 this
  have e2:(aM q)[i]=some a:=by simp[aM,ea]
  simp[h,Mb.c]
  intro g2 hg2 hb2
  simp[h2,e2,fv]
  refine aD (X2 a) ?_
  have aB1:qD s.ms[i] (some a)=((decide (s.ms[i].kind=1)&& decide (a.num.sign<0))|| (decide (s.ms[i].kind=2)&& decide (0<a.num.sign))):=rfl
  generalize a.num.sign=z at aB1 ⊢
  simp
  refine dU [(5,.sl (fvs (aM q))),(18,.sl (mv s.ms)),(19,.int .i64 s.ms.length),(20,.int .i64 i),(8,.loc g2 3 0 0),(9,.int .i64 z)] _ (upd bl g2 (some ⟨3,[s.ms[i].c]⟩)) 45 (.bool (qD s.ms[i] (some a))) (upd bl g2 (some ⟨3,[s.ms[i].c]⟩)) ⟨rfl,by simp,sub_eq (by simp[Mb.c])⟩ rfl ?_ ?_
  ·rw[aB1]
   simp[Mb.c]
   by_cases k1:s.ms[i].kind=1<;>by_cases k2:s.ms[i].kind=2<;>by_cases z1:z<0<;>by_cases z2:0<z<;>simp[k1,k2,z1,z2]<;>omega
  cases hb:qD s.ms[i] (some a)
  ·simp
   simp (disch:=omega) [i64_in,aB]
   refine⟨i+1,⟨by omega,fun k h4 h5 hk=> ?_⟩,by omega,rfl,by simp,by simp[hb2]⟩
   rcases Nat.lt_or_ge k i with hlt | hge
   ·exact hc k h4 h5 hlt
   ·obtain rfl:k=i:=by omega
    rw[ea];exact hb
  ·have hno:tM s q=false:=Ln i h h2 (by rw[ea];exact hb)
   simp
   exact aQ [.bool false] 0 (by simp) (by simp[frz,hno]) (by simp[hb2])
 ·have hi2:i=s.ms.length:=by omega
  subst hi2
  exact aS (by simp[H8 hf hc]) rfl rfl

def pTo (e:Mb→Int) (s:Str) (q:List (Option Rat)) (j:Int):Nat→Option Rat
 | 0 => some 0
 | n + 1 => if j = (mat s n).a ∨ j = (mat s n).b then op2 (· + ·) (pTo e s q j n) (op2 (· * ·) (q.getD n none) (some (e (mat s n) : Rat))) else pTo e s q j n
theorem pO (e:Mb→Int) (s:Str) (q:List (Option Rat)) (j:Int): ∀n,okQ (pTo e s q j n)
 | 0 => fun x h => by cases h; exact zH
 | n + 1 => by
   unfold pTo;split
   ·exact jO _ _ _
   ·exact pO e s q j n
def pX (s:Str) (q:List (Option Rat)) (j:Int):Option Rat:=pTo (eqX s j) s q j s.ms.length
def pY (s:Str) (q:List (Option Rat)) (j:Int):Option Rat:=pTo (eqY s j) s q j s.ms.length
theorem uR (s:Str) (i:Nat) (h:i<s.ms.length):mat s i=s.ms[i]:=by simp[mat,h]
theorem Gr {s:Str} (hs:SOk s) {m:Mb} (hm:m∈s.ms):(-100≤vx s m∧vx s m≤100)∧(-100≤vy s m∧vy s m≤100):=by
 obtain⟨⟨a1,a2⟩,⟨b1,b2⟩⟩:=hs.ix _ hm
 have ha:=hs.pl m.a.toNat (by omega)
 have hb:=hs.pl m.b.toNat (by omega)
 unfold vx vy jat
 omega
theorem An :((0:Int):Rat)=0:=rfl
theorem Lx (s:Str) (q:List (Option Rat)) (j:Int) (hs:SOk s) (hq:okL q) (hl:q.length=s.ms.length):RO Tryz.prog 80 [.ptr s.c,.sl (fvs q),.int .i64 j] (.tup [fv (pX s q j),fv (pY s q j)]):=by
 have hn:=hs.nm
 have w0:=eP 0 (by omega)
 rw[An] at w0
 refine aK Tryz.func80 rfl rfl (by rw[Tryz.ntmps80];simp) fun bl=> ?_
 rw[Tryz.ntmps80,Tryz.results80]
 refine aC ?_
 simp
 refine aD w0 ?_
 simp
 refine aD w0 ?_
 simp[Str.c]
 refine aL (fun i:Nat=> [(0,.ptr s.c),(1,.sl (fvs q)),(2,.int .i64 j),(8,fv (pTo (eqX s j) s q j i)),(9,fv (pTo (eqY s j) s q j i)),(19,.sl (mv s.ms)),(20,.int .i64 s.ms.length),(21,.int .i64 i)]) (fun _=>bl) (fun i=>i≤s.ms.length) (fun i=>s.ms.length - i) _ 0 (Nat.zero_le _) ⟨rfl,by simp[Str.c,pTo],Sub.refl _⟩ ?_
 intro i hi
 refine aC ?_
 simp
 refine⟨fun h=> ?_,fun h=> ?_⟩
 ·have h2:i<q.length:=by omega
  have hm:=uR s i h
  have hv:=nY s i hs (by omega) (by omega)
  rw[hm] at hv
  have hle:=Gr hs (List.getElem_mem h)
  have hqi:q.getD i none=q[i]:=by simp[h2]
  have hok:=hq _ (List.getElem_mem h2)
  simp[h,Mb.c]
  intro g2 hg2 hb2
  refine aD hv ?_
  simp
  refine⟨fun hja=> ?_,fun hja=>⟨fun hjb=> ?_,fun hjb=> ?_⟩⟩
  ·obtain⟨cx,hcx⟩: ∃c:Int,vx s s.ms[i]=c:=⟨_,rfl⟩
   obtain⟨cy,hcy⟩: ∃c:Int,vy s s.ms[i]=c:=⟨_,rfl⟩
   have ex:eqX s j s.ms[i]=cx:=by unfold eqX;rw[if_pos hja];exact hcx
   have ey:eqY s j s.ms[i]=cy:=by unfold eqY;rw[if_pos hja];exact hcy
   have bx: -100≤cx∧cx≤100:=by omega
   have by_: -100≤cy∧cy≤100:=by omega
   have e1:pTo (eqX s j) s q j (i+1)=op2 (· + ·) (pTo (eqX s j) s q j i) (op2 (· * ·) q[i] (some (cx:Rat))):=by
    rw[pTo,hm,if_pos (.inl hja),hqi,ex]
   have e2:pTo (eqY s j) s q j (i+1)=op2 (· + ·) (pTo (eqY s j) s q j i) (op2 (· * ·) q[i] (some (cy:Rat))):=by
    rw[pTo,hm,if_pos (.inl hja),hqi,ey]
   rw[hcx,hcy]
   refine bX aO (by kernel_rfl) ?_
   simp[h2]
   refine aP (eP cx (by omega)) ?_
   simp
   refine aP (vY q[i] _ hok (nK (by omega))) ?_
   simp
   refine aP (lR _ _ (pO _ _ _ _ _) (jO _ _ _)) ?_
   simp
   refine bX aO (by kernel_rfl) ?_
   simp[h2]
   refine aP (eP cy (by omega)) ?_
   simp
   refine aP (vY q[i] _ hok (nK (by omega))) ?_
   simp
   refine aP (lR _ _ (pO _ _ _ _ _) (jO _ _ _)) ?_
   simp (disch:=omega) [i64_in,aB]
   refine⟨i+1,by omega,by omega,rfl,by simp[e1,e2],by simp[hb2]⟩
  ·obtain⟨cx,hcx⟩: ∃c:Int, -vx s s.ms[i]=c:=⟨_,rfl⟩
   obtain⟨cy,hcy⟩: ∃c:Int, -vy s s.ms[i]=c:=⟨_,rfl⟩
   have ex:eqX s j s.ms[i]=cx:=by unfold eqX;rw[if_neg hja,if_pos hjb];exact hcx
   have ey:eqY s j s.ms[i]=cy:=by unfold eqY;rw[if_neg hja,if_pos hjb];exact hcy
   have bx: -100≤cx∧cx≤100:=by omega
   have by_: -100≤cy∧cy≤100:=by omega
   have e1:pTo (eqX s j) s q j (i+1)=op2 (· + ·) (pTo (eqX s j) s q j i) (op2 (· * ·) q[i] (some (cx:Rat))):=by
    rw[pTo,hm,if_pos (.inr hjb),hqi,ex]
   have e2:pTo (eqY s j) s q j (i+1)=op2 (· + ·) (pTo (eqY s j) s q j i) (op2 (· * ·) q[i] (some (cy:Rat))):=by
    rw[pTo,hm,if_pos (.inr hjb),hqi,ey]
   have wx:IntKind.i64.wrap (-vx s s.ms[i])=cx:=by rw[i64_in (by omega) (by omega)];exact hcx
   have wy:IntKind.i64.wrap (-vy s s.ms[i])=cy:=by rw[i64_in (by omega) (by omega)];exact hcy
   rw[wx,wy]
   refine bX aO (by kernel_rfl) ?_
   simp[h2]
   refine aP (eP cx (by omega)) ?_
   simp
   refine aP (vY q[i] _ hok (nK (by omega))) ?_
   simp
   refine aP (lR _ _ (pO _ _ _ _ _) (jO _ _ _)) ?_
   simp
   refine bX aO (by kernel_rfl) ?_
   simp[h2]
   refine aP (eP cy (by omega)) ?_
   simp
   refine aP (vY q[i] _ hok (nK (by omega))) ?_
   simp
   refine aP (lR _ _ (pO _ _ _ _ _) (jO _ _ _)) ?_
   simp (disch:=omega) [i64_in,aB]
   refine⟨i+1,by omega,by omega,rfl,by simp[e1,e2],by simp[hb2]⟩
  ·have e1:pTo (eqX s j) s q j (i+1)=pTo (eqX s j) s q j i:=by rw[pTo,hm,if_neg];rintro(h | h);exact hja h;exact hjb h
   have e2:pTo (eqY s j) s q j (i+1)=pTo (eqY s j) s q j i:=by rw[pTo,hm,if_neg];rintro(h | h);exact hja h;exact hjb h
   simp (disch:=omega) [i64_in,aB]
   refine⟨i+1,by omega,by omega,rfl,by simp[e1,e2],by simp[hb2]⟩
 ·have hi2:i=s.ms.length:=by omega
  subst hi2
  exact aQ [fv (pX s q j),fv (pY s q j)] 1 (by simp[pX,pY]) (by simp[frz,pX,pY]) (Sub.refl _)

def Tu (s:Str) (q:List RT) (j:Int):Bool:=eO s q && (decide (0≤j)&& decide (j<s.js.length))
def pqs (s:Str) (q:List RT) (j:Int):List (Option Rat):=if Tu s q j=true then [pX s (aM q) j,pY s (aM q) j] else [none]
theorem Io {s:Str} {q:List RT} (h:eO s q=true):SOk s∧q.length=s.ms.length∧eS q=true:=by
 unfold eO at h;simp at h
 exact⟨pP h.1.1,h.1.2,h.2⟩

def aNE (s:Str):List D:= [fl 4 (jv s.js),fl 3 (mv s.ms)]
structure Str.sz (s : Str) : Prop where
 js:s.js.length≤140737488351232
 ms:s.ms.length≤140737488351232
 nm: ∀j,j∈s.js→j.name.size≤140737488351232

def aCD (k:Nat) (out:ByteArray):ByteArray:=if h:k=0 then out else aCD (k / 10) (uB [IntKind.u8.wrap (IntKind.i64.wrap (48+(k:Int).tmod 10))]++out)
termination_by k
decreasing_by omega
def aBW (k:Nat):ByteArray:=if k=0 then { data:= #[109,48] } else({ data:= #[109] } :ByteArray)++aCD k { data:= #[] }
def mkJ (k n:Nat):List J:=(List.range n).map fun i=>⟨aBW (k+4*i),(k+4*i+1:Nat),(k+4*i+2:Nat),((k+4*i+3:Nat):Int).tmod 3==0⟩
def mkM (k n:Nat):List Mb:=(List.range n).map fun i=>⟨(k+3*i:Nat),(k+3*i+1:Nat),(k+3*i+2:Nat)⟩
def mkS (k:Nat) (s:Str):Str:=⟨mkJ k s.js.length,mkM (k+4*s.js.length) s.ms.length⟩
def mkN (k:Nat) (s:Str):Nat:=k+4*s.js.length+3*s.ms.length

end Go.Proofs.YticmgmemnpcbbaaGreat.Vm

namespace Go.Proofs.YticmgmemnpcbbaaGreat.Vm
open Go Go.Proofs
set_option linter.unusedSimpArgs false
set_option linter.unusedVariables false
def aIW (s:Str):List Int:=if sOk s=true then List.replicate (2*s.js.length) 0 else []

def aK3 (s:Str):List Int:=if sOk s=true then aF s.js else []
theorem jW (s:Str) (hj:s.js.length≤1048576):RO Tryz.prog 74 [.ptr s.c] (.sl (iv (aF s.js))):=by
 have:=dK 1 (xI s hj) (jF _ _ 0)
 simpa using this
def aLA (s:Str):Int:=if sOk s=true then s.ms.length - 2*(aF s.js).length else 0
end Go.Proofs.YticmgmemnpcbbaaGreat.Vm

namespace Go.Proofs.YticmgmemnpcbbaaGreat.Vm
open Go Go.RowKit
set_option linter.unusedSimpArgs false
set_option linter.unusedVariables false
def HStep (P:Program) (ops:Array Oper) (blK:Int→Option Blk) (i:Nat) (K:St→Prop) (σ:St):Prop:=match ops[i]? with
 | some o => ∃ v, DY P ops blK o σ v ∧ K (σ.put o.dst v)
 | none => False
theorem pL {P:Program} {id:Nat} {ops:Array Oper} {K:Ex→St→Prop} {σ:St} (hm:P.follows .mixedOrders=true) (blK:Int→Option Blk) (hs:Sub blK σ.bl) (is:List Nat) (fuel n:Nat) (hn:(ops.size==fuel+is.length && is.all (fun i=>decide (i<ops.size))&& hoistB ops is (Array.replicate ops.size false)&& yX ops (fun j=>decide (n≤j)) is)=true)
  (h:HoistF P (ops.toList.map (·.dst)) blK (is.filterMap fun i=>ops[i]?) (iL P ops blK (fun j=>decide (n≤j)) (K .normal) fuel (fR is (Array.replicate ops.size false))) σ):AW P (.region id ops true) K σ:=by
 simp only[Bool.and_eq_true,beq_iff_eq] at hn
 exact iD hm is fuel blK hs hn.1.1.1 hn.1.2 (tl:=fun j=>decide (n≤j)) (jI hn.2) (iK _ is σ (filter_some is hn.1.1.2) h)
end Go.Proofs.YticmgmemnpcbbaaGreat.Vm

namespace Go.Proofs.YticmgmemnpcbbaaGreat.Vm
open Go Go.Proofs
set_option linter.unusedSimpArgs false
set_option linter.unusedVariables false
def lN (l:List Int) (k:Nat):Int:=l.getD k 0
theorem W7 {l:List Int} {k:Nat} (h:k<l.length):lN l k=l[k]:=by simp[lN,h]
def fX (s:Str) (l:List Int) (q:List (Option Rat)) (i:Nat):Option Rat:=op2 (· + ·) (pX s q i) (some (lN l (2*i):Rat))
def fY (s:Str) (l:List Int) (q:List (Option Rat)) (i:Nat):Option Rat:=op2 (· + ·) (pY s q i) (some (lN l (2*i+1):Rat))
def isZ (x:Option Rat):Bool:=x.isSome && decide (sgq x=0)
theorem yF (x:Option Rat):RO Tryz.prog 81 [fv x] (.bool (isZ x)):=by
 refine aK Tryz.func81 rfl rfl (by rw[Tryz.ntmps81];simp) fun bl=> ?_
 rw[Tryz.ntmps81,Tryz.results81]
 refine aC ?_
 simp
 cases x with
 | none =>
   refine rY (sJ ?_)
   simp[fv]
   exact aS (by simp[isZ]) rfl rfl
 | some q =>
   refine rY (sJ ?_)
   simp[fv]
   refine aD (X2 q) ?_
   have hz:isZ (some q)=decide (q.num.sign=0):=rfl
   generalize q.num.sign=z at hz ⊢
   simp
   exact aQ [.bool (isZ (some q))] 0 (by simp[hz,pS]) (by simp[frz]) (Sub.refl _)
def xL (s:Str) (l:List Int) (q:List (Option Rat)) (i:Nat):Bool:=isZ (fX s l q i)&& isZ (fY s l q i)
def oQ (s:Str) (l:List Int) (q:List RT):Bool:=(eO s q && eM s.js l)&& (aF s.js).all fun j=>xL s l (aM q) j.toNat
theorem zL (js:List J) (t:Nat) (h:t<(aF js).length): ∃i:Nat,(aF js)[t]=i∧i<js.length:=by
 have hm:(aF js)[t]∈aF js:=List.getElem_mem h
 generalize (aF js)[t]=x at hm ⊢
 unfold aF cH at hm
 obtain⟨i,hi,rfl⟩:=List.mem_map.1 hm
 have:=List.mem_filter.1 hi
 exact⟨i,rfl,by simpa using this.1⟩
theorem Is {js:List J} {l:List Int} (h:eM js l=true):l.length=2*js.length∧ ∀k,k<l.length→ -100≤lN l k∧lN l k≤100:=by
 unfold eM at h
 rw[Bool.and_eq_true] at h
 refine⟨by simpa using h.1,fun k hk=> ?_⟩
 have:=List.all_eq_true.1 h.2 l[k] (List.getElem_mem hk)
 rw[W7 hk]
 simpa [fJ] using this
theorem pN (s:Str) (l:List Int) (q:List RT) (hj:s.js.length≤140737488351232) (hm:s.ms.length≤140737488351232) (hn: ∀j,j∈s.js→j.name.size≤140737488351232) (hl:l.length≤140737488351232) (hq:jE q 1048576):RO Tryz.prog 21 [.agg s.c,.sl (iv l),.sl (rv q)] (.bool (oQ s l q)):=by
 refine aK Tryz.func21 rfl rfl (by rw[Tryz.ntmps21];simp) fun bl=> ?_
 rw[Tryz.ntmps21,Tryz.results21]
 refine aE ?_
 simp[Str.c]
 intro g hg0 hg
 refine cK 1 3 (.ptr s.c) bl (by simp[hg]) (by simp[frz,dropB,hg,Str.c,V.cl]) ?_
 refine aC ?_
 simp
 refine aD (rG s q hj hm hn hq) ?_
 simp
 refine aX [(1,.sl (iv l)),(3,.ptr s.c),(6,.bool false),(7,.sl (fvs (if eO s q=true then aM q else []))),(8,.bool (eO s q))] _ bl 24 (.bool (!(eO s q && eM s.js l))) ⟨rfl,by simp,Sub.refl _⟩ rfl ?_ ?_
 ·cases hf:eO s q
  ·simp
  simp
  refine aD (jT s l hj hl) ?_
  simp
 cases hp:(eO s q && eM s.js l)
 ·have hz:oQ s l q=false:=by unfold oQ;rw[hp];rfl
  simp
  exact aQ [.bool false] 0 (by simp) (by simp[frz,hz]) (Sub.refl _)
 rw[Bool.and_eq_true] at hp
 obtain⟨hs,hlen,cQ⟩:=Io hp.1
 obtain⟨hll,hlb⟩:=Is hp.2
 have hb:oQ s l q=(aF s.js).all fun j=>xL s l (aM q) j.toNat:=by unfold oQ;rw[hp.1,hp.2];rfl
 have hnj:=hs.nj
 have hfl:=kY s.js s.js.length
 change(aF s.js).length≤s.js.length at hfl
 rw[hb,hp.1]
 simp
 refine aD (jW s (by omega)) ?_
 simp
 refine aL (fun t:Nat=> [(1,.sl (iv l)),(3,.ptr s.c),(7,.sl (fvs (aM q))),(25,.sl (iv (aF s.js))),(26,.int .i64 (aF s.js).length),(27,.int .i64 t)]) (fun _=>bl) (fun t=>t≤(aF s.js).length∧ ∀k (h:k<(aF s.js).length),k<t→xL s l (aM q) (aF s.js)[k].toNat=true) (fun t=>(aF s.js).length - t) _ 0 ⟨Nat.zero_le _,fun k _ h0=>by omega⟩ ⟨rfl,by simp,Sub.refl _⟩ ?_
 rintro t ⟨ht,hc⟩
 refine aC ?_
 simp
 refine⟨fun h=> ?_,fun h=> ?_⟩
 ·obtain⟨i,ei,hi⟩:=zL s.js t h
  simp[h,ei]
  refine aD (Lx s (aM q) i hs (qV q) (by simpa using hlen)) ?_
  simp
  have b1:=hlb (2*i) (by omega)
  have b2:=hlb (2*i+1) (by omega)
  have w1:IntKind.i64.wrap (2*(i:Int))=2*i:=i64_in (by omega) (by omega)
  have w2:IntKind.i64.wrap (2*(i:Int)+1)=2*i+1:=i64_in (by omega) (by omega)
  have p1:2*i<l.length:=by omega
  have p2:2*i+1<l.length:=by omega
  have p3:2*(i:Int)<l.length:=by omega
  have p4:2*(i:Int)+1<l.length:=by omega
  have p5:0≤2*(i:Int):=by omega
  have p6:0≤2*(i:Int)+1:=by omega
  have p7:(2*(i:Int)).toNat=2*i:=by omega
  have p8:(2*(i:Int)+1).toNat=2*i+1:=by omega
  have q1:=W7 p1
  have q2:=W7 p2
  refine aX [(1,.sl (iv l)),(3,.ptr s.c),(7,.sl (fvs (aM q))),(25,.sl (iv (aF s.js))),(26,.int .i64 (aF s.js).length),(27,.int .i64 t),(10,.int .i64 i),(11,fv (pX s (aM q) i)),(12,fv (pY s (aM q) i))] _ bl 59 (.bool (!xL s l (aM q) i)) ⟨rfl,by simp,Sub.refl _⟩ rfl ?_ ?_
  ·simp[w1,w2,p1,p2,p3,p4,p5,p6,p7,p8]
   rw[←q1]
   refine aD (eP _ (by omega)) ?_
   simp[w1,w2,p1,p2,p3,p4,p5,p6,p7,p8]
   refine aD (lR _ _ (pO _ _ _ _ _) (nK (by omega))) ?_
   simp[w1,w2,p1,p2,p3,p4,p5,p6,p7,p8]
   refine aD (yF (fX s l (aM q) i)) ?_
   simp[w1,w2,p1,p2,p3,p4,p5,p6,p7,p8]
   refine⟨fun z1=> ?_,fun z1=> ?_⟩
   ·simp[xL,z1]
   rw[←q2]
   refine aD (eP _ (by omega)) ?_
   simp[w1,w2,p1,p2,p3,p4,p5,p6,p7,p8]
   refine aD (lR _ _ (pO _ _ _ _ _) (nK (by omega))) ?_
   simp[w1,w2,p1,p2,p3,p4,p5,p6,p7,p8]
   refine aD (yF (fY s l (aM q) i)) ?_
   simp[xL,z1]
  cases hbj:xL s l (aM q) i
  ·have hno:((aF s.js).all fun j=>xL s l (aM q) j.toNat)=false:=by
    rw[List.all_eq_false]
    exact⟨_,List.getElem_mem h,by rw[ei];simpa using hbj⟩
   rw[hno]
   simp
   exact aQ [.bool false] 0 (by simp) (by simp[frz]) (Sub.refl _)
  ·simp
   simp (disch:=omega) [i64_in,aB]
   refine⟨t+1,⟨by omega,fun k hk hkt=> ?_⟩,by omega,rfl,by simp,Sub.refl _⟩
   rcases Nat.lt_or_ge k t with hlt | hge
   ·exact hc k hk hlt
   ·obtain rfl:k=t:=by omega
    rw[ei];simpa using hbj
 ·have hi2:t=(aF s.js).length:=by omega
  have:(aF s.js).all (fun j=>xL s l (aM q) j.toNat)=true:=List.all_eq_true.2 fun x hx=>by
   obtain⟨k,hk,rfl⟩:=List.getElem_of_mem hx
   exact hc k hk (by omega)
  rw[this]
  exact aQ [.bool true] 0 (by simp) (by simp[frz]) (Sub.refl _)
def aL7 (s:Str) (l:List Int) (q:List RT) (i:Nat):List RT:=if bE [pX s (aM q) i,pY s (aM q) i]=true then [ro (fX s l (aM q) i),ro (fY s l (aM q) i)] else []
def aMX (s:Str) (l:List Int) (q:List RT) (i:Nat):Bool:=bE [fX s l (aM q) i,fY s l (aM q) i]
theorem lV (s:Str) (l:List Int) (q:List RT) (hj:s.js.length≤140737488351232) (hm:s.ms.length≤140737488351232) (hn: ∀j,j∈s.js→j.name.size≤140737488351232) (hl:l.length≤140737488351232) (hq:jE q 1048576):RO Tryz.prog 19 [.agg s.c,.sl (iv l),.sl (rv q)] (.bool (oQ s l q && tM s q)):=by
 refine aK Tryz.func19 rfl rfl (by rw[Tryz.ntmps19];simp) fun bl=> ?_
 rw[Tryz.ntmps19,Tryz.results19]
 refine aC ?_
 simp[Str.c]
 intro g hg0 hg
 refine dU [(1,.sl (iv l)),(2,.sl (rv q)),(3,.loc g 2 0 0)] _ (upd bl g (some ⟨2,[s.c]⟩)) 6 (.bool (oQ s l q && tM s q)) (upd bl g (some ⟨2,[s.c]⟩)) ⟨rfl,by simp,sub_eq (by simp[Str.c])⟩ rfl ?_ ?_
 ·simp[Str.c]
  refine aD (pN s l q hj hm hn hl hq) ?_
  simp
  refine⟨fun h1=> ?_,fun h1=> ?_⟩
  ·simp only[h1]
   simp[Str.c]
   refine aD (sU s q hj hm hn hq) ?_
   simp
  ·simp[h1]
 simp
 exact aQ [.bool (oQ s l q && tM s q)] 0 (by simp) (by simp[frz]) (by simp[hg])

theorem Sm (x:Option Rat):RO Tryz.prog 103 [fv x] (fv (x.map (- ·))):=by
 cases x with
 | none =>
   refine aK Tryz.func103 rfl rfl (by rw[Tryz.ntmps103];simp) fun bl=> ?_
   rw[Tryz.ntmps103,Tryz.results103]
   refine aC ?_
   simp[fv]
   exact aS (by simp) rfl rfl
 | some q =>
   have hop:=jR q.num
   rw[dW,dW,Int.natAbs_neg] at hop
   refine aK Tryz.func103 rfl rfl (by rw[Tryz.ntmps103];simp) fun bl=> ?_
   rw[Tryz.ntmps103,Tryz.results103]
   refine aC ?_
   rw[show fv (some q)= .ptr (rq q).c from rfl,fM,show fv ((some q).map (- ·))= .ptr [.bool (decide (-q.num<0)),.sl (iv (lim q.num.natAbs)),.sl (iv (lim q.den))] by
    show V.ptr (rq (-q)).c=_
    rw[fM]
    show V.ptr [.bool (decide (-q.num<0)),.sl (iv (lim (-q.num).natAbs)),.sl (iv (lim q.den))]=_
    rw[Int.natAbs_neg]]
   simp
   refine bQ aO bl (Sub.refl _) [0,1,2,3,4,5,6,7,8] 3 (by kernel_rfl) ?_
   simp
   refine aP hop ?_
   simp
   refine Dz 9 ?_
   simp
   refine Dz 10 ?_
   simp
   intro g hg0 hg
   refine⟨by simp[hg],Dz 11 ?_⟩
   simp
   refine⟨by simp[hg],Dy ?_⟩
   simp
   refine aQ [.loc g 3 0 0] 1 (by simp) ?_ (by simp[hg])
   show frz _ 1 (.loc g 3 0 0)=_
   rw[kA (e:= [.bool (decide (0<q.num)),.sl (iv (lim q.num.natAbs)),.sl (iv (lim q.den))]) (by simp[dropB,hg])]
   rfl
def aJB (s:Str) (l:List Int) (q:List RT) (j:Int):Bool:=(eO s q && eM s.js l)&& ((decide (0≤j)&& decide (j<s.js.length))&& (s.js.getD j.toNat default).fixed)
def aM8 (s:Str) (l:List Int) (q:List RT) (j:Int):List (Option Rat):=if aJB s l q j=true then [(fX s l (aM q) j.toNat).map (- ·),(fY s l (aM q) j.toNat).map (- ·)] else [none]

def idx (js:List J) (i:Nat):Nat:=(cH js i).length
def fxd (js:List J) (i:Nat):Bool:=(js.getD i default).fixed
def dAt (js:List J) (d:List (Option Rat)) (t p:Nat):Option Rat:=if fxd js (p / 2)=true then some 0 else if idx js (p / 2)<t then d.getD (2*idx js (p / 2)+p % 2) none else some 0
def dsp (js:List J) (d:List (Option Rat)) (t:Nat):List (Option Rat):=(List.range (2*js.length)).map (dAt js d t)
def aM9 (js:List J) (d:List (Option Rat)):List (Option Rat):=dsp js d (aF js).length
def dX (js:List J) (d:List (Option Rat)) (i:Nat):Option Rat:=if fxd js i=true then some 0 else d.getD (2*idx js i) none
def dY (js:List J) (d:List (Option Rat)) (i:Nat):Option Rat:=if fxd js i=true then some 0 else d.getD (2*idx js i+1) none
theorem Lk {d:List (Option Rat)} (hd:okL d) (i:Nat):okQ (d.getD i none):=by
 rcases Nat.lt_or_ge i d.length with h | h
 ·rw[lM _ _ _ h];exact hd _ (List.getElem_mem h)
 ·rw[List.getD_eq_getElem?_getD,List.getElem?_eq_none h];exact fun _ e=>by cases e
def Nu (s:Str) (d:List RT):Bool:=(sOk s && decide (d.length=2*(aF s.js).length))&& eS d

def aMP (s:Str) (k:Int):Int:=IntKind.i64.wrap (IntKind.i64.wrap (aDE s k*aDE s k)+IntKind.i64.wrap (aBE s k*aBE s k))

def lat (l:List Int) (i:Nat):Int:=l.getD i 0
theorem tF {l:List Int} {i:Nat} (h:i<l.length):(iv l)[i]? =some [.int .i64 (lat l i)]:=by simp[lat,h]
structure LOk (s : Str) (l : List Int) : Prop where
 sok:SOk s
 n:l.length=2*s.js.length
 f: ∀i,i<l.length→ -100≤lat l i∧lat l i≤100
theorem jK {js:List J} {l:List Int} (h:eM js l=true):l.length=2*js.length∧ ∀i,i<l.length→ -100≤lat l i∧lat l i≤100:=by
 unfold eM at h
 simp only[Bool.and_eq_true,decide_eq_true_eq] at h
 refine⟨h.1,fun i hi=> ?_⟩
 have:=List.all_eq_true.1 h.2 l[i] (List.getElem_mem hi)
 simp[fJ] at this
 simpa [lat,hi] using this
theorem pH {s:Str} {l:List Int} (h:lOk s l=true):LOk s l:=by
 unfold lOk at h
 simp only[Bool.and_eq_true] at h
 obtain⟨h1,h2⟩:=jK h.2
 exact⟨pP h.1,h1,h2⟩
def sumX (l:List Int):Nat→Int
 | 0 => 0
 | n + 1 => sumX l n + lat l (2 * n)
def aCI (l:List Int):Nat→Int
 | 0 => 0
 | n + 1 => aCI l n + lat l (2 * n + 1)
def aNN (s:Str) (l:List Int):Int:=if lOk s l=true then sumX l s.js.length else 0
def aNH (s:Str) (l:List Int):Int:=if lOk s l=true then aCI l s.js.length else 0
def Pb (s:Str) (l:List Int) (x y:Int):Nat→Int
 | 0 => 0
 | n + 1 => Pb s l x y n + ((jat s.js n).x - x) * lat l (2 * n + 1) - ((jat s.js n).y - y) * lat l (2 * n)
theorem Rp {a b p q:Int} (ha: -p≤a∧a≤p) (hb: -q≤b∧b≤q): -(p*q)≤a*b∧a*b≤p*q:=by
 have hp:0≤p:=by omega
 have hq:0≤q:=by omega
 have h1:a.natAbs≤p.natAbs:=by omega
 have h2:b.natAbs≤q.natAbs:=by omega
 have h3:(a*b).natAbs≤(p*q).natAbs:=by rw[Int.natAbs_mul,Int.natAbs_mul];exact Nat.mul_le_mul h1 h2
 have h4:0≤p*q:=Int.mul_nonneg hp hq
 omega
def aC9 (s:Str) (l:List Int) (x y:Int):Bool:=lOk s l && (decide (-1000≤x)&& decide (x≤1000))&& (decide (-1000≤y)&& decide (y≤1000))
def aK5 (s:Str) (l:List Int) (x y:Int):Int:=if aC9 s l x y=true then Pb s l x y s.js.length else 0

theorem xK (l:List Int) (k:Int) (hl:l.length≤140737488351232):RO Tryz.prog 281 [.sl (iv l),.int .i64 k] (.int .i64 (ixf (fun x=>decide (k=x)) l)):=by
 refine aK Tryz.func281 rfl rfl (by rw[Tryz.ntmps281];simp) fun bl=> ?_
 rw[Tryz.ntmps281,Tryz.results281]
 refine aC ?_
 simp
 refine aL (fun i:Nat=> [(0,.sl (iv l)),(1,.int .i64 k),(7,.int .i64 l.length),(8,.int .i64 i)]) (fun _=>bl) (fun i=>i≤l.length∧ ∀j (h1:j<l.length),j<i→decide (k=l[j])=false) (fun i=>l.length - i) _ 0 ⟨Nat.zero_le _,fun j _ h0=>by omega⟩ ⟨rfl,by simp,Sub.refl _⟩ ?_
 intro i ⟨hi,hc⟩
 refine aC ?_
 simp
 refine⟨fun h1=> ?_,fun h1=> ?_⟩
 ·simp[h1]
  refine⟨fun h2=> ?_,fun h2=> ?_⟩
  ·exact aS (by rw[mT (p:=fun x=>decide (k=x)) h1 hc (by simpa using h2)];simp) rfl rfl
  ·simp (disch:=omega) [i64_in,aB]
   refine⟨i+1,⟨by omega,fun j hj1 hji=> ?_⟩,by omega,rfl,by simp,Sub.refl _⟩
   rcases Nat.lt_or_ge j i with hlt | hge
   ·simpa using hc j hj1 hlt
   ·obtain rfl:j=i:=by omega
    simpa using h2
 ·exact aS (by rw[qS (p:=fun x=>decide (k=x)) fun j hj=>hc j hj (by omega)];simp) rfl rfl
theorem any_eq (l:List Int) (k:Int):(l.any fun x=>decide (k=x))=decide (k∈l):=by
 rw[Bool.eq_iff_iff];simp
theorem sM (l:List Int) (k:Int) (hl:l.length≤140737488351232):RO Tryz.prog 255 [.sl (iv l),.int .i64 k] (.bool (decide (k∈l))):=by
 refine aK Tryz.func255 rfl rfl (by rw[Tryz.ntmps255];simp) fun bl=> ?_
 rw[Tryz.ntmps255,Tryz.results255]
 refine aC ?_
 simp
 refine aD (xK l k hl) ?_
 simp
 exact aS (by simp[T2,any_eq]) rfl rfl

def Rm (ms:List Mb) (l:List Int) (n:Nat):List Mb:=((List.range n).filter fun(i:Nat)=> !decide ((i:Int)∈l)).map fun(i:Nat)=>ms.getD i default
def aHJ (s:Str) (l:List Int):Str:=⟨s.js,Rm s.ms l s.ms.length⟩

end Go.Proofs.YticmgmemnpcbbaaGreat.Vm

namespace Go.Proofs.YticmgmemnpcbbaaGreat.Vm
open Go Go.Proofs
set_option linter.unusedSimpArgs false
set_option linter.unusedVariables false
def ivv (ws:List (List Int)):List (List V):=ws.map fun w=> [.sl (iv w)]
def dII (ws:List (List Int)):D:= .s 1 (ws.map fun w=> [fl 1 (iv w)])
@[simp] theorem Po (ws : List (List Int)) : (ivv ws).length = ws.length := by simp [ivv]
@[simp] theorem aEI (ws : List (List Int)) (i : Nat) (h : i < (ivv ws).length) : (ivv ws)[i] = [.sl (iv (ws[i]'(by simpa using h)))] := by simp [ivv]
theorem Ud (ws:List (List Int)):(dII ws).fz= .sl (ivv ws):=by
 unfold dII ivv
 rw[D.fz,tZ,List.map_map]
 congr 1
 exact List.map_congr_left fun w _=>by simp
theorem Lv (ws:List (List Int)):(dII ws).dep 2:=by
 unfold dII
 rw[D.dep]
 refine⟨by omega,?_⟩
 induction ws with
 | nil => simp [D.depR]
 | cons w ws ih => simp [D.depR, D.depL, jF] at ih ⊢; exact ih

def cV (s:Str) (j:Int):List Int:=s.ms.map (eqX s j)
def cW (s:Str) (j:Int):List Int:=s.ms.map (eqY s j)
def dM (s:Str):List (List Int):=(aF s.js).flatMap fun j=> [cV s j,cW s j]
def vN (s:Str) (n:Nat):List (List Int):=((aF s.js).take n).flatMap fun j=> [cV s j,cW s j]
theorem zC (s:Str) (n:Nat) (h:n<(aF s.js).length):vN s (n+1)=vN s n++ [cV s (aF s.js)[n],cW s (aF s.js)[n]]:=by
 unfold vN
 rw[List.take_add_one,List.getElem?_eq_getElem h,List.flatMap_append]
 simp
theorem mY (s:Str): ∀n,n≤(aF s.js).length→(vN s n).length=2*n
 | 0, _ => by simp [vN]
 | n + 1, h => by
   rw[zC s n (by omega),List.length_append,mY s n (by omega)]
   simp;omega
@[simp] theorem mC (s : Str) (j : Int) : (cV s j).length = s.ms.length := by simp [cV]
@[simp] theorem nE (s : Str) (j : Int) : (cW s j).length = s.ms.length := by simp [cW]
theorem B5 {s:Str} {k:Nat} (h:k<s.ms.length):mat s k=s.ms[k]:=by simp[mat,h]
theorem Hs {s:Str} (hs:SOk s) {m:Mb} (hm:m∈s.ms):(-100≤vx s m∧vx s m≤100)∧(-100≤vy s m∧vy s m≤100):=by
 obtain⟨⟨a1,a2⟩,⟨b1,b2⟩⟩:=hs.ix _ hm
 have ca:=hs.at a1 a2
 have cb:=hs.at b1 b2
 unfold vx vy
 omega
structure Pc where
 i:Nat
 g:Int
 els:List (List V)
 gs:List Int
 b:Int→Option Blk
theorem iW (xs:List (List V)) (z:List V) (i:Nat) (h:i<xs.length) (hz:xs[i]=z):part xs z i=part xs z (i+1):=by
 rw[←bZ xs z i h z hz.symm]
 have:=dZ xs z i h
 apply List.ext_getElem?
 intro j
 rw[List.getElem?_set]
 split
 ·rename_i e;subst e;rw[if_pos (by rw[mO];exact h)];exact this
 ·rfl
def Fk (bl:Int→Option Blk) (s:Str) (p:Pc):Prop:=
 p.i≤(aF s.js).length∧p.b p.g=some ⟨1,p.els⟩∧p.els.length=2*p.i∧OwnR p.b 1 ((vN s p.i).map fun w=> [fl 1 (iv w)]) p.els p.gs∧p.g∉p.gs∧bl p.g=none∧(∀x,x∈p.gs→bl x=none)∧Sub bl p.b∧(p.g<0→p.els= [])
theorem pK {bl:Int→Option Blk} {s:Str} {i:Nat} {g:Int} {els:List (List V)} {gs:List Int} {b:Int→Option Blk} (H:Fk bl s ⟨i,g,els,gs,b⟩) (h:i<(aF s.js).length)
  {ga gb gp gn:Int} (hga:0≤ga) (hba:b ga=none) (hgb:0≤gb) (hab: ¬gb=ga) (hbb:b gb=none) (hpa: ¬gp=ga) (hpb: ¬gp=gb) (hbp:b gp=none) (hgn:0≤gn)
  (hbn: ¬gn=g→ ¬gn=gp∧ ¬gn=gb∧ ¬gn=ga∧b gn=none):
  Fk bl s ⟨i+1,gn,els++ [[.lsl ga 1 0 s.ms.length]]++ [[.lsl gb 1 0 s.ms.length]],gs++ [ga]++ [gb],
   upd (rem (upd (upd (upd b ga (some ⟨1,iv (cV s (aF s.js)[i])⟩)) gb (some ⟨1,iv (cW s (aF s.js)[i])⟩)) gp (some ⟨1,[[.lsl ga 1 0 s.ms.length],[.lsl gb 1 0 s.ms.length]]⟩)) g) gn
    (some ⟨1,els.take (2*i)++ [[.lsl ga 1 0 s.ms.length],[.lsl gb 1 0 s.ms.length]]⟩)⟩:=by
 obtain⟨hi,hb,hel,ho,hn,hg,hf,hsb,cD⟩:=H
 simp only at hi hb hel ho hn hg hf hsb cD
 have nga:ga≠g:=fun e=>by rw[e,hb] at hba;cases hba
 have ngb:gb≠g:=fun e=>by rw[e,hb] at hbb;cases hbb
 have ngp:gp≠g:=fun e=>by rw[e,hb] at hbp;cases hbp
 have fa:=cM hsb hba
 have fb:=cM hsb hbb
 have fp:=cM hsb hbp
 have na:gn≠ga:=fun e=>by
  by_cases c:gn=g
  ·exact nga (e.symm.trans c)
  ·exact(hbn c).2.2.1 e
 have nb:gn≠gb:=fun e=>by
  by_cases c:gn=g
  ·exact ngb (e.symm.trans c)
  ·exact(hbn c).2.1 e
 have fn:bl gn=none:=by
  by_cases c:gn=g
  ·rw[c];exact hg
  ·exact cM hsb (hbn c).2.2.2
 have nn:gn∉gs:=by
  by_cases c:gn=g
  ·rw[c];exact hn
  ·exact ho.not (hbn c).2.2.2
 have key: ∀(B:Int→Option Blk) (u v w z:Option Blk),B=upd (rem (upd (upd (upd b ga u) gb v) gp w) g) gn z→ ∀x y,x≠g→x≠gn→b x=some y→B x=some y:=by
  intro B u v w z hB x y c1 c2 hx
  have c3:x≠ga:=fun e=>by rw[e,hba] at hx;cases hx
  have c4:x≠gb:=fun e=>by rw[e,hbb] at hx;cases hx
  have c5:x≠gp:=fun e=>by rw[e,hbp] at hx;cases hx
  rw[hB];simp[c1,c2,c3,c4,c5,hx]
 have vx1: ∀xs:List Int,(iv xs).all (fun r=>r.all V.cl)=true:=fun xs=>by simp[iv,V.cl]
 have vx2: ∀(xs:List Int) r,r∈iv xs→r.length=1:=fun xs r hr=>by
  simp[iv] at hr
  obtain⟨_,_,rfl⟩:=hr;rfl
 have et:els.take (2*i)=els:=List.take_of_length_le (by omega)
 refine⟨by simp only;omega,by simp[et],by simp[hel];omega,?_,?_,fn,?_,?_,fun e=>by simp only at e;omega⟩
 ·simp only
  rw[zC s i h,List.map_append,show(∀(A:List (List D)) (x y:List Int),A++ [x,y].map (fun w=> [fl 1 (iv w)])=A++ [[fl 1 (iv x)]]++ [[fl 1 (iv y)]]) from fun A x y=>by simp]
  generalize hB:upd (rem (upd (upd (upd b ga (some ⟨1,iv (cV s (aF s.js)[i])⟩)) gb (some ⟨1,iv (cW s (aF s.js)[i])⟩)) gp (some ⟨1,[[.lsl ga 1 0 s.ms.length],[.lsl gb 1 0 s.ms.length]]⟩)) g) gn
    (some ⟨1,els.take (2*i)++ [[.lsl ga 1 0 s.ms.length],[.lsl gb 1 0 s.ms.length]]⟩)=B
  have o0:=ho.fV fun x hx y hy=>key _ _ _ _ _ hB.symm x y (fun e=>hn (e▸hx)) (fun e=>nn (e▸hx)) hy
  have oa:OwnD B (fl 1 (iv (cV s (aF s.js)[i]))) (.lsl ga 1 0 s.ms.length) [ga]:=(uM (vx1 _) (vx2 _)).2 (.inr ⟨ga,by simp,rfl,by rw[←hB];simp[Ne.symm na,Ne.symm hpa,Ne.symm hab,nga],by omega⟩)
  have ob:OwnD B (fl 1 (iv (cW s (aF s.js)[i]))) (.lsl gb 1 0 s.ms.length) [gb]:=(uM (vx1 _) (vx2 _)).2 (.inr ⟨gb,by simp,rfl,by rw[←hB];simp[Ne.symm nb,Ne.symm hpb,ngb],by omega⟩)
  refine OwnR.snoc (kV.2 ob) rfl (by simp) (OwnR.snoc (kV.2 oa) rfl (by simp) o0 ?_) ?_
  ·intro x hx hx2
   rw[List.mem_singleton] at hx2
   exact ho.not hba (hx2▸hx)
  ·intro x hx hx2
   rw[List.mem_singleton] at hx2
   subst hx2
   rcases List.mem_append.1 hx with hx | hx
   ·exact ho.not hbb hx
   ·rw[List.mem_singleton] at hx;exact hab hx
 ·simp[nn,na,nb]
 ·intro x hx
  simp at hx
  rcases hx with hx | hx | hx
  ·exact hf x hx
  ·rw[hx];exact fa
  ·rw[hx];exact fb
 ·intro x y hx
  exact key _ _ _ _ _ rfl x y (fun e=>by rw[e,hg] at hx;cases hx) (fun e=>by rw[e,fn] at hx;cases hx) (hsb x y hx)
set_option maxHeartbeats 2000000 in
theorem uJ (s:Str) (hs:SOk s):NW Tryz.prog 148 [.ptr s.c] (dII (dM s)):=by
 have h6:=hs.nj
 have h8:=hs.nm
 have hfr:=kY s.js s.js.length
 change(aF s.js).length≤s.js.length at hfr
 refine fZ Tryz.func148 rfl rfl (by rw[Tryz.ntmps148];simp) fun bl=> ?_
 rw[Tryz.ntmps148,Tryz.results148]
 refine aC ?_
 simp
 refine aD (jW s (by omega)) ?_
 simp
 refine rE 3 1 (by simp) fun g00 rV=> ?_
 simp at rV
 refine aL (fun p:Pc=> [(0,.ptr s.c),(3,.lsl p.g 1 0 (2*p.i)),(13,.sl (iv (aF s.js))),(14,.int .i64 (aF s.js).length),(15,.int .i64 p.i)]) (fun p=>p.b)
  (Fk bl s)
  (fun p=>(aF s.js).length - p.i) 82 ⟨0,g00,[],[],upd bl g00 (some ⟨1,[]⟩)⟩ ⟨Nat.zero_le _,by simp,rfl,by simp[vN,OwnR],by simp,rV,by simp,by simp[rV],fun _=>rfl⟩ ⟨rfl,by simp,by simp⟩ ?_
 rintro⟨i,g,els,gs,b⟩ ⟨hi,hb,hel,ho,hn,hg,hf,hsb,cD⟩
 simp only at hi hb hel ho hn hg hf hsb cD
 refine aC ?_
 simp
 refine⟨fun h=> ?_,fun h=> ?_⟩
 ·have q:=eY (aF s.js) i h
  simp[h]
  obtain⟨j,hj⟩: ∃j,(aF s.js)[i]=j:=⟨_,rfl⟩
  rw[hj]
  refine I5 aO [0,1,2,3,4,6,7,8,9,10] 4 (by kernel_rfl) ?_
  simp[Str.c]
  refine vU (i:=5) (j:=11) (by kernel_rfl) rfl rfl rfl rfl ?_ ?_
  ·simp
   refine⟨by omega,by unfold maxLen;omega,fun ga hga hba=>⟨by simp[hba],?_⟩⟩
   refine vU (i:=11) (j:=12) (by kernel_rfl) rfl rfl rfl rfl ?_ ?_
   ·simp
    refine⟨by omega,by unfold maxLen;omega,fun gb hgb hab hbb=>⟨by simp[hba,hbb,hab],?_⟩⟩
    refine Dz 12 ?_
    simp
    refine⟨by simp[hba,hbb,hab],Dz 13 ?_⟩
    simp
    refine⟨by simp[hba,hbb,hab],Dy ?_⟩
    simp[Str.c]
    have nga:ga≠g:=fun e=>by rw[e,hb] at hba;cases hba
    have ngb:gb≠g:=fun e=>by rw[e,hb] at hbb;cases hbb
    have fa:=cM hsb hba
    have fb:=cM hsb hbb
    have er:List.replicate s.ms.length [V.int IntKind.i64 0]=part (iv (cV s j)) [.int .i64 0] 0:=by simp
    have er':List.replicate s.ms.length [V.int IntKind.i64 0]=part (iv (cW s j)) [.int .i64 0] 0:=by simp
    refine aL (fun k:Nat=> [(0,.ptr s.c),(3,.lsl g 1 0 (2*i)),(5,.int .i64 j),(6,.lsl ga 1 0 s.ms.length),(7,.lsl gb 1 0 s.ms.length),(13,.sl (iv (aF s.js))),(14,.int .i64 (aF s.js).length),(15,.int .i64 i),(34,.sl (mv s.ms)),(35,.int .i64 s.ms.length),(36,.int .i64 k)])
     (fun k=>upd (upd b ga (some ⟨1,part (iv (cV s j)) [.int .i64 0] k⟩)) gb (some ⟨1,part (iv (cW s j)) [.int .i64 0] k⟩)) (fun k=>k≤s.ms.length) (fun k=>s.ms.length - k) 82 0 (Nat.zero_le _) ⟨rfl,by simp[Str.c],?_⟩ ?_
    ·intro x y hx
     simp only[aA,sE,iA,mC,nE] at hx ⊢
     grind
    intro k hk
    refine aC ?_
    simp
    refine⟨fun hkl=> ?_,fun hkl=> ?_⟩
    ·have hv:=Hs hs (List.getElem_mem hkl)
     have hm:mat s (k:Int)=s.ms[k]:=B5 hkl
     have M3:=nY s k hs (by omega) (by omega)
     rw[hm] at M3
     have hx:k<(iv (cV s j)).length:=by simpa using hkl
     have hy:k<(iv (cW s j)).length:=by simpa using hkl
     have w1:IntKind.i64.wrap ((k:Int)+1)=k+1:=i64_in (by omega) (by omega)
     have nx:IntKind.i64.wrap (-vx s s.ms[k])= -vx s s.ms[k]:=i64_in (by omega) (by omega)
     have ny:IntKind.i64.wrap (-vy s s.ms[k])= -vy s s.ms[k]:=i64_in (by omega) (by omega)
     have px:=dZ (iv (cV s j)) [.int .i64 0] k hx
     have py:=dZ (iv (cW s j)) [.int .i64 0] k hy
     simp[hkl,Mb.c]
     intro g9 hg9 h9b h9a hb9
     refine aD M3 ?_
     simp
     refine⟨fun e1=> ?_,fun e1=> ?_⟩
     ·simp[hab,Ne.symm hab,h9a,h9b,Ne.symm h9a,Ne.symm h9b,hkl,px,py,w1,aB]
      have sx:=bZ (iv (cV s j)) [.int .i64 0] k hx [.int .i64 (vx s s.ms[k])] (by simp[cV,eqX,e1])
      have sy:=bZ (iv (cW s j)) [.int .i64 0] k hy [.int .i64 (vy s s.ms[k])] (by simp[cW,eqY,e1])
      refine⟨k+1,by omega,by omega,rfl,by simp,?_⟩
      intro x y hx'
      rw[←sx,←sy] at hx'
      simp only[aA] at hx' ⊢
      grind
     ·simp[hab,Ne.symm hab,h9a,h9b,Ne.symm h9a,Ne.symm h9b,hkl,px,py,w1,nx,ny,aB]
      refine⟨fun e2=> ?_,fun e2=> ?_⟩
      ·have fx:eqX s j s.ms[k]= -vx s s.ms[k]:=by rw[eqX,if_neg e1,if_pos e2]
       have fy:eqY s j s.ms[k]= -vy s s.ms[k]:=by rw[eqY,if_neg e1,if_pos e2]
       have sx:=bZ (iv (cV s j)) [.int .i64 0] k hx [.int .i64 (-vx s s.ms[k])] (by simp[cV,fx])
       have sy:=bZ (iv (cW s j)) [.int .i64 0] k hy [.int .i64 (-vy s s.ms[k])] (by simp[cW,fy])
       refine⟨k+1,by omega,by omega,rfl,by simp,?_⟩
       intro x y hx'
       rw[←sx,←sy] at hx'
       simp only[aA] at hx' ⊢
       grind
      ·have sx:=iW (iv (cV s j)) [.int .i64 0] k hx (by simp[cV,eqX,e1,e2])
       have sy:=iW (iv (cW s j)) [.int .i64 0] k hy (by simp[cW,eqY,e1,e2])
       refine⟨k+1,by omega,by omega,rfl,by simp,?_⟩
       intro x y hx'
       rw[←sx,←sy] at hx'
       simp only[aA] at hx' ⊢
       grind
    ·have:k=s.ms.length:=by omega
     subst this
     rw[fD _ _ _ (by simp),fD _ _ _ (by simp)]
     intro gp hgp hpb hpa hbp
     have npg:gp≠g:=fun e=>by rw[e,hb] at hbp;cases hbp
     have er2:List.range 2= [0,1]:=rfl
     simp[er2,appV,elsV,Int.not_lt.2 hgp,hpb,hpa,Ne.symm hpb,Ne.symm hpa,nga,ngb,Ne.symm nga,Ne.symm ngb,npg,Ne.symm npg,hb,hel]
     refine⟨by omega,fun gn hgn hbn=> ?_⟩
     have w9:IntKind.i64.wrap ((i:Int)+1)=i+1:=i64_in (by omega) (by omega)
     rw[aB]
     subst hj
     have nx:=pK ⟨hi,hb,hel,ho,hn,hg,hf,hsb,cD⟩ h hga hba hgb hab hbb hpa hpb hbp hgn hbn
     refine⟨_,nx,by simp only;omega,rfl,?_,sub_eq rfl⟩
     simp[w9];exact⟨rfl,by omega⟩
   ·simp
    refine⟨by simp[hba],Dz 11 ?_⟩
    simp
    refine⟨by omega,by unfold maxLen;omega,fun gb hgb hab hbb=>⟨by simp[hba,hbb,hab],?_⟩⟩
    refine Dz 13 ?_
    simp
    refine⟨by simp[hba,hbb,hab],Dy ?_⟩
    simp[Str.c]
    have nga:ga≠g:=fun e=>by rw[e,hb] at hba;cases hba
    have ngb:gb≠g:=fun e=>by rw[e,hb] at hbb;cases hbb
    have fa:=cM hsb hba
    have fb:=cM hsb hbb
    have er:List.replicate s.ms.length [V.int IntKind.i64 0]=part (iv (cV s j)) [.int .i64 0] 0:=by simp
    have er':List.replicate s.ms.length [V.int IntKind.i64 0]=part (iv (cW s j)) [.int .i64 0] 0:=by simp
    refine aL (fun k:Nat=> [(0,.ptr s.c),(3,.lsl g 1 0 (2*i)),(5,.int .i64 j),(6,.lsl ga 1 0 s.ms.length),(7,.lsl gb 1 0 s.ms.length),(13,.sl (iv (aF s.js))),(14,.int .i64 (aF s.js).length),(15,.int .i64 i),(34,.sl (mv s.ms)),(35,.int .i64 s.ms.length),(36,.int .i64 k)])
     (fun k=>upd (upd b ga (some ⟨1,part (iv (cV s j)) [.int .i64 0] k⟩)) gb (some ⟨1,part (iv (cW s j)) [.int .i64 0] k⟩)) (fun k=>k≤s.ms.length) (fun k=>s.ms.length - k) 82 0 (Nat.zero_le _) ⟨rfl,by simp[Str.c],?_⟩ ?_
    ·intro x y hx
     simp only[aA,sE,iA,mC,nE] at hx ⊢
     grind
    intro k hk
    refine aC ?_
    simp
    refine⟨fun hkl=> ?_,fun hkl=> ?_⟩
    ·have hv:=Hs hs (List.getElem_mem hkl)
     have hm:mat s (k:Int)=s.ms[k]:=B5 hkl
     have M3:=nY s k hs (by omega) (by omega)
     rw[hm] at M3
     have hx:k<(iv (cV s j)).length:=by simpa using hkl
     have hy:k<(iv (cW s j)).length:=by simpa using hkl
     have w1:IntKind.i64.wrap ((k:Int)+1)=k+1:=i64_in (by omega) (by omega)
     have nx:IntKind.i64.wrap (-vx s s.ms[k])= -vx s s.ms[k]:=i64_in (by omega) (by omega)
     have ny:IntKind.i64.wrap (-vy s s.ms[k])= -vy s s.ms[k]:=i64_in (by omega) (by omega)
     have px:=dZ (iv (cV s j)) [.int .i64 0] k hx
     have py:=dZ (iv (cW s j)) [.int .i64 0] k hy
     simp[hkl,Mb.c]
     intro g9 hg9 h9b h9a hb9
     refine aD M3 ?_
     simp
     refine⟨fun e1=> ?_,fun e1=> ?_⟩
     ·simp[hab,Ne.symm hab,h9a,h9b,Ne.symm h9a,Ne.symm h9b,hkl,px,py,w1,aB]
      have sx:=bZ (iv (cV s j)) [.int .i64 0] k hx [.int .i64 (vx s s.ms[k])] (by simp[cV,eqX,e1])
      have sy:=bZ (iv (cW s j)) [.int .i64 0] k hy [.int .i64 (vy s s.ms[k])] (by simp[cW,eqY,e1])
      refine⟨k+1,by omega,by omega,rfl,by simp,?_⟩
      intro x y hx'
      rw[←sx,←sy] at hx'
      simp only[aA] at hx' ⊢
      grind
     ·simp[hab,Ne.symm hab,h9a,h9b,Ne.symm h9a,Ne.symm h9b,hkl,px,py,w1,nx,ny,aB]
      refine⟨fun e2=> ?_,fun e2=> ?_⟩
      ·have fx:eqX s j s.ms[k]= -vx s s.ms[k]:=by rw[eqX,if_neg e1,if_pos e2]
       have fy:eqY s j s.ms[k]= -vy s s.ms[k]:=by rw[eqY,if_neg e1,if_pos e2]
       have sx:=bZ (iv (cV s j)) [.int .i64 0] k hx [.int .i64 (-vx s s.ms[k])] (by simp[cV,fx])
       have sy:=bZ (iv (cW s j)) [.int .i64 0] k hy [.int .i64 (-vy s s.ms[k])] (by simp[cW,fy])
       refine⟨k+1,by omega,by omega,rfl,by simp,?_⟩
       intro x y hx'
       rw[←sx,←sy] at hx'
       simp only[aA] at hx' ⊢
       grind
      ·have sx:=iW (iv (cV s j)) [.int .i64 0] k hx (by simp[cV,eqX,e1,e2])
       have sy:=iW (iv (cW s j)) [.int .i64 0] k hy (by simp[cW,eqY,e1,e2])
       refine⟨k+1,by omega,by omega,rfl,by simp,?_⟩
       intro x y hx'
       rw[←sx,←sy] at hx'
       simp only[aA] at hx' ⊢
       grind
    ·have:k=s.ms.length:=by omega
     subst this
     rw[fD _ _ _ (by simp),fD _ _ _ (by simp)]
     intro gp hgp hpb hpa hbp
     have npg:gp≠g:=fun e=>by rw[e,hb] at hbp;cases hbp
     have er2:List.range 2= [0,1]:=rfl
     simp[er2,appV,elsV,Int.not_lt.2 hgp,hpb,hpa,Ne.symm hpb,Ne.symm hpa,nga,ngb,Ne.symm nga,Ne.symm ngb,npg,Ne.symm npg,hb,hel]
     refine⟨by omega,fun gn hgn hbn=> ?_⟩
     have w9:IntKind.i64.wrap ((i:Int)+1)=i+1:=i64_in (by omega) (by omega)
     rw[aB]
     subst hj
     have nx:=pK ⟨hi,hb,hel,ho,hn,hg,hf,hsb,cD⟩ h hga hba hgb hab hbb hpa hpb hbp hgn hbn
     refine⟨_,nx,by simp only;omega,rfl,?_,sub_eq rfl⟩
     simp[w9];exact⟨rfl,by omega⟩
  ·simp
   refine⟨by omega,by unfold maxLen;omega,fun gb hgb hbb=>⟨by simp[hbb],?_⟩⟩
   refine Dz 5 ?_
   simp
   refine⟨by omega,by unfold maxLen;omega,fun ga hga hab hba=>⟨by simp[hba,hbb,hab],?_⟩⟩
   refine Dz 12 ?_
   simp
   refine⟨by simp[hba,hbb,hab],Dz 13 ?_⟩
   simp
   refine⟨by simp[hba,hbb,hab],Dy ?_⟩
   simp[Str.c]
   have nga:ga≠g:=fun e=>by rw[e,hb] at hba;cases hba
   have ngb:gb≠g:=fun e=>by rw[e,hb] at hbb;cases hbb
   have fa:=cM hsb hba
   have fb:=cM hsb hbb
   have er:List.replicate s.ms.length [V.int IntKind.i64 0]=part (iv (cV s j)) [.int .i64 0] 0:=by simp
   have er':List.replicate s.ms.length [V.int IntKind.i64 0]=part (iv (cW s j)) [.int .i64 0] 0:=by simp
   refine aL (fun k:Nat=> [(0,.ptr s.c),(3,.lsl g 1 0 (2*i)),(5,.int .i64 j),(6,.lsl ga 1 0 s.ms.length),(7,.lsl gb 1 0 s.ms.length),(13,.sl (iv (aF s.js))),(14,.int .i64 (aF s.js).length),(15,.int .i64 i),(34,.sl (mv s.ms)),(35,.int .i64 s.ms.length),(36,.int .i64 k)])
    (fun k=>upd (upd b ga (some ⟨1,part (iv (cV s j)) [.int .i64 0] k⟩)) gb (some ⟨1,part (iv (cW s j)) [.int .i64 0] k⟩)) (fun k=>k≤s.ms.length) (fun k=>s.ms.length - k) 82 0 (Nat.zero_le _) ⟨rfl,by simp[Str.c],?_⟩ ?_
   ·intro x y hx
    simp only[aA,sE,iA,mC,nE] at hx ⊢
    grind
   intro k hk
   refine aC ?_
   simp
   refine⟨fun hkl=> ?_,fun hkl=> ?_⟩
   ·have hv:=Hs hs (List.getElem_mem hkl)
    have hm:mat s (k:Int)=s.ms[k]:=B5 hkl
    have M3:=nY s k hs (by omega) (by omega)
    rw[hm] at M3
    have hx:k<(iv (cV s j)).length:=by simpa using hkl
    have hy:k<(iv (cW s j)).length:=by simpa using hkl
    have w1:IntKind.i64.wrap ((k:Int)+1)=k+1:=i64_in (by omega) (by omega)
    have nx:IntKind.i64.wrap (-vx s s.ms[k])= -vx s s.ms[k]:=i64_in (by omega) (by omega)
    have ny:IntKind.i64.wrap (-vy s s.ms[k])= -vy s s.ms[k]:=i64_in (by omega) (by omega)
    have px:=dZ (iv (cV s j)) [.int .i64 0] k hx
    have py:=dZ (iv (cW s j)) [.int .i64 0] k hy
    simp[hkl,Mb.c]
    intro g9 hg9 h9b h9a hb9
    refine aD M3 ?_
    simp
    refine⟨fun e1=> ?_,fun e1=> ?_⟩
    ·simp[hab,Ne.symm hab,h9a,h9b,Ne.symm h9a,Ne.symm h9b,hkl,px,py,w1,aB]
     have sx:=bZ (iv (cV s j)) [.int .i64 0] k hx [.int .i64 (vx s s.ms[k])] (by simp[cV,eqX,e1])
     have sy:=bZ (iv (cW s j)) [.int .i64 0] k hy [.int .i64 (vy s s.ms[k])] (by simp[cW,eqY,e1])
     refine⟨k+1,by omega,by omega,rfl,by simp,?_⟩
     intro x y hx'
     rw[←sx,←sy] at hx'
     simp only[aA] at hx' ⊢
     grind
    ·simp[hab,Ne.symm hab,h9a,h9b,Ne.symm h9a,Ne.symm h9b,hkl,px,py,w1,nx,ny,aB]
     refine⟨fun e2=> ?_,fun e2=> ?_⟩
     ·have fx:eqX s j s.ms[k]= -vx s s.ms[k]:=by rw[eqX,if_neg e1,if_pos e2]
      have fy:eqY s j s.ms[k]= -vy s s.ms[k]:=by rw[eqY,if_neg e1,if_pos e2]
      have sx:=bZ (iv (cV s j)) [.int .i64 0] k hx [.int .i64 (-vx s s.ms[k])] (by simp[cV,fx])
      have sy:=bZ (iv (cW s j)) [.int .i64 0] k hy [.int .i64 (-vy s s.ms[k])] (by simp[cW,fy])
      refine⟨k+1,by omega,by omega,rfl,by simp,?_⟩
      intro x y hx'
      rw[←sx,←sy] at hx'
      simp only[aA] at hx' ⊢
      grind
     ·have sx:=iW (iv (cV s j)) [.int .i64 0] k hx (by simp[cV,eqX,e1,e2])
      have sy:=iW (iv (cW s j)) [.int .i64 0] k hy (by simp[cW,eqY,e1,e2])
      refine⟨k+1,by omega,by omega,rfl,by simp,?_⟩
      intro x y hx'
      rw[←sx,←sy] at hx'
      simp only[aA] at hx' ⊢
      grind
   ·have:k=s.ms.length:=by omega
    subst this
    rw[fD _ _ _ (by simp),fD _ _ _ (by simp)]
    intro gp hgp hpb hpa hbp
    have npg:gp≠g:=fun e=>by rw[e,hb] at hbp;cases hbp
    have er2:List.range 2= [0,1]:=rfl
    simp[er2,appV,elsV,Int.not_lt.2 hgp,hpb,hpa,Ne.symm hpb,Ne.symm hpa,nga,ngb,Ne.symm nga,Ne.symm ngb,npg,Ne.symm npg,hb,hel]
    refine⟨by omega,fun gn hgn hbn=> ?_⟩
    have w9:IntKind.i64.wrap ((i:Int)+1)=i+1:=i64_in (by omega) (by omega)
    rw[aB]
    subst hj
    have nx:=pK ⟨hi,hb,hel,ho,hn,hg,hf,hsb,cD⟩ h hga hba hgb (Ne.symm hab) hbb hpa hpb hbp hgn hbn
    refine⟨_,nx,by simp only;omega,rfl,?_,sub_eq rfl⟩
    simp[w9];exact⟨rfl,by omega⟩
 ·have:i=(aF s.js).length:=by omega
  subst this
  refine cP [.lsl g 1 0 (2*(aF s.js).length)] (g::gs) (by simp) ?_ ?_ hsb
  ·unfold dII
   rw[OwnD]
   have e:dM s=vN s (aF s.js).length:=by simp[vN,dM]
   refine .inr ⟨g,els,gs,by rw[e,List.length_map,mY s _ (Nat.le_refl _)];rfl,rfl,hn,hb,cD,?_⟩
   rw[e];exact ho
  ·intro x hx
   rcases List.mem_cons.1 hx with rfl | hx
   ·exact hg
   ·exact hf x hx

def sA (m:Mb) (k:Nat):List (Int×Int):=(if m.kind=2 then [] else [((k:Int),1)])++(if m.kind=1 then [] else [((k:Int), -1)])
def cY (ms:List Mb) (n:Nat):List (Int×Int):=(List.range n).flatMap fun k=>sA (ms.getD k default) k
def bA (ms:List Mb):List (Int×Int):=cY ms ms.length
def cv (cs:List (Int×Int)):List (List V):=cs.map fun p=> [.int .i64 p.1,.int .i64 p.2]
theorem mW (ms:List Mb) (n:Nat):cY ms (n+1)=cY ms n++sA (ms.getD n default) n:=by
 unfold cY
 rw[List.range_succ,List.flatMap_append];simp
theorem Mj (m:Mb) (k:Nat):(sA m k).length≤2:=by
 unfold sA;split<;>split<;>simp
theorem kJ (ms:List Mb): ∀n,(cY ms n).length≤2*n
 | 0 => by simp [cY]
 | n + 1 => by
   rw[mW,List.length_append]
   have:=kJ ms n
   have:=Mj (ms.getD n default) n
   omega
theorem oG (a b:List (Int×Int)):cv (a++b)=cv a++cv b:=by simp[cv]
@[simp] theorem Bj (a : List (Int × Int)) : (cv a).length = a.length := by simp [cv]
theorem pM (a:List (Int×Int)):(cv a).take a.length=cv a:=by rw[←Bj a,List.take_length]
theorem aE1 (a:List (Int×Int)):(cv a).all (fun e=>e.all V.cl)=true:=by simp[cv,V.cl]
theorem Lu (a:List (Int×Int)): ∀r,r∈cv a→r.length=2:=by
 intro r hr
 obtain⟨n,_,rfl⟩:=List.mem_map.1 hr
 rfl
theorem Rf {bl:Int→Option Blk} {ns:List (Int×Int)} {v:V} {gs:List Int} :OwnD bl (fl 2 (cv ns)) v gs ↔ (ns= []∧v= .nils∧gs= [])∨ ∃g,v= .lsl g 2 0 ns.length∧gs= [g]∧bl g=some ⟨2,cv ns⟩∧(g<0→ns= []):=by
 rw[uM (aE1 ns) (Lu ns)]
 simp[cv]
theorem O1 (s:Str) (hm:s.ms.length≤8):NW Tryz.prog 146 [.ptr s.c] (fl 2 (cv (bA s.ms))):=by
 refine fZ Tryz.func146 rfl rfl (by rw[Tryz.ntmps146];simp) fun bl=> ?_
 rw[Tryz.ntmps146,Tryz.results146]
 refine aC ?_
 simp[Str.c]
 refine rE 3 2 (by simp) fun g00 rV=> ?_
 refine aL (fun p:Nat×Int=> [(3,.lsl p.2 2 0 (cY s.ms p.1).length),(9,.sl (mv s.ms)),(10,.int .i64 s.ms.length),(11,.int .i64 p.1)]) (fun p=>upd bl p.2 (some ⟨2,cv (cY s.ms p.1)⟩)) (fun p=>p.1≤s.ms.length∧bl p.2=none∧(p.2<0→cY s.ms p.1= [])) (fun p=>s.ms.length - p.1) _ (0,g00) ⟨Nat.zero_le _,rV,fun _=>rfl⟩ ⟨rfl,by simp[cY],sub_eq (by simp[cY,cv])⟩ ?_
 rintro⟨i,g⟩ ⟨hi,hg,h0⟩
 simp only at hi hg h0
 have hl:=kJ s.ms i
 refine aC ?_
 simp
 refine⟨fun h=> ?_,fun h=> ?_⟩
 ·have w1:IntKind.i64.wrap ((i:Int)+1)=i+1:=i64_in (by omega) (by omega)
  have hsc:=mW s.ms i
  rw[lM _ _ _ h] at hsc
  simp[h,Mb.c]
  intro g1 hg1 h1g hb1
  refine⟨fun hf=> ?_,fun hf=> ?_⟩
  ·intro g2 hg2 h21 h2g hb2
   simp[h1g,h21,h2g,Ne.symm h1g,Ne.symm h21,Ne.symm h2g,appV,elsV,Int.not_lt.2 hg2]
   refine⟨by omega,fun g3 hg3 hb3=> ?_⟩
   have h31:g3≠g1:=by grind
   have xE:bl g3=none:=by grind
   simp[h31,Ne.symm h31,h1g,h21,Ne.symm h1g,Ne.symm h21]
   refine⟨fun hf2=> ?_,fun hf2=> ?_⟩
   ·intro g4 hg4 h43 h42
    simp[h43,Ne.symm h43,h31,Ne.symm h31,appV,elsV,Int.not_lt.2 hg4]
    refine⟨by omega,fun g5 hg5 hb5=> ?_⟩
    have aJ8:bl g5=none:=by grind
    have hb4:bl g4=none:=by grind
    have hs1:cY s.ms (i+1)=cY s.ms i++ [((i:Int),1)]++ [((i:Int), -1)]:=by rw[hsc,sA,if_neg hf,if_neg hf2,List.append_assoc]
    simp[w1,aB]
    refine⟨i+1,g5,⟨by omega,aJ8,by omega⟩,by omega,rfl,by simp[hs1],?_⟩
    rw[hs1,oG,oG]
    exact lH (by rw[pM,List.take_of_length_le (by simp)];rfl) (by simp[hg,hb1,hb2,xE,hb4,h1g,h21,h2g])
   ·have hs1:cY s.ms (i+1)=cY s.ms i++ [((i:Int),1)]:=by rw[hsc,sA,if_neg hf,if_pos hf2,List.append_nil]
    simp[w1,aB]
    refine⟨i+1,g3,⟨by omega,xE,by omega⟩,by omega,rfl,by simp[hs1],?_⟩
    rw[hs1,oG]
    exact lH (by rw[pM];rfl) (by simp[hg,hb1,hb2,h1g,h21,h2g])
  ·refine⟨fun hf2=> ?_,fun hf2=> ?_⟩
   ·intro g2 hg2 h21 h2g hb2
    simp[h1g,h21,h2g,Ne.symm h1g,Ne.symm h21,Ne.symm h2g,appV,elsV,Int.not_lt.2 hg2]
    refine⟨by omega,fun g3 hg3 hb3=> ?_⟩
    have xE:bl g3=none:=by grind
    have hs1:cY s.ms (i+1)=cY s.ms i++ [((i:Int), -1)]:=by rw[hsc,sA,if_pos hf,if_neg hf2,List.nil_append]
    simp[w1,aB]
    refine⟨i+1,g3,⟨by omega,xE,by omega⟩,by omega,rfl,by simp[hs1],?_⟩
    rw[hs1,oG]
    exact lH (by rw[pM];rfl) (by simp[hg,hb1,hb2,h1g,h21,h2g])
   ·omega
 ·have hi:i=s.ms.length:=by omega
  subst hi
  refine cP [.lsl g 2 0 (cY s.ms s.ms.length).length] [g] (by simp) ?_ (by simpa using hg) (by simp[hg])
  refine Rf.2 (.inr ⟨g,rfl,rfl,by simp[bA],h0⟩)
def who (s:Str):List Int:=(bA s.ms).map (·.1)
def sgn (s:Str):List Int:=(bA s.ms).map (·.2)
def dWS (s:Str):D:= .t [fl 1 (iv (who s)),fl 1 (iv (sgn s))]
structure Two where
 i:Nat
 g:Int
 h:Int
 b:Int→Option Blk
def aK0 (bl:Int→Option Blk) (A B:Nat→List Int) (n:Nat) (p:Two):Prop:=
 p.i≤n∧p.g≠p.h∧p.b p.g=some ⟨1,iv (A p.i)⟩∧p.b p.h=some ⟨1,iv (B p.i)⟩∧bl p.g=none∧bl p.h=none∧Sub bl p.b∧(p.g<0→A p.i= [])∧(p.h<0→B p.i= [])
theorem pW (s:Str) (hm:s.ms.length≤8):RO Tryz.prog 146 [.ptr s.c] (.sl (cv (bA s.ms))):=by
 have:=dK 1 (O1 s hm) (jF _ _ 0)
 simpa using this

def vsg (p:Int) (x:Option Rat):Option Rat:=if p<0 then x.map (- ·) else x
def stI (acc:List (Option Rat)) (p:Int×Int) (x:Option Rat):List (Option Rat):=
 acc.set p.1.toNat (if(acc.getD p.1.toNat none).isSome=true then op2 (· + ·) (acc.getD p.1.toNat none) (vsg p.2 x) else vsg p.2 x)
def stS (acc:List (Option Rat)) (p:Int×Int) (x:Option Rat):List (Option Rat):=
 acc.set p.1.toNat (if 0<p.2 then op2 (· + ·) (acc.getD p.1.toNat none) x else op2 (· - ·) (acc.getD p.1.toNat none) x)
def fH (ms:List Mb) (d:List (Option Rat)) (t:Nat):List (Option Rat):=(List.range t).foldl (fun acc j=>stI acc ((bA ms).getD j (0,0)) (d.getD j none)) (List.replicate ms.length none)
def aMN (ms:List Mb) (d:List (Option Rat)) (t:Nat):List (Option Rat):=(List.range t).foldl (fun acc j=>stS acc ((bA ms).getD j (0,0)) (d.getD j none)) (List.replicate ms.length (some 0))
theorem nV (ms:List Mb) (d:List (Option Rat)) (t:Nat):fH ms d (t+1)=stI (fH ms d t) ((bA ms).getD t (0,0)) (d.getD t none):=by
 unfold fH;rw[List.range_succ,List.foldl_append];rfl
theorem dP (ms:List Mb) (d:List (Option Rat)): ∀t,(fH ms d t).length=ms.length
 | 0 => by simp [fH]
 | t + 1 => by rw [nV, stI, List.length_set, dP ms d t]
theorem Gx :okQ none:=fun _ e=>by cases e
theorem Sp {p:Int} {x:Option Rat} (h:okQ x):okQ (vsg p x):=by
 unfold vsg;split
 ·exact Z2 h
 ·exact h
theorem Ku {xs:List (Option Rat)} (h:okL xs) (i:Nat) {x:Option Rat} (hx:okQ x):okL (xs.set i x):=fun y hy=>by
 rcases List.mem_or_eq_of_mem_set hy with h1 | h1
 ·exact h y h1
 ·rw[h1];exact hx
theorem E0 (ms:List Mb) {d:List (Option Rat)} (hd:okL d): ∀t,okL (fH ms d t)
 | 0 => fun y hy => by
   have:y∈List.replicate ms.length (none:Option Rat):=hy
   rw[List.mem_replicate] at this
   rw[this.2];exact Gx
 | t + 1 => by
   rw[nV,stI]
   refine Ku (E0 ms hd t) _ ?_
   split
   ·exact jO _ _ _
   ·exact Sp (Lk hd _)
theorem Jp {ms:List Mb} {p:Int×Int} : ∀n,n≤ms.length→p∈cY ms n→ ∃k:Nat,p.1=k∧k<ms.length∧(p.2=1∨p.2= -1):=by
 intro n
 induction n with
 | zero => intro _ h; simp [cY] at h
 | succ n ih =>
   intro hn h
   rw[mW] at h
   rcases List.mem_append.1 h with h | h
   ·exact ih (by omega) h
   ·refine⟨n,?_⟩
    unfold sA at h
    rcases List.mem_append.1 h with h | h
    ·split at h
     ·cases h
     ·obtain rfl:p=_:=by simpa using h
      exact⟨rfl,by omega,.inl rfl⟩
    ·split at h
     ·cases h
     ·obtain rfl:p=_:=by simpa using h
      exact⟨rfl,by omega,.inr rfl⟩
theorem getD_set_ne {xs:List (Option Rat)} {i k:Nat} (h:i≠k) (x:Option Rat):(xs.set i x).getD k none=xs.getD k none:=by
 rw[List.getD_eq_getElem?_getD,List.getElem?_set_ne h,List.getD_eq_getElem?_getD]
def aIN (ms:List Mb) (A B:List (Option Rat)) (n:Nat):Prop:= ∀k,k<ms.length→(k<n→A.getD k none=B.getD k none)∧(n≤k→A.getD k none=none∧B.getD k none=some 0)

end Go.Proofs.YticmgmemnpcbbaaGreat.Vm

namespace Go.Proofs.YticmgmemnpcbbaaGreat.Vm
open Go Go.Proofs
set_option linter.unusedSimpArgs false
set_option linter.unusedVariables false
def apX (s:Str) (d:List (Option Rat)) (m:Mb):Option Rat:=op2 (· - ·) (dX s.js d m.b.toNat) (dX s.js d m.a.toNat)
def apY (s:Str) (d:List (Option Rat)) (m:Mb):Option Rat:=op2 (· - ·) (dY s.js d m.b.toNat) (dY s.js d m.a.toNat)
def Qp (s:Str) (d:List (Option Rat)) (k:Nat):Option Rat:=op2 (· + ·) (op2 (· * ·) (some (vx s (mat s k):Rat)) (apX s d (mat s k))) (op2 (· * ·) (some (vy s (mat s k):Rat)) (apY s d (mat s k)))
def aAY (s:Str) (k:Int) (d:List RT):Bool:=Nu s d && (decide (0≤k)&& decide (k<s.ms.length))
def aL1 (s:Str) (k:Int) (d:List RT):Option Rat:=if aAY s k d=true then Qp s (aM d) k.toNat else none

def aLT (rs:List RT):Bool:=rs.all fun r=> !decide (r.d= [])
def iB (a b:List RT):Bool:=(cX a && cX b)&& decide (a.length=b.length)
def gK (a b:List RT):List (Option Rat):=if iB a b=true then List.zipWith (op2 (· + ·)) (aM a) (aM b) else [none]
theorem vK {a b:List RT} (h:iB a b=true):a.length=b.length∧a.length≤24∧eS a=true∧eS b=true:=by
 unfold iB cX at h
 simp at h
 exact⟨h.2,h.1.1.1,h.1.1.2,h.1.2.2⟩
theorem Tn (f:Rat→Rat→Rat) (xs ys:List (Option Rat)):okL (List.zipWith (op2 f) xs ys):=by
 intro x hx
 obtain⟨i,hi,rfl⟩:=List.getElem_of_mem hx
 rw[List.getElem_zipWith]
 exact jO _ _ _
theorem Cz (a b:List RT):okL (gK a b)∧(gK a b).length≤24:=by
 unfold gK;split
 ·rename_i h;exact⟨Tn _ _ _,by have:=vK h;simp;omega⟩
 ·exact⟨mZ,by simp⟩
def iP (r:RT) (q:List RT):List (Option Rat):=if(r.ok∧cX q=true) then(aM q).map (op2 (· * ·) (rd r)) else [none]
theorem yI {q:List RT} (h:cX q=true):q.length≤24∧eS q=true:=by
 unfold cX at h;simp at h;exact h
theorem Ee (r:RT) (q:List RT):okL (iP r q)∧(iP r q).length≤24:=by
 unfold iP;split
 ·rename_i h
  refine⟨fun x hx=> ?_,by have:=yI h.2;simp;omega⟩
  obtain⟨y,_,rfl⟩:=List.mem_map.1 hx
  exact jO _ _ _
 ·exact⟨mZ,by simp⟩

def atW (s:Str) (i:Nat):Int:=if fxd s.js i=true then -1 else(idx s.js i:Int)

def aJ9 (bl:Int→Option Blk) (g6:Int) (p:Int×Int):Prop:=0≤p.1∧0≤p.2∧ ¬ p.1=p.2∧ ¬ p.1=g6∧ ¬ p.2=g6∧bl p.1=none∧bl p.2=none

def Ij (m:Mb) (x:Option Rat):Bool:=(!x.isSome || (decide (m.kind≠2)&& decide (0<sgq x)))|| (decide (m.kind≠1)&& decide (sgq x<0))
def Qn (s:Str) (d:List (Option Rat)):Bool:=(List.range s.ms.length).all fun k=> !Ij (mat s k) (Qp s d k)
def aI2 (s:Str) (d:List (Option Rat)) (n:Nat):Prop:= ∀k:Nat,k<n→Ij (mat s k) (Qp s d k)=false
def wkTo (s:Str) (l:List Int) (d:List (Option Rat)):Nat→Option Rat
 | 0 => some 0
 | t + 1 => op2 (· + ·) (op2 (· + ·) (wkTo s l d t) (op2 (· * ·) (some (lN l (2 * ((aF s.js).getD t 0).toNat) : Rat)) (d.getD (2 * t) none))) (op2 (· * ·) (some (lN l (2 * ((aF s.js).getD t 0).toNat + 1) : Rat)) (d.getD (2 * t + 1) none))
def wkW (s:Str) (l:List Int) (d:List (Option Rat)):Option Rat:=wkTo s l d (aF s.js).length
def aMB (s:Str) (l:List Int) (d:List RT):Bool:=(Nu s d && eM s.js l)&& (Qn s (aM d)&& decide (0<sgq (wkW s l (aM d))))

theorem uC (cs:List (Int×Int)) (i:Nat) (h:i<(cv cs).length):(cv cs)[i]= [.int .i64 (cs[i]'(by simpa using h)).1,.int .i64 (cs[i]'(by simpa using h)).2]:=by simp[cv]
theorem uA (xs:List (Option Rat)) (i:Nat) (x:Option Rat):(fvs xs).set i [fv x]=fvs (xs.set i x):=by simp[fvs,List.map_set]
theorem Lh (s:Str) (D:List (Option Rat)) (hm:s.ms.length≤8) (hD:okL D) (hl:D.length=(bA s.ms).length):RO Tryz.prog 147 [.ptr s.c,.sl (fvs D)] (.sl (fvs (fH s.ms D (bA s.ms).length))):=by
 have hcl:=kJ s.ms s.ms.length
 change(bA s.ms).length≤2*s.ms.length at hcl
 refine aK Tryz.func147 rfl rfl (by rw[Tryz.ntmps147];simp) fun bl=> ?_
 rw[Tryz.ntmps147,Tryz.results147]
 refine aC ?_
 simp[Str.c]
 refine⟨by omega,by unfold maxLen;omega,fun g hg0 hg=> ?_⟩
 refine aD (pW s hm) ?_
 simp
 refine aL (fun j:Nat=> [(1,.sl (fvs D)),(5,.lsl g 1 0 s.ms.length),(16,.sl (cv (bA s.ms))),(17,.int .i64 (bA s.ms).length),(18,.int .i64 j)]) (fun j=>upd bl g (some ⟨1,fvs (fH s.ms D j)⟩)) (fun j=>j≤(bA s.ms).length) (fun j=>(bA s.ms).length - j) _ 0 (Nat.zero_le _) ⟨rfl,by simp,sub_eq (by simp[fH,fvs,fv])⟩ ?_
 intro j hj
 have wj:IntKind.i64.wrap ((j:Int)+1)=(j:Int)+1:=i64_in (by omega) (by omega)
 refine aC ?_
 simp
 refine⟨fun h=> ?_,fun h=> ?_⟩
 ·have mS:(bA s.ms)[j]∈bA s.ms:=List.getElem_mem h
  obtain⟨k,e1,hk,hsg⟩:=Jp s.ms.length (Nat.le_refl _) mS
  have h2:j<D.length:=by omega
  have hrl:=dP s.ms D j
  have hkA:k<(fH s.ms D j).length:=by omega
  have oj:=hD _ (List.getElem_mem h2)
  have okk:=E0 s.ms hD j _ (List.getElem_mem hkA)
  have hst:=nV s.ms D j
  rw[lM _ _ _ h,lM _ _ _ h2,stI,e1,Int.toNat_natCast,lM _ _ _ hkA] at hst
  have hns:=Sm D[j]
  have hA1:=lR (fH s.ms D j)[k] D[j] okk oj
  have hA2:=lR (fH s.ms D j)[k] (D[j].map (- ·)) okk (Z2 oj)
  rcases hsg with e2 | e2
  ·rcases eA:(fH s.ms D j)[k] with _ | a
   ·rw[eA,if_neg (by simp),e2,vsg,if_neg (by omega)] at hst
    simp[h,uC,e1,e2]
    intro g7 hg7 h7g hb7
    simp[h7g,Ne.symm h7g,h2]
    simp[h7g,Ne.symm h7g,hrl,hk,hkA,eA,show fv none= .nilp from rfl,show∀a,fv (some a)= .ptr (rq a).c from fun _=>rfl]
    simp[wj,aB,uA]
    exact⟨j+1,by omega,by omega,rfl,by simp,by rw[hst];intro z b hz;simp only[aA] at hz ⊢;grind⟩
   ·rw[eA,if_pos (by rfl),←eA,e2,vsg,if_neg (by omega)] at hst
    simp[h,uC,e1,e2]
    intro g7 hg7 h7g hb7
    simp[h7g,Ne.symm h7g,h2]
    simp[h7g,Ne.symm h7g,hrl,hk,hkA,eA,show fv none= .nilp from rfl,show∀a,fv (some a)= .ptr (rq a).c from fun _=>rfl]
    refine eE aO [0,1,2,3,4,5,6,7,8,9,10] 1 11 (by kernel_rfl) ?_
    simp[h7g,Ne.symm h7g,hrl,hk,hkA]
    refine aP hA1 ?_
    simp[h7g,Ne.symm h7g,hrl,hk,hkA]
    refine cN (i:=11) (by kernel_rfl) rfl rfl rfl ?_
    simp[h7g,Ne.symm h7g,hrl,hk,hkA]
    refine Dy ?_
    try simp
    simp[wj,aB,uA]
    exact⟨j+1,by omega,by omega,rfl,by simp,by rw[hst];intro z b hz;simp only[aA] at hz ⊢;grind⟩
  ·rcases eA:(fH s.ms D j)[k] with _ | a
   ·rw[eA,if_neg (by simp),e2,vsg,if_pos (by omega)] at hst
    simp[h,uC,e1,e2]
    intro g7 hg7 h7g hb7
    simp[h7g,Ne.symm h7g,h2]
    refine aD hns ?_
    simp[h7g,Ne.symm h7g,h2]
    simp[h7g,Ne.symm h7g,hrl,hk,hkA,eA,show fv none= .nilp from rfl,show∀a,fv (some a)= .ptr (rq a).c from fun _=>rfl]
    simp[wj,aB,uA]
    exact⟨j+1,by omega,by omega,rfl,by simp,by rw[hst];intro z b hz;simp only[aA] at hz ⊢;grind⟩
   ·rw[eA,if_pos (by rfl),←eA,e2,vsg,if_pos (by omega)] at hst
    simp[h,uC,e1,e2]
    intro g7 hg7 h7g hb7
    simp[h7g,Ne.symm h7g,h2]
    refine aD hns ?_
    simp[h7g,Ne.symm h7g,h2]
    simp[h7g,Ne.symm h7g,hrl,hk,hkA,eA,show fv none= .nilp from rfl,show∀a,fv (some a)= .ptr (rq a).c from fun _=>rfl]
    refine eE aO [0,1,2,3,4,5,6,7,8,9,10] 1 11 (by kernel_rfl) ?_
    simp[h7g,Ne.symm h7g,hrl,hk,hkA]
    refine aP hA2 ?_
    simp[h7g,Ne.symm h7g,hrl,hk,hkA]
    refine cN (i:=11) (by kernel_rfl) rfl rfl rfl ?_
    simp[h7g,Ne.symm h7g,hrl,hk,hkA]
    refine Dy ?_
    try simp
    simp[wj,aB,uA]
    exact⟨j+1,by omega,by omega,rfl,by simp,by rw[hst];intro z b hz;simp only[aA] at hz ⊢;grind⟩
 ·have hj2:j=(bA s.ms).length:=by omega
  subst hj2
  have hrl:=dP s.ms D (bA s.ms).length
  exact aQ [.lsl g 1 0 s.ms.length] 1 (by simp) (cE (sz:=1) (n:=s.ms.length) hg0 hg (els:=fvs (fH s.ms D (bA s.ms).length)) (by simp) (by simpa using hrl) (N8 _)) (by simp[hg])
def aD0 (s:Str) (d:List RT):Bool:=sOk s && (decide (d.length=(bA s.ms).length)&& eS d)
def aMK (s:Str) (d:List RT):List (Option Rat):=if aD0 s d=true then fH s.ms (aM d) (bA s.ms).length else [none]
def aLO (n:Nat):List RT:=List.replicate n (ro (some 0))

theorem tC {zs:List (Option Rat)} (h:okL zs):eS (bW zs)=bE zs:=by
 unfold eS bW bE
 rw[List.all_map,Bool.eq_iff_iff,List.all_eq_true,List.all_eq_true]
 constructor
 ·intro H x hx
  have:=H x hx
  rwa [Function.comp,H5 (h x hx)] at this
 ·intro H x hx
  rw[Function.comp,H5 (h x hx)];exact H x hx
theorem Bp {zs:List (Option Rat)} (h:okL zs) (hl:zs.length≤1048576):jE (bW zs) 1048576:=by
 refine⟨by simpa using hl,fun r hr=> ?_⟩
 obtain⟨x,hx,rfl⟩:=List.mem_map.1 hr
 have:=ro_le (h x hx)
 exact⟨by omega,by omega⟩
theorem U0 (xs:List (Option Rat)) (i:Nat) (h:i<(bW xs).length):(bW xs)[i]=ro (xs[i]'(by simpa using h)):=by simp[bW]

def gv (cells:List (List (Option Rat))):List (List V):=cells.map fun r=> [.sl (fvs r)]
def dGr (cells:List (List (Option Rat))):D:= .s 1 (cells.map fun r=> [fl 1 (fvs r)])
def dG (r c:Nat) (cells:List (List (Option Rat))):D:= .a [.c (.int .i64 r),.c (.int .i64 c),dGr cells]
def rowOf (c:Nat) (m:Nat→Nat→Option Rat) (i:Nat):List (Option Rat):=(List.range c).map (m i)
def aKO (r c:Nat) (m:Nat→Nat→Option Rat):List (List (Option Rat)):=(List.range r).map (rowOf c m)
theorem wF (b:Int→Option Blk) (g:Int):Sub (rem b g) b:=fun z y hz=>by
 rw[aI] at hz
 split at hz
 ·cases hz
 ·exact hz

theorem OwnR.append {bl:Int→Option Blk} {sz:Nat} {rs2:List (List D)} {e2:List (List V)} {g2:List Int} (h2:OwnR bl sz rs2 e2 g2): ∀ {rs:List (List D)} {els:List (List V)} {g1:List Int},OwnR bl sz rs els g1→(∀x,x∈g1→x∉g2)→OwnR bl sz (rs++rs2) (els++e2) (g1++g2)
 | [], els, g1, h, hd => by
   rw[OwnR] at h
   obtain⟨rfl,rfl⟩:=h
   exact h2
 | r :: rs, els, g1, h, hd => by
   rw[OwnR] at h
   obtain⟨e,jH,ga,gb,rfl,rfl,h3,h4,h5,h6,h7⟩:=h
   have ih:=OwnR.append h2 h7 fun x hx=>hd x (List.mem_append_right _ hx)
   show OwnR bl sz (r::(rs++rs2)) (e::(jH++e2)) (ga++gb++g2)
   rw[OwnR]
   refine⟨e,jH++e2,ga,gb++g2,rfl,by simp,fun x hx hx2=> ?_,h4,h5,h6,ih⟩
   rcases List.mem_append.1 hx2 with hx2 | hx2
   ·exact h3 x hx hx2
   ·exact hd x (List.mem_append_left _ hx) hx2
structure MX where
 r:Int
 c:Int
 cells:List RT
def MX.c3 (m:MX):List V:= [.int .i64 m.r,.int .i64 m.c,.sl (rv m.cells)]
def dMx (m:MX):List D:= [.c (.int .i64 m.r),.c (.int .i64 m.c),dRs m.cells]
def aCB (cells:List (List (Option Rat))):Bool:=cells.all bE
def aM0 (r c:Int) (cells:List (List (Option Rat))):MX:=if aCB cells=true then⟨r,c,(cells.map bW).flatten⟩ else⟨0,0,[]⟩
def dMB (m:MX) (b:Bool):D:= .t [.a (dMx m),.c (.bool b)]
def aJD (cells:List (List (Option Rat))) (i:Nat):List RT:=((cells.take i).map bW).flatten

end Go.Proofs.YticmgmemnpcbbaaGreat.Vm

namespace Go.Proofs.YticmgmemnpcbbaaGreat.Vm
open Go Go.Proofs
set_option linter.unusedSimpArgs false
set_option linter.unusedVariables false
def Gq (s:Str) (n:Nat):List Int:=((aF s.js).take n).flatMap fun j=>cV s j++cW s j
def lZ (s:Str):List Int:=(aF s.js).flatMap fun j=>cV s j++cW s j
structure aFQ where
 i:Nat
 g:Int
 b:Int→Option Blk
def aDB (bl:Int→Option Blk) (s:Str) (gs:Int) (p:aFQ):Prop:=
 p.i≤(aF s.js).length∧p.g≠gs∧p.b p.g=some ⟨1,iv (Gq s p.i)⟩∧p.b gs=some ⟨2,[[.sl (jv s.js),.sl (mv s.ms)]]⟩∧bl p.g=none∧Sub bl p.b∧(p.g<0→Gq s p.i= [])
def xTo (s:Str) (j:Int) (n:Nat):List Int:=(s.ms.take n).map (eqX s j)
def yTo (s:Str) (j:Int) (n:Nat):List Int:=(s.ms.take n).map (eqY s j)
def lK (s:Str) (l:List Int) (n:Nat):List Int:=((aF s.js).take n).flatMap fun j=> [-lat l (2*j).toNat, -lat l (2*j+1).toNat]
def right (s:Str) (l:List Int):List Int:=(aF s.js).flatMap fun j=> [-lat l (2*j).toNat, -lat l (2*j+1).toNat]
theorem D4 (s:Str) (l:List Int) (n:Nat) (h:n<(aF s.js).length):lK s l (n+1)=lK s l n++ [-lat l (2*(aF s.js)[n]).toNat, -lat l (2*(aF s.js)[n]+1).toNat]:=by
 unfold lK
 rw[List.take_add_one,List.getElem?_eq_getElem h,List.flatMap_append];simp
theorem mU (s:Str) (l:List Int): ∀n,n≤(aF s.js).length→(lK s l n).length=2*n
 | 0, _ => by simp [lK]
 | n + 1, h => by
   rw[D4 s l n (by omega),List.length_append,mU s l n (by omega)];simp;omega
theorem L3 {s:Str} {j:Int} (h:j∈aF s.js):0≤j∧j<s.js.length:=by
 unfold aF cH at h
 obtain⟨k,hk,rfl⟩:=List.mem_map.1 h
 have:=List.mem_range.1 (List.mem_filter.1 hk).1
 omega

structure Pg where
 rows:Int
 bA:Int
 a:List Int
 b:List Int
 c:List Int
def Pg.v (p:Pg):List V:= [.int .i64 p.rows,.int .i64 p.bA,.sl (iv p.a),.sl (iv p.b),.sl (iv p.c)]
def nR (s:Str):Nat:=2*(aF s.js).length
def nC (s:Str):Nat:=(bA s.ms).length
def aZ (s:Str) (c:Nat):Int×Int:=(bA s.ms).getD c (0,0)
def ent (s:Str) (i c:Nat):Int:=(aZ s c).2*lat (lZ s) (i*s.ms.length+(aZ s c).1.toNat)
def aTo (s:Str) (n:Nat):List Int:=(List.range n).map fun t=>ent s (t / nC s) (t % nC s)
def bU (s:Str) (l:List Int):Pg:=⟨nR s,nC s,aTo s (nR s*nC s),right s l,List.replicate (nC s) 0⟩
@[simp] theorem Sx (s : Str) (n : Nat) : (aTo s n).length = n := by simp [aTo]
theorem De {ms:List Mb} {n:Nat} {p:Int×Int} (h:p∈cY ms n):(0≤p.1∧p.1<n)∧(p.2=1∨p.2= -1):=by
 unfold cY at h
 obtain⟨k,hk,hp⟩:=List.mem_flatMap.1 h
 have:=List.mem_range.1 hk
 unfold sA at hp
 rcases List.mem_append.1 hp with hp | hp<;>split at hp<;>simp at hp<;>subst hp<;>simp<;>omega
theorem mV (s:Str) (c:Nat) (h:c<nC s):(0≤(aZ s c).1∧(aZ s c).1<s.ms.length)∧((aZ s c).2=1∨(aZ s c).2= -1):=by
 unfold nC at h
 have:aZ s c=(bA s.ms)[c]:=by simp[aZ,h]
 rw[this]
 exact De (List.getElem_mem h)
theorem M4 {s:Str} (hs:SOk s) (n:Nat): -100≤lat (lZ s) n∧lat (lZ s) n≤100:=by
 have key: ∀x,x∈lZ s→ -100≤x∧x≤100:=by
  intro x hx
  unfold lZ at hx
  obtain⟨j,_,hx⟩:=List.mem_flatMap.1 hx
  rcases List.mem_append.1 hx with hx | hx
  ·obtain⟨m,hm,rfl⟩:=List.mem_map.1 hx
   have:=Hs hs hm
   unfold eqX;split
   ·omega
   ·split<;>omega
  ·obtain⟨m,hm,rfl⟩:=List.mem_map.1 hx
   have:=Hs hs hm
   unfold eqY;split
   ·omega
   ·split<;>omega
 unfold lat
 rw[List.getD_eq_getElem?_getD]
 cases h:(lZ s)[n]? with
 | none => simp
 | some x => exact key x (List.mem_of_getElem? h)
structure PS where
 n:Nat
 g:Int
 b:Int→Option Blk
structure PI (bl : Int → Option Blk) (s : Str) (l : List Int) (gr gp gc : Int) (p : PS) : Prop where
 hr:p.b gr=some ⟨5,[[.int .i64 0,.int .i64 0,.nils,.nils,.nils]]⟩
 hp:p.b gp=some ⟨5,[[.int .i64 (nR s),.int .i64 (nC s),.lsl p.g 1 0 p.n,.sl (iv (right s l)),.lsl gc 1 0 (nC s)]]⟩
 hc:p.b gc=some ⟨1,iv (List.replicate (nC s) 0)⟩
 ha:p.b p.g=some ⟨1,iv (aTo s p.n)⟩
 pr:p.g≠gr
 pp:p.g≠gp
 pc:p.g≠gc
 f:bl p.g=none
 sub:Sub bl p.b
 neg:p.g<0→aTo s p.n= []

theorem rA {n:Nat} : ∀(rs:List (List Int)),(∀r,r∈rs→r.length=n)→ ∀(i k:Nat) (hi:i<rs.length),k<n→lat rs.flatten (i*n+k)=lat rs[i] k
 | [], _, i, k, hi, _ => by simp at hi
 | r :: rs, h, 0, k, hi, hk => by
   have:=h r List.mem_cons_self
   simp[lat,List.flatten_cons,List.getElem?_append_left (show k<r.length by omega)]
 | r :: rs, h, i + 1, k, hi, hk => by
   have hr:=h r List.mem_cons_self
   have ih:=rA rs (fun r hr=>h r (List.mem_cons_of_mem _ hr)) i k (by simpa using hi) hk
   have e:(i+1)*n+k=r.length+(i*n+k):=by rw[hr,Nat.add_mul];omega
   rw[List.flatten_cons,e]
   simp only[lat,List.getD_eq_getElem?_getD] at ih ⊢
   rw[List.getElem?_append_right (by omega),Nat.add_sub_cancel_left,ih];rfl
theorem qF (s:Str):lZ s=(dM s).flatten:=by
 unfold lZ dM
 induction aF s.js with
 | nil => rfl
 | cons j js ih => simp [ih]
theorem jB (s:Str): ∀r,r∈dM s→r.length=s.ms.length:=by
 intro r hr
 unfold dM at hr
 obtain⟨j,_,hr⟩:=List.mem_flatMap.1 hr
 simp at hr
 rcases hr with rfl | rfl<;>simp
theorem Ta (s:Str) (n m:Nat) (h:m<n):(iv (aTo s n))[m]'(by simpa using h)= [.int .i64 (ent s (m / nC s) (m % nC s))]:=by simp[aTo]
theorem eX (s:Str) (l:List Int):(right s l).length=nR s:=by
 have e:right s l=lK s l (aF s.js).length:=by simp[right,lK]
 rw[e,mU s l _ (Nat.le_refl _)];rfl
theorem vM (s:Str) (l:List Int): ∀(fs:List Int) (i:Nat) (h:i<fs.length),lat (fs.flatMap fun j=> [-lat l (2*j).toNat, -lat l (2*j+1).toNat]) (2*i)= -lat l (2*fs[i]).toNat∧lat (fs.flatMap fun j=> [-lat l (2*j).toNat, -lat l (2*j+1).toNat]) (2*i+1)= -lat l (2*fs[i]+1).toNat
 | [], i, h => by simp at h
 | f :: fs, 0, _ => by simp [lat]
 | f :: fs, i + 1, h => by
   have ih:=vM s l fs i (by simpa using h)
   have e1:2*(i+1)=(2*i)+1+1:=by omega
   have e2:2*(i+1)+1=(2*i+1)+1+1:=by omega
   rw[e2,e1]
   simpa [lat] using ih
theorem uK (s:Str) (hs:SOk s):RO Tryz.prog 148 [.ptr s.c] (.sl (ivv (dM s))):=by
 have:=dK 2 (uJ s hs) (Lv _)
 rwa [Ud] at this
def dPg (p:Pg):D:= .a [.c (.int .i64 p.rows),.c (.int .i64 p.bA),fl 1 (iv p.a),fl 1 (iv p.b),fl 1 (iv p.c)]
structure ABC where
 a:Int
 b:Int
 c:Int
structure Of (bl : Int → Option Blk) (gr gp : Int) (p : ABC) : Prop where
 a0:0≤p.a
 b0:0≤p.b
 c0:0≤p.c
 ba: ¬p.b=p.a
 ca: ¬p.c=p.a
 cb: ¬p.c=p.b
 ar: ¬p.a=gr
 ap: ¬p.a=gp
 br: ¬p.b=gr
 bp: ¬p.b=gp
 cr: ¬p.c=gr
 cp: ¬p.c=gp
 fa:bl p.a=none
 fb:bl p.b=none
 fc:bl p.c=none
theorem ad {p:Prop} {a b:Int} (F:p) (h: ¬a=b):p∧(a=b)=False∧(b=a)=False:=⟨F,eq_false h,eq_false fun e=>h e.symm⟩
theorem an {p q:Prop} (F:p) (h:q):p∧q:=⟨F,h⟩
set_option maxHeartbeats 4000000 in
theorem tQ (s:Str) (l:List Int) (hL:LOk s l):NW Tryz.prog 72 [.ptr s.c,.sl (iv l),.int .i64 0,.int .i64 0] (dPg (bU s l)):=by
 have hs:=hL.sok
 have h6:=hs.nj
 have h8:=hs.nm
 have hfr:=kY s.js s.js.length
 change(aF s.js).length≤s.js.length at hfr
 have hcn:nC s≤2*s.ms.length:=kJ s.ms s.ms.length
 have hrn:nR s≤12:=by unfold nR;omega
 have er:(dM s).length=nR s:=by
  have e:dM s=vN s (aF s.js).length:=by simp[vN,dM]
  rw[e,mY s _ (Nat.le_refl _)];rfl
 have ec:(bA s.ms).length=nC s:=rfl
 refine fZ Tryz.func72 rfl rfl (by rw[Tryz.ntmps72];simp) fun bl=> ?_
 rw[Tryz.ntmps72,Tryz.results72]
 refine aE ?_
 simp
 intro gr aNB hbr
 refine aE ?_
 simp
 refine aD (uK s hs) ?_
 simp
 refine aD (pW s (by omega)) ?_
 simp
 refine aE ?_
 have w1:IntKind.i64.wrap (nR s:Int)=nR s:=i64_in (by omega) (by omega)
 have w2:IntKind.i64.wrap (nC s:Int)=nC s:=i64_in (by omega) (by omega)
 simp[er,ec,w1,w2]
 intro gp aKQ hpr hbp
 obtain⟨nA,hA⟩: ∃n:Nat,n=nR s*nC s:=⟨_,rfl⟩
 have hA2:nA≤12*16:=by rw[hA];exact Nat.mul_le_mul (by omega) (by omega)
 have w3:IntKind.i64.wrap ((nR s:Int)*nC s)=nA:=by
  rw[hA]
  have:((nR s*nC s:Nat):Int)=nR s*nC s:=by simp
  rw[←this]
  exact i64_in (by omega) (by omega)
 let S:ABC→List (Nat×V):=fun _=> [(0,.ptr s.c),(1,.sl (iv l)),(8,.loc gr 5 0 0),(9,.sl (ivv (dM s))),(10,.sl (cv (bA s.ms))),(11,.loc gp 5 0 0)]
 let B:ABC→Int→Option Blk:=fun p=>upd (upd (upd (upd (upd bl gr (some ⟨5,[[.int .i64 0,.int .i64 0,.nils,.nils,.nils]]⟩)) gp (some ⟨5,[[.int .i64 (nR s),.int .i64 (nC s),.lsl p.a 1 0 nA,.lsl p.b 1 0 (nR s),.lsl p.c 1 0 (nC s)]]⟩)) p.a (some ⟨1,List.replicate nA [.int .i64 0]⟩)) p.b (some ⟨1,List.replicate (nR s) [.int .i64 0]⟩)) p.c (some ⟨1,List.replicate (nC s) [.int .i64 0]⟩)
 have leaf: ∀(n:Nat) (σ:St) (ga gb gc:Int),0≤ga→0≤gb→0≤gc→(¬gb=ga∧ ¬gc=ga∧ ¬gc=gb∧ ¬ga=gr∧ ¬ga=gp∧ ¬gb=gr∧ ¬gb=gp∧ ¬gc=gr∧ ¬gc=gp∧bl ga=none∧bl gb=none∧bl gc=none)→σ.n=n→(∀p,p∈S ⟨ga,gb,gc⟩→σ.sl p.1=p.2)→Sub (B ⟨ga,gb,gc⟩) σ.bl→
   ∃a,Of bl gr gp a∧Fit (S a) n (B a) σ:=fun n σ ga gb gc h1 h2 h3 ⟨h4,h5,h6,h7,h8,h9,h10,h11,h12,h13,h14,h15⟩ h16 h17 h18=>⟨⟨ga,gb,gc⟩,⟨h1,h2,h3,h4,h5,h6,h7,h8,h9,h10,h11,h12,h13,h14,h15⟩,h16,h17,h18⟩
 refine mE S B (Of bl gr gp) 113 ?_ ?_
 ·have F:=an (an (ad trivial (show ¬gp=gr from hpr)) hbr) hbp
  refine Aq aO _ (Sub.refl _) [0,1,2,3,4,6,7,9,10] 9 12 (by kernel_rfl) ?_
  simp[w3]
  refine vQ (i:=5) (j:=8) (m:=11) false false false (by kernel_rfl) rfl rfl (by kernel_rfl) rfl rfl (by kernel_rfl) rfl rfl (by kernel_rfl) ?_ ?_ ?_
  ·simp[F]
   refine⟨by omega,by unfold maxLen;omega,?_⟩
   intro ga hga
   intros
   have F:=an (ad (ad F (show ¬ga=gr by assumption)) (show ¬ga=gp by assumption)) (show bl ga=none by assumption)
   refine⟨by simp[F],?_⟩
   refine vQ (i:=8) (j:=11) (m:=12) false false true (by kernel_rfl) rfl rfl (by kernel_rfl) rfl rfl (by kernel_rfl) rfl rfl (by kernel_rfl) ?_ ?_ ?_
   ·simp[F]
    refine⟨by omega,by unfold maxLen;omega,?_⟩
    intro gb hgb
    intros
    have F:=an (ad (ad (ad F (show ¬gb=gr by assumption)) (show ¬gb=gp by assumption)) (show ¬gb=ga by assumption)) (show bl gb=none by assumption)
    refine⟨by simp[F],?_⟩
    refine Dw 11 12 false true ?_ ?_
    ·simp[F]
     refine⟨by omega,by unfold maxLen;omega,?_⟩
     intro gc hgc
     intros
     have F:=an (ad (ad (ad (ad F (show ¬gc=gr by assumption)) (show ¬gc=gp by assumption)) (show ¬gc=ga by assumption)) (show ¬gc=gb by assumption)) (show bl gc=none by assumption)
     refine⟨by simp[F],?_⟩
     refine Dq 12 true ?_
     simp[F]
     refine Dq 13 true ?_
     simp[F]
     refine Dq 14 true ?_
     simp[F]
     refine Dq 15 true ?_
     simp[F]
     refine Dq 16 true ?_
     simp[F]
     refine Dq 17 true ?_
     simp[F]
     refine Dd ?_
     rw[aG]
     exact leaf _ _ ga gb gc hga hgb hgc (by simp[F]) rfl (by simp[S]) (by intro x y hx;simp only[B,aA] at hx ⊢;grind)
    ·simp[F]
     refine Dw 11 13 true true ?_ ?_
     ·simp[F]
      refine⟨by omega,by unfold maxLen;omega,?_⟩
      intro gc hgc
      intros
      have F:=an (ad (ad (ad (ad F (show ¬gc=gr by assumption)) (show ¬gc=gp by assumption)) (show ¬gc=ga by assumption)) (show ¬gc=gb by assumption)) (show bl gc=none by assumption)
      refine Dq 13 true ?_
      simp[F]
      refine Dq 14 true ?_
      simp[F]
      refine Dq 15 true ?_
      simp[F]
      refine Dq 16 true ?_
      simp[F]
      refine Dq 17 true ?_
      simp[F]
      refine Dd ?_
      rw[aG]
      exact leaf _ _ ga gb gc hga hgb hgc (by simp[F]) rfl (by simp[S]) (by intro x y hx;simp only[B,aA] at hx ⊢;grind)
     ·simp[F]
      refine Dw 11 14 true true ?_ ?_
      ·simp[F]
       refine⟨by omega,by unfold maxLen;omega,?_⟩
       intro gc hgc
       intros
       have F:=an (ad (ad (ad (ad F (show ¬gc=gr by assumption)) (show ¬gc=gp by assumption)) (show ¬gc=ga by assumption)) (show ¬gc=gb by assumption)) (show bl gc=none by assumption)
       refine Dq 14 true ?_
       simp[F]
       refine Dq 15 true ?_
       simp[F]
       refine Dq 16 true ?_
       simp[F]
       refine Dq 17 true ?_
       simp[F]
       refine Dd ?_
       rw[aG]
       exact leaf _ _ ga gb gc hga hgb hgc (by simp[F]) rfl (by simp[S]) (by intro x y hx;simp only[B,aA] at hx ⊢;grind)
      ·simp[F]
       refine Dw 11 15 true true ?_ ?_
       ·simp[F]
        refine⟨by omega,by unfold maxLen;omega,?_⟩
        intro gc hgc
        intros
        have F:=an (ad (ad (ad (ad F (show ¬gc=gr by assumption)) (show ¬gc=gp by assumption)) (show ¬gc=ga by assumption)) (show ¬gc=gb by assumption)) (show bl gc=none by assumption)
        refine Dq 15 true ?_
        simp[F]
        refine Dq 16 true ?_
        simp[F]
        refine Dq 17 true ?_
        simp[F]
        refine Dd ?_
        rw[aG]
        exact leaf _ _ ga gb gc hga hgb hgc (by simp[F]) rfl (by simp[S]) (by intro x y hx;simp only[B,aA] at hx ⊢;grind)
       ·simp[F]
        refine Dq 11 true ?_
        simp[F]
        refine⟨by omega,by unfold maxLen;omega,?_⟩
        intro gc hgc
        intros
        have F:=an (ad (ad (ad (ad F (show ¬gc=gr by assumption)) (show ¬gc=gp by assumption)) (show ¬gc=ga by assumption)) (show ¬gc=gb by assumption)) (show bl gc=none by assumption)
        refine Dq 16 true ?_
        simp[F]
        refine Dq 17 true ?_
        simp[F]
        refine Dd ?_
        rw[aG]
        exact leaf _ _ ga gb gc hga hgb hgc (by simp[F]) rfl (by simp[S]) (by intro x y hx;simp only[B,aA] at hx ⊢;grind)
   ·simp[F]
    refine⟨by omega,by unfold maxLen;omega,?_⟩
    intro gc hgc
    intros
    have F:=an (ad (ad (ad F (show ¬gc=gr by assumption)) (show ¬gc=gp by assumption)) (show ¬gc=ga by assumption)) (show bl gc=none by assumption)
    refine⟨by simp[F],?_⟩
    refine Dw 8 12 false true ?_ ?_
    ·simp[F]
     refine⟨by omega,by unfold maxLen;omega,?_⟩
     intro gb hgb
     intros
     have F:=an (ad (ad (ad (ad F (show ¬gb=gr by assumption)) (show ¬gb=gp by assumption)) (show ¬gb=ga by assumption)) (show ¬gb=gc by assumption)) (show bl gb=none by assumption)
     refine⟨by simp[F],?_⟩
     refine Dq 12 true ?_
     simp[F]
     refine Dq 13 true ?_
     simp[F]
     refine Dq 14 true ?_
     simp[F]
     refine Dq 15 true ?_
     simp[F]
     refine Dq 16 true ?_
     simp[F]
     refine Dq 17 true ?_
     simp[F]
     refine Dd ?_
     rw[aG]
     exact leaf _ _ ga gb gc hga hgb hgc (by simp[F]) rfl (by simp[S]) (by intro x y hx;simp only[B,aA] at hx ⊢;grind)
    ·simp[F]
     refine Dw 8 13 true true ?_ ?_
     ·simp[F]
      refine⟨by omega,by unfold maxLen;omega,?_⟩
      intro gb hgb
      intros
      have F:=an (ad (ad (ad (ad F (show ¬gb=gr by assumption)) (show ¬gb=gp by assumption)) (show ¬gb=ga by assumption)) (show ¬gb=gc by assumption)) (show bl gb=none by assumption)
      refine Dq 13 true ?_
      simp[F]
      refine Dq 14 true ?_
      simp[F]
      refine Dq 15 true ?_
      simp[F]
      refine Dq 16 true ?_
      simp[F]
      refine Dq 17 true ?_
      simp[F]
      refine Dd ?_
      rw[aG]
      exact leaf _ _ ga gb gc hga hgb hgc (by simp[F]) rfl (by simp[S]) (by intro x y hx;simp only[B,aA] at hx ⊢;grind)
     ·simp[F]
      refine Dq 8 true ?_
      simp[F]
      refine⟨by omega,by unfold maxLen;omega,?_⟩
      intro gb hgb
      intros
      have F:=an (ad (ad (ad (ad F (show ¬gb=gr by assumption)) (show ¬gb=gp by assumption)) (show ¬gb=ga by assumption)) (show ¬gb=gc by assumption)) (show bl gb=none by assumption)
      refine Dq 14 true ?_
      simp[F]
      refine Dq 15 true ?_
      simp[F]
      refine Dq 16 true ?_
      simp[F]
      refine Dq 17 true ?_
      simp[F]
      refine Dd ?_
      rw[aG]
      exact leaf _ _ ga gb gc hga hgb hgc (by simp[F]) rfl (by simp[S]) (by intro x y hx;simp only[B,aA] at hx ⊢;grind)
   ·simp[F]
    refine vQ (i:=8) (j:=11) (m:=13) true true true (by kernel_rfl) rfl rfl (by kernel_rfl) rfl rfl (by kernel_rfl) rfl rfl (by kernel_rfl) ?_ ?_ ?_
    ·simp[F]
     refine⟨by omega,by unfold maxLen;omega,?_⟩
     intro gb hgb
     intros
     have F:=an (ad (ad (ad F (show ¬gb=gr by assumption)) (show ¬gb=gp by assumption)) (show ¬gb=ga by assumption)) (show bl gb=none by assumption)
     refine Dw 11 13 true true ?_ ?_
     ·simp[F]
      refine⟨by omega,by unfold maxLen;omega,?_⟩
      intro gc hgc
      intros
      have F:=an (ad (ad (ad (ad F (show ¬gc=gr by assumption)) (show ¬gc=gp by assumption)) (show ¬gc=ga by assumption)) (show ¬gc=gb by assumption)) (show bl gc=none by assumption)
      refine Dq 13 true ?_
      simp[F]
      refine Dq 14 true ?_
      simp[F]
      refine Dq 15 true ?_
      simp[F]
      refine Dq 16 true ?_
      simp[F]
      refine Dq 17 true ?_
      simp[F]
      refine Dd ?_
      rw[aG]
      exact leaf _ _ ga gb gc hga hgb hgc (by simp[F]) rfl (by simp[S]) (by intro x y hx;simp only[B,aA] at hx ⊢;grind)
     ·simp[F]
      refine Dw 11 14 true true ?_ ?_
      ·simp[F]
       refine⟨by omega,by unfold maxLen;omega,?_⟩
       intro gc hgc
       intros
       have F:=an (ad (ad (ad (ad F (show ¬gc=gr by assumption)) (show ¬gc=gp by assumption)) (show ¬gc=ga by assumption)) (show ¬gc=gb by assumption)) (show bl gc=none by assumption)
       refine Dq 14 true ?_
       simp[F]
       refine Dq 15 true ?_
       simp[F]
       refine Dq 16 true ?_
       simp[F]
       refine Dq 17 true ?_
       simp[F]
       refine Dd ?_
       rw[aG]
       exact leaf _ _ ga gb gc hga hgb hgc (by simp[F]) rfl (by simp[S]) (by intro x y hx;simp only[B,aA] at hx ⊢;grind)
      ·simp[F]
       refine Dw 11 15 true true ?_ ?_
       ·simp[F]
        refine⟨by omega,by unfold maxLen;omega,?_⟩
        intro gc hgc
        intros
        have F:=an (ad (ad (ad (ad F (show ¬gc=gr by assumption)) (show ¬gc=gp by assumption)) (show ¬gc=ga by assumption)) (show ¬gc=gb by assumption)) (show bl gc=none by assumption)
        refine Dq 15 true ?_
        simp[F]
        refine Dq 16 true ?_
        simp[F]
        refine Dq 17 true ?_
        simp[F]
        refine Dd ?_
        rw[aG]
        exact leaf _ _ ga gb gc hga hgb hgc (by simp[F]) rfl (by simp[S]) (by intro x y hx;simp only[B,aA] at hx ⊢;grind)
       ·simp[F]
        refine Dq 11 true ?_
        simp[F]
        refine⟨by omega,by unfold maxLen;omega,?_⟩
        intro gc hgc
        intros
        have F:=an (ad (ad (ad (ad F (show ¬gc=gr by assumption)) (show ¬gc=gp by assumption)) (show ¬gc=ga by assumption)) (show ¬gc=gb by assumption)) (show bl gc=none by assumption)
        refine Dq 16 true ?_
        simp[F]
        refine Dq 17 true ?_
        simp[F]
        refine Dd ?_
        rw[aG]
        exact leaf _ _ ga gb gc hga hgb hgc (by simp[F]) rfl (by simp[S]) (by intro x y hx;simp only[B,aA] at hx ⊢;grind)
    ·simp[F]
     refine⟨by omega,by unfold maxLen;omega,?_⟩
     intro gc hgc
     intros
     have F:=an (ad (ad (ad F (show ¬gc=gr by assumption)) (show ¬gc=gp by assumption)) (show ¬gc=ga by assumption)) (show bl gc=none by assumption)
     refine Dw 8 13 true true ?_ ?_
     ·simp[F]
      refine⟨by omega,by unfold maxLen;omega,?_⟩
      intro gb hgb
      intros
      have F:=an (ad (ad (ad (ad F (show ¬gb=gr by assumption)) (show ¬gb=gp by assumption)) (show ¬gb=ga by assumption)) (show ¬gb=gc by assumption)) (show bl gb=none by assumption)
      refine Dq 13 true ?_
      simp[F]
      refine Dq 14 true ?_
      simp[F]
      refine Dq 15 true ?_
      simp[F]
      refine Dq 16 true ?_
      simp[F]
      refine Dq 17 true ?_
      simp[F]
      refine Dd ?_
      rw[aG]
      exact leaf _ _ ga gb gc hga hgb hgc (by simp[F]) rfl (by simp[S]) (by intro x y hx;simp only[B,aA] at hx ⊢;grind)
     ·simp[F]
      refine Dq 8 true ?_
      simp[F]
      refine⟨by omega,by unfold maxLen;omega,?_⟩
      intro gb hgb
      intros
      have F:=an (ad (ad (ad (ad F (show ¬gb=gr by assumption)) (show ¬gb=gp by assumption)) (show ¬gb=ga by assumption)) (show ¬gb=gc by assumption)) (show bl gb=none by assumption)
      refine Dq 14 true ?_
      simp[F]
      refine Dq 15 true ?_
      simp[F]
      refine Dq 16 true ?_
      simp[F]
      refine Dq 17 true ?_
      simp[F]
      refine Dd ?_
      rw[aG]
      exact leaf _ _ ga gb gc hga hgb hgc (by simp[F]) rfl (by simp[S]) (by intro x y hx;simp only[B,aA] at hx ⊢;grind)
    ·simp[F]
     refine Dw 8 11 true true ?_ ?_
     ·simp[F]
      refine⟨by omega,by unfold maxLen;omega,?_⟩
      intro gb hgb
      intros
      have F:=an (ad (ad (ad F (show ¬gb=gr by assumption)) (show ¬gb=gp by assumption)) (show ¬gb=ga by assumption)) (show bl gb=none by assumption)
      refine Dw 11 14 true true ?_ ?_
      ·simp[F]
       refine⟨by omega,by unfold maxLen;omega,?_⟩
       intro gc hgc
       intros
       have F:=an (ad (ad (ad (ad F (show ¬gc=gr by assumption)) (show ¬gc=gp by assumption)) (show ¬gc=ga by assumption)) (show ¬gc=gb by assumption)) (show bl gc=none by assumption)
       refine Dq 14 true ?_
       simp[F]
       refine Dq 15 true ?_
       simp[F]
       refine Dq 16 true ?_
       simp[F]
       refine Dq 17 true ?_
       simp[F]
       refine Dd ?_
       rw[aG]
       exact leaf _ _ ga gb gc hga hgb hgc (by simp[F]) rfl (by simp[S]) (by intro x y hx;simp only[B,aA] at hx ⊢;grind)
      ·simp[F]
       refine Dw 11 15 true true ?_ ?_
       ·simp[F]
        refine⟨by omega,by unfold maxLen;omega,?_⟩
        intro gc hgc
        intros
        have F:=an (ad (ad (ad (ad F (show ¬gc=gr by assumption)) (show ¬gc=gp by assumption)) (show ¬gc=ga by assumption)) (show ¬gc=gb by assumption)) (show bl gc=none by assumption)
        refine Dq 15 true ?_
        simp[F]
        refine Dq 16 true ?_
        simp[F]
        refine Dq 17 true ?_
        simp[F]
        refine Dd ?_
        rw[aG]
        exact leaf _ _ ga gb gc hga hgb hgc (by simp[F]) rfl (by simp[S]) (by intro x y hx;simp only[B,aA] at hx ⊢;grind)
       ·simp[F]
        refine Dq 11 true ?_
        simp[F]
        refine⟨by omega,by unfold maxLen;omega,?_⟩
        intro gc hgc
        intros
        have F:=an (ad (ad (ad (ad F (show ¬gc=gr by assumption)) (show ¬gc=gp by assumption)) (show ¬gc=ga by assumption)) (show ¬gc=gb by assumption)) (show bl gc=none by assumption)
        refine Dq 16 true ?_
        simp[F]
        refine Dq 17 true ?_
        simp[F]
        refine Dd ?_
        rw[aG]
        exact leaf _ _ ga gb gc hga hgb hgc (by simp[F]) rfl (by simp[S]) (by intro x y hx;simp only[B,aA] at hx ⊢;grind)
     ·simp[F]
      refine⟨by omega,by unfold maxLen;omega,?_⟩
      intro gc hgc
      intros
      have F:=an (ad (ad (ad F (show ¬gc=gr by assumption)) (show ¬gc=gp by assumption)) (show ¬gc=ga by assumption)) (show bl gc=none by assumption)
      refine Dq 8 true ?_
      simp[F]
      refine⟨by omega,by unfold maxLen;omega,?_⟩
      intro gb hgb
      intros
      have F:=an (ad (ad (ad (ad F (show ¬gb=gr by assumption)) (show ¬gb=gp by assumption)) (show ¬gb=ga by assumption)) (show ¬gb=gc by assumption)) (show bl gb=none by assumption)
      refine Dq 14 true ?_
      simp[F]
      refine Dq 15 true ?_
      simp[F]
      refine Dq 16 true ?_
      simp[F]
      refine Dq 17 true ?_
      simp[F]
      refine Dd ?_
      rw[aG]
      exact leaf _ _ ga gb gc hga hgb hgc (by simp[F]) rfl (by simp[S]) (by intro x y hx;simp only[B,aA] at hx ⊢;grind)
  ·simp[F]
   refine⟨by omega,by unfold maxLen;omega,?_⟩
   intro gb hgb
   intros
   have F:=an (ad (ad F (show ¬gb=gr by assumption)) (show ¬gb=gp by assumption)) (show bl gb=none by assumption)
   refine⟨by simp[F],?_⟩
   refine Dw 5 11 false false ?_ ?_
   ·simp[F]
    refine⟨by omega,by unfold maxLen;omega,?_⟩
    intro ga hga
    intros
    have F:=an (ad (ad (ad F (show ¬ga=gr by assumption)) (show ¬ga=gp by assumption)) (show ¬ga=gb by assumption)) (show bl ga=none by assumption)
    refine⟨by simp[F],?_⟩
    refine Dw 11 12 false true ?_ ?_
    ·simp[F]
     refine⟨by omega,by unfold maxLen;omega,?_⟩
     intro gc hgc
     intros
     have F:=an (ad (ad (ad (ad F (show ¬gc=gr by assumption)) (show ¬gc=gp by assumption)) (show ¬gc=gb by assumption)) (show ¬gc=ga by assumption)) (show bl gc=none by assumption)
     refine⟨by simp[F],?_⟩
     refine Dq 12 true ?_
     simp[F]
     refine Dq 13 true ?_
     simp[F]
     refine Dq 14 true ?_
     simp[F]
     refine Dq 15 true ?_
     simp[F]
     refine Dq 16 true ?_
     simp[F]
     refine Dq 17 true ?_
     simp[F]
     refine Dd ?_
     rw[aG]
     exact leaf _ _ ga gb gc hga hgb hgc (by simp[F]) rfl (by simp[S]) (by intro x y hx;simp only[B,aA] at hx ⊢;grind)
    ·simp[F]
     refine Dw 11 13 true true ?_ ?_
     ·simp[F]
      refine⟨by omega,by unfold maxLen;omega,?_⟩
      intro gc hgc
      intros
      have F:=an (ad (ad (ad (ad F (show ¬gc=gr by assumption)) (show ¬gc=gp by assumption)) (show ¬gc=gb by assumption)) (show ¬gc=ga by assumption)) (show bl gc=none by assumption)
      refine Dq 13 true ?_
      simp[F]
      refine Dq 14 true ?_
      simp[F]
      refine Dq 15 true ?_
      simp[F]
      refine Dq 16 true ?_
      simp[F]
      refine Dq 17 true ?_
      simp[F]
      refine Dd ?_
      rw[aG]
      exact leaf _ _ ga gb gc hga hgb hgc (by simp[F]) rfl (by simp[S]) (by intro x y hx;simp only[B,aA] at hx ⊢;grind)
     ·simp[F]
      refine Dw 11 14 true true ?_ ?_
      ·simp[F]
       refine⟨by omega,by unfold maxLen;omega,?_⟩
       intro gc hgc
       intros
       have F:=an (ad (ad (ad (ad F (show ¬gc=gr by assumption)) (show ¬gc=gp by assumption)) (show ¬gc=gb by assumption)) (show ¬gc=ga by assumption)) (show bl gc=none by assumption)
       refine Dq 14 true ?_
       simp[F]
       refine Dq 15 true ?_
       simp[F]
       refine Dq 16 true ?_
       simp[F]
       refine Dq 17 true ?_
       simp[F]
       refine Dd ?_
       rw[aG]
       exact leaf _ _ ga gb gc hga hgb hgc (by simp[F]) rfl (by simp[S]) (by intro x y hx;simp only[B,aA] at hx ⊢;grind)
      ·simp[F]
       refine Dw 11 15 true true ?_ ?_
       ·simp[F]
        refine⟨by omega,by unfold maxLen;omega,?_⟩
        intro gc hgc
        intros
        have F:=an (ad (ad (ad (ad F (show ¬gc=gr by assumption)) (show ¬gc=gp by assumption)) (show ¬gc=gb by assumption)) (show ¬gc=ga by assumption)) (show bl gc=none by assumption)
        refine Dq 15 true ?_
        simp[F]
        refine Dq 16 true ?_
        simp[F]
        refine Dq 17 true ?_
        simp[F]
        refine Dd ?_
        rw[aG]
        exact leaf _ _ ga gb gc hga hgb hgc (by simp[F]) rfl (by simp[S]) (by intro x y hx;simp only[B,aA] at hx ⊢;grind)
       ·simp[F]
        refine Dq 11 true ?_
        simp[F]
        refine⟨by omega,by unfold maxLen;omega,?_⟩
        intro gc hgc
        intros
        have F:=an (ad (ad (ad (ad F (show ¬gc=gr by assumption)) (show ¬gc=gp by assumption)) (show ¬gc=gb by assumption)) (show ¬gc=ga by assumption)) (show bl gc=none by assumption)
        refine Dq 16 true ?_
        simp[F]
        refine Dq 17 true ?_
        simp[F]
        refine Dd ?_
        rw[aG]
        exact leaf _ _ ga gb gc hga hgb hgc (by simp[F]) rfl (by simp[S]) (by intro x y hx;simp only[B,aA] at hx ⊢;grind)
   ·simp[F]
    refine⟨by omega,by unfold maxLen;omega,?_⟩
    intro gc hgc
    intros
    have F:=an (ad (ad (ad F (show ¬gc=gr by assumption)) (show ¬gc=gp by assumption)) (show ¬gc=gb by assumption)) (show bl gc=none by assumption)
    refine⟨by simp[F],?_⟩
    refine Dq 5 false ?_
    simp[F]
    refine⟨by omega,by unfold maxLen;omega,?_⟩
    intro ga hga
    intros
    have F:=an (ad (ad (ad (ad F (show ¬ga=gr by assumption)) (show ¬ga=gp by assumption)) (show ¬ga=gb by assumption)) (show ¬ga=gc by assumption)) (show bl ga=none by assumption)
    refine⟨by simp[F],?_⟩
    refine Dq 12 true ?_
    simp[F]
    refine Dq 13 true ?_
    simp[F]
    refine Dq 14 true ?_
    simp[F]
    refine Dq 15 true ?_
    simp[F]
    refine Dq 16 true ?_
    simp[F]
    refine Dq 17 true ?_
    simp[F]
    refine Dd ?_
    rw[aG]
    exact leaf _ _ ga gb gc hga hgb hgc (by simp[F]) rfl (by simp[S]) (by intro x y hx;simp only[B,aA] at hx ⊢;grind)
  ·simp[F]
   refine⟨by omega,by unfold maxLen;omega,?_⟩
   intro gc hgc
   intros
   have F:=an (ad (ad F (show ¬gc=gr by assumption)) (show ¬gc=gp by assumption)) (show bl gc=none by assumption)
   refine⟨by simp[F],?_⟩
   refine Dw 5 8 false false ?_ ?_
   ·simp[F]
    refine⟨by omega,by unfold maxLen;omega,?_⟩
    intro ga hga
    intros
    have F:=an (ad (ad (ad F (show ¬ga=gr by assumption)) (show ¬ga=gp by assumption)) (show ¬ga=gc by assumption)) (show bl ga=none by assumption)
    refine⟨by simp[F],?_⟩
    refine Dw 8 12 false true ?_ ?_
    ·simp[F]
     refine⟨by omega,by unfold maxLen;omega,?_⟩
     intro gb hgb
     intros
     have F:=an (ad (ad (ad (ad F (show ¬gb=gr by assumption)) (show ¬gb=gp by assumption)) (show ¬gb=gc by assumption)) (show ¬gb=ga by assumption)) (show bl gb=none by assumption)
     refine⟨by simp[F],?_⟩
     refine Dq 12 true ?_
     simp[F]
     refine Dq 13 true ?_
     simp[F]
     refine Dq 14 true ?_
     simp[F]
     refine Dq 15 true ?_
     simp[F]
     refine Dq 16 true ?_
     simp[F]
     refine Dq 17 true ?_
     simp[F]
     refine Dd ?_
     rw[aG]
     exact leaf _ _ ga gb gc hga hgb hgc (by simp[F]) rfl (by simp[S]) (by intro x y hx;simp only[B,aA] at hx ⊢;grind)
    ·simp[F]
     refine Dw 8 13 true true ?_ ?_
     ·simp[F]
      refine⟨by omega,by unfold maxLen;omega,?_⟩
      intro gb hgb
      intros
      have F:=an (ad (ad (ad (ad F (show ¬gb=gr by assumption)) (show ¬gb=gp by assumption)) (show ¬gb=gc by assumption)) (show ¬gb=ga by assumption)) (show bl gb=none by assumption)
      refine Dq 13 true ?_
      simp[F]
      refine Dq 14 true ?_
      simp[F]
      refine Dq 15 true ?_
      simp[F]
      refine Dq 16 true ?_
      simp[F]
      refine Dq 17 true ?_
      simp[F]
      refine Dd ?_
      rw[aG]
      exact leaf _ _ ga gb gc hga hgb hgc (by simp[F]) rfl (by simp[S]) (by intro x y hx;simp only[B,aA] at hx ⊢;grind)
     ·simp[F]
      refine Dq 8 true ?_
      simp[F]
      refine⟨by omega,by unfold maxLen;omega,?_⟩
      intro gb hgb
      intros
      have F:=an (ad (ad (ad (ad F (show ¬gb=gr by assumption)) (show ¬gb=gp by assumption)) (show ¬gb=gc by assumption)) (show ¬gb=ga by assumption)) (show bl gb=none by assumption)
      refine Dq 14 true ?_
      simp[F]
      refine Dq 15 true ?_
      simp[F]
      refine Dq 16 true ?_
      simp[F]
      refine Dq 17 true ?_
      simp[F]
      refine Dd ?_
      rw[aG]
      exact leaf _ _ ga gb gc hga hgb hgc (by simp[F]) rfl (by simp[S]) (by intro x y hx;simp only[B,aA] at hx ⊢;grind)
   ·simp[F]
    refine⟨by omega,by unfold maxLen;omega,?_⟩
    intro gb hgb
    intros
    have F:=an (ad (ad (ad F (show ¬gb=gr by assumption)) (show ¬gb=gp by assumption)) (show ¬gb=gc by assumption)) (show bl gb=none by assumption)
    refine⟨by simp[F],?_⟩
    refine Dq 5 false ?_
    simp[F]
    refine⟨by omega,by unfold maxLen;omega,?_⟩
    intro ga hga
    intros
    have F:=an (ad (ad (ad (ad F (show ¬ga=gr by assumption)) (show ¬ga=gp by assumption)) (show ¬ga=gc by assumption)) (show ¬ga=gb by assumption)) (show bl ga=none by assumption)
    refine⟨by simp[F],?_⟩
    refine Dq 12 true ?_
    simp[F]
    refine Dq 13 true ?_
    simp[F]
    refine Dq 14 true ?_
    simp[F]
    refine Dq 15 true ?_
    simp[F]
    refine Dq 16 true ?_
    simp[F]
    refine Dq 17 true ?_
    simp[F]
    refine Dd ?_
    rw[aG]
    exact leaf _ _ ga gb gc hga hgb hgc (by simp[F]) rfl (by simp[S]) (by intro x y hx;simp only[B,aA] at hx ⊢;grind)
 rintro⟨ga,gb,gc⟩ ⟨a0,b0,c0,ba,ca,cb,ar,ap,br,bp,cr,cp,fa,fb,fc⟩
 simp only at a0 b0 c0 ba ca cb ar ap br bp cr cp fa fb fc
 simp only[S,B]
 clear leaf S B
 obtain⟨BB,hBB⟩: ∃BB:List (List V)→List (List V)→Int→Option Blk,BB=fun ea eb=>upd (upd (upd (upd (upd bl gr (some ⟨5,[[.int .i64 0,.int .i64 0,.nils,.nils,.nils]]⟩)) gp (some ⟨5,[[.int .i64 (nR s),.int .i64 (nC s),.lsl ga 1 0 nA,.lsl gb 1 0 (nR s),.lsl gc 1 0 (nC s)]]⟩)) ga (some ⟨1,ea⟩)) gb (some ⟨1,eb⟩)) gc (some ⟨1,List.replicate (nC s) [.int .i64 0]⟩):=⟨_,rfl⟩
 have hBr: ∀ea eb,BB ea eb gr=some ⟨5,[[.int .i64 0,.int .i64 0,.nils,.nils,.nils]]⟩:=fun ea eb=>by rw[hBB];simp[hpr,Ne.symm hpr,ar,br,cr,Ne.symm ar,Ne.symm br,Ne.symm cr]
 have hBp: ∀ea eb,BB ea eb gp=some ⟨5,[[.int .i64 (nR s),.int .i64 (nC s),.lsl ga 1 0 nA,.lsl gb 1 0 (nR s),.lsl gc 1 0 (nC s)]]⟩:=fun ea eb=>by rw[hBB];simp[ap,bp,cp,Ne.symm ap,Ne.symm bp,Ne.symm cp]
 have hBa: ∀ea eb,BB ea eb ga=some ⟨1,ea⟩:=fun ea eb=>by rw[hBB];simp[ba,ca,Ne.symm ba,Ne.symm ca]
 have hBb: ∀ea eb,BB ea eb gb=some ⟨1,eb⟩:=fun ea eb=>by rw[hBB];simp[cb,Ne.symm cb]
 have hBc: ∀ea eb,BB ea eb gc=some ⟨1,List.replicate (nC s) [.int .i64 0]⟩:=fun ea eb=>by rw[hBB];simp
 have hBs: ∀ea eb,Sub bl (BB ea eb):=fun ea eb=>by rw[hBB];simp[hbr,hbp,fa,fb,fc]
 have aBL: ∀ea eb e,upd (BB ea eb) ga (some ⟨1,e⟩)=BB e eb:=fun ea eb e=>by
  rw[hBB];funext x;simp only[aA];grind
 have aB5: ∀ea eb e,upd (BB ea eb) gb (some ⟨1,e⟩)=BB ea e:=fun ea eb e=>by
  rw[hBB];funext x;simp only[aA];grind
 have hB0:upd (upd (upd (upd (upd bl gr (some ⟨5,[[.int .i64 0,.int .i64 0,.nils,.nils,.nils]]⟩)) gp (some ⟨5,[[.int .i64 (nR s),.int .i64 (nC s),.lsl ga 1 0 nA,.lsl gb 1 0 (nR s),.lsl gc 1 0 (nC s)]]⟩)) ga (some ⟨1,List.replicate nA [.int .i64 0]⟩)) gb (some ⟨1,List.replicate (nR s) [.int .i64 0]⟩)) gc (some ⟨1,List.replicate (nC s) [.int .i64 0]⟩)=BB (part (iv (aTo s nA)) [.int .i64 0] 0) (part (iv (right s l)) [.int .i64 0] 0):=by
  rw[hBB];simp[eX]
 rw[hB0]
 clear hB0 hBB
 refine aC ?_
 simp[er]
 refine aL (fun i:Nat=> [(0,.ptr s.c),(1,.sl (iv l)),(8,.loc gr 5 0 0),(10,.sl (cv (bA s.ms))),(11,.loc gp 5 0 0),(46,.sl (ivv (dM s))),(47,.int .i64 (nR s)),(48,.int .i64 i)]) (fun i=>BB (part (iv (aTo s nA)) [.int .i64 0] (i*nC s)) (part (iv (right s l)) [.int .i64 0] 0)) (fun i=>i≤nR s) (fun i=>nR s - i) 113 0 (Nat.zero_le _) ⟨rfl,by simp,sub_eq (by simp)⟩ ?_
 intro i hi
 refine aC ?_
 simp
 refine⟨fun h=> ?_,fun h=> ?_⟩
 ·have hie:i<(dM s).length:=by omega
  simp[hie]
  obtain⟨row,Jy⟩: ∃r,(dM s)[i]=r:=⟨_,rfl⟩
  have aNJ:row.length=s.ms.length:=jB s row (Jy▸List.getElem_mem hie)
  rw[Jy]
  refine aL (fun c:Nat=> [(0,.ptr s.c),(1,.sl (iv l)),(8,.loc gr 5 0 0),(10,.sl (cv (bA s.ms))),(11,.loc gp 5 0 0),(12,.int .i64 i),(13,.sl (iv row)),(46,.sl (ivv (dM s))),(47,.int .i64 (nR s)),(48,.int .i64 i),(53,.sl (cv (bA s.ms))),(54,.int .i64 (nC s)),(55,.int .i64 c)]) (fun c=>BB (part (iv (aTo s nA)) [.int .i64 0] (i*nC s+c)) (part (iv (right s l)) [.int .i64 0] 0)) (fun c=>c≤nC s) (fun c=>nC s - c) 113 0 (Nat.zero_le _) ⟨rfl,by simp[ec],sub_eq (by simp)⟩ ?_
  intro c hc
  refine aC ?_
  simp
  refine⟨fun hcl=> ?_,fun hcl=> ?_⟩
  ·have hcc:c<(bA s.ms).length:=hcl
   obtain⟨⟨k0,k1⟩,k2⟩:=mV s c hcl
   have qc:(cv (bA s.ms))[c]? =some [.int .i64 (aZ s c).1,.int .i64 (aZ s c).2]:=by simp[cv,aZ,hcc]
   simp[qc]
   intro g1 hg1 hb1
   have n1p:g1≠gp:=fun e=>by rw[e,hBp] at hb1;cases hb1
   have n1a:g1≠ga:=fun e=>by rw[e,hBa] at hb1;cases hb1
   have f1:=cM (hBs _ _) hb1
   obtain⟨⟨k,sg⟩,hk⟩: ∃k,aZ s c=k:=⟨_,rfl⟩
   rw[hk] at k0 k1 k2 ⊢
   simp only at k0 k1 k2 ⊢
   have en:ent s i c=sg*lat row k.toNat:=by
    unfold ent
    rw[hk,qF,rA _ (jB s) i k.toNat hie (by omega),Jy]
   have bd: -100≤lat row k.toNat∧lat row k.toNat≤100:=by
    rw[←Jy,←rA _ (jB s) i k.toNat hie (by omega),←qF];exact M4 hs _
   have qr:(iv row)[k.toNat]? =some [.int .i64 (lat row k.toNat)]:=tF (by omega)
   have w6:IntKind.i64.wrap (sg*lat row k.toNat)=ent s i c:=by
    rw[en];rcases k2 with rfl | rfl<;>exact i64_in (by omega) (by omega)
   have mc:(i+1)*nC s≤nA:=by rw[hA];exact Nat.mul_le_mul_right _ h
   rw[Nat.add_mul] at mc
   have mi:((i*nC s:Nat):Int)=(i:Int)*nC s:=by simp
   have w4:IntKind.i64.wrap ((i:Int)*nC s)=(i:Int)*nC s:=i64_in (by omega) (by omega)
   have w5:IntKind.i64.wrap ((i:Int)*nC s+c)=(i:Int)*nC s+c:=i64_in (by omega) (by omega)
   have w7:IntKind.i64.wrap ((c:Int)+1)=c+1:=i64_in (by omega) (by omega)
   have e1:((i:Int)*nC s+c).toNat=i*nC s+c:=by omega
   have p1:0≤(i:Int)*nC s+c:=by omega
   have p2:(i:Int)*nC s+c<nA:=by omega
   have p3:k<row.length:=by omega
   have hlt:i*nC s+c<(iv (aTo s nA)).length:=by simp;omega
   have ps:=bZ (iv (aTo s nA)) [.int .i64 0] (i*nC s+c) hlt [.int .i64 (ent s i c)] (by
    rw[Ta s nA _ (by omega),Nat.mul_comm i,Nat.mul_add_div (by omega),Nat.mul_add_mod,Nat.div_eq_of_lt hcl,Nat.mod_eq_of_lt hcl,Nat.add_zero])
   have hK:Sub (upd (upd bl gp (some ⟨5,[[.int .i64 (nR s),.int .i64 (nC s),.lsl ga 1 0 nA,.lsl gb 1 0 (nR s),.lsl gc 1 0 (nC s)]]⟩)) g1 (some ⟨2,[[.int .i64 k,.int .i64 sg]]⟩)) (upd (BB (part (iv (aTo s nA)) [.int .i64 0] (i*nC s+c)) (List.replicate (right s l).length [.int .i64 0])) g1 (some ⟨2,[[.int .i64 k,.int .i64 sg]]⟩)):=by
    refine J2 fun x y hx=> ?_
    rw[aA] at hx
    split at hx
    ·rename_i e;rw[e,hBp];exact hx
    ·exact hBs _ _ x y hx
   have hkr:k.toNat<row.length:=by omega
   have er2:row[k.toNat]'hkr=lat row k.toNat:=by simp[lat,hkr]
   refine bQ aO _ hK [0,1,2,3,4,5,6,7,8,9,10,11,12,13,14,15,16] 1 (by kernel_rfl) ?_
   simp[-eY,n1p,Ne.symm n1p,w4,w5,w6,qr,k0,p1,p2,p3,er2]
   refine Dz 17 ?_
   have pg:=dZ (iv (aTo s nA)) [.int .i64 0] (i*nC s+c) hlt
   simp[n1a,Ne.symm n1a,hBa,e1,pg,ps,er2,w6]
   have hK2: ∀z,Sub (upd (upd bl gp (some ⟨5,[[.int .i64 (nR s),.int .i64 (nC s),.lsl ga 1 0 nA,.lsl gb 1 0 (nR s),.lsl gc 1 0 (nC s)]]⟩)) g1 (some ⟨2,[[.int .i64 k,.int .i64 sg]]⟩)) (upd (upd (BB (part (iv (aTo s nA)) [.int .i64 0] (i*nC s+c)) (List.replicate (right s l).length [.int .i64 0])) g1 (some ⟨2,[[.int .i64 k,.int .i64 sg]]⟩)) ga z):=by
    intro z x y hx
    have hxa:x≠ga:=fun e=>by
     rw[e,aA,if_neg (Ne.symm n1a),aA,if_neg ap,fa] at hx;cases hx
    rw[aA,if_neg hxa]
    exact hK x y hx
   refine⟨hK2 _,Dy ?_⟩
   simp[w7,aB]
   refine⟨c+1,by omega,by omega,rfl,by simp,?_⟩
   intro x y hx
   show upd (upd (BB _ _) g1 _) ga _ x=some y
   rw[aA,aA]
   split
   ·rename_i e;rw[e,hBa] at hx;exact hx
   ·rename_i e
    rw[if_neg (fun e=>by rw[e] at hx;rw[←aBL (part (iv (aTo s nA)) [.int .i64 0] (i*nC s+c)),aA,if_neg n1a,hb1] at hx;cases hx)]
    rw[←aBL (part (iv (aTo s nA)) [.int .i64 0] (i*nC s+c)),aA,if_neg e] at hx
    exact hx
  ·have:c=nC s:=by omega
   subst this
   have w7:IntKind.i64.wrap ((i:Int)+1)=i+1:=i64_in (by omega) (by omega)
   simp[w7,aB]
   exact⟨i+1,by omega,by omega,rfl,by simp,sub_eq (by rw[Nat.add_mul,Nat.one_mul])⟩
 ·have:i=nR s:=by omega
  subst this
  rw[←hA,fD _ _ _ (by simp)]
  refine aD (jW s (by omega)) ?_
  simp
  refine aL (fun i:Nat=> [(1,.sl (iv l)),(8,.loc gr 5 0 0),(11,.loc gp 5 0 0),(80,.sl (iv (aF s.js))),(81,.int .i64 (aF s.js).length),(82,.int .i64 i)]) (fun i=>BB (iv (aTo s nA)) (part (iv (right s l)) [.int .i64 0] (2*i))) (fun i=>i≤(aF s.js).length) (fun i=>(aF s.js).length - i) 113 0 (Nat.zero_le _) ⟨rfl,by simp,sub_eq (by simp)⟩ ?_
  intro i hi
  refine aC ?_
  simp
  refine⟨fun h=> ?_,fun h=> ?_⟩
  ·obtain⟨r1,r2⟩:=L3 (List.getElem_mem h)
   have ra:=vM s l (aF s.js) i h
   simp[h]
   obtain⟨j,hj⟩: ∃j,(aF s.js)[i]=j:=⟨_,rfl⟩
   rw[hj] at r1 r2 ra ⊢
   change lat (right s l) (2*i)=_∧lat (right s l) (2*i+1)=_ at ra
   have a1:(2*j).toNat<l.length:=by rw[hL.n];omega
   have a2:(2*j+1).toNat<l.length:=by rw[hL.n];omega
   have b1:=hL.f _ a1
   have b2:=hL.f _ a2
   have q1:=tF a1
   have q2:=tF a2
   have w1:IntKind.i64.wrap (2*j)=2*j:=i64_in (by omega) (by omega)
   have w2:IntKind.i64.wrap (2*j+1)=2*j+1:=i64_in (by omega) (by omega)
   have w3:IntKind.i64.wrap (-lat l (2*j).toNat)=lat (right s l) (2*i):=by rw[ra.1];exact i64_in (by omega) (by omega)
   have w4:IntKind.i64.wrap (-lat l (2*j+1).toNat)=lat (right s l) (2*i+1):=by rw[ra.2];exact i64_in (by omega) (by omega)
   have w5:IntKind.i64.wrap ((i:Int)+1)=i+1:=i64_in (by omega) (by omega)
   have w6:IntKind.i64.wrap (2*(i:Int))=2*i:=i64_in (by omega) (by omega)
   have w7:IntKind.i64.wrap (2*(i:Int)+1)=2*i+1:=i64_in (by omega) (by omega)
   have p1:0≤2*j:=by omega
   have p2:0≤2*j+1:=by omega
   have p3:2*(i:Int)<nR s:=by unfold nR;omega
   have p4:2*(i:Int)+1<nR s:=by unfold nR;omega
   have t1:(2*(i:Int)).toNat=2*i:=by omega
   have t2:(2*(i:Int)+1).toNat=2*i+1:=by omega
   have hl1:2*i<(iv (right s l)).length:=by rw[iA,eX];omega
   have hl2:2*i+1<(iv (right s l)).length:=by rw[iA,eX];omega
   have hK:Sub (upd bl gp (some ⟨5,[[.int .i64 (nR s),.int .i64 (nC s),.lsl ga 1 0 nA,.lsl gb 1 0 (nR s),.lsl gc 1 0 (nC s)]]⟩)) (BB (iv (aTo s nA)) (part (iv (right s l)) [.int .i64 0] (2*i))):=by
    intro x y hx
    rw[aA] at hx
    split at hx
    ·rename_i e;rw[e,hBp];exact hx
    ·exact hBs _ _ x y hx
   have hK2: ∀e,Sub (upd bl gp (some ⟨5,[[.int .i64 (nR s),.int .i64 (nC s),.lsl ga 1 0 nA,.lsl gb 1 0 (nR s),.lsl gc 1 0 (nC s)]]⟩)) (BB (iv (aTo s nA)) e):=by
    intro e x y hx
    rw[aA] at hx
    split at hx
    ·rename_i e;rw[e,hBp];exact hx
    ·exact hBs _ _ x y hx
   have g1:=dZ (iv (right s l)) [.int .i64 0] (2*i) hl1
   have g2:=dZ (iv (right s l)) [.int .i64 0] (2*i+1) hl2
   have s1:=bZ (iv (right s l)) [.int .i64 0] (2*i) hl1 [.int .i64 (lat (right s l) (2*i))] (by
    have:=tF (l:=right s l) (i:=2*i) (by simpa using hl1);rw[List.getElem?_eq_getElem hl1] at this;exact(Option.some.inj this).symm)
   have s2:=bZ (iv (right s l)) [.int .i64 0] (2*i+1) hl2 [.int .i64 (lat (right s l) (2*i+1))] (by
    have:=tF (l:=right s l) (i:=2*i+1) (by simpa using hl2);rw[List.getElem?_eq_getElem hl2] at this;exact(Option.some.inj this).symm)
   refine bQ aO _ hK [0,1,2,3,4,5,6,7,8,9,10,11,12,13,14,15,16,17,18,19,20,21,22] 3 (by kernel_rfl) ?_
   have p5:0≤2*(i:Int):=by omega
   have p6:0≤2*(i:Int)+1:=by omega
   simp[-eY,w1,w2,w3,w4,w6,w7,q1,q2,p1,p2,p3,p4,p5,p6]
   refine rI (i:=23) (by kernel_rfl) (by rfl) (by rfl) ?_
   simp[hBb,t1,g1,s1,aB5]
   refine⟨hK2 _,rI (i:=24) (by kernel_rfl) (by rfl) (by rfl) ?_⟩
   simp[p4,p6]
   refine⟨hK2 _,rI (i:=25) (by kernel_rfl) (by rfl) (by rfl) ?_⟩
   simp[hBb,t2,g2,s2,aB5]
   refine⟨hK2 _,Dy ?_⟩
   simp[w5,aB]
   exact⟨i+1,by omega,by omega,rfl,by simp,sub_eq (by rw[Nat.mul_add])⟩
  ·have:i=(aF s.js).length:=by omega
   subst this
   have cQ:part (iv (right s l)) [.int .i64 0] (2*(aF s.js).length)=iv (right s l):=by
    have e:(iv (right s l)).length=2*(aF s.js).length:=by rw[iA,eX];rfl
    rw[←e];exact fD _ _ _ (Nat.le_refl _)
   rw[cQ]
   simp[hBp,hBr]
   refine cP [.agg [.int .i64 (nR s),.int .i64 (nC s),.lsl ga 1 0 nA,.lsl gb 1 0 (nR s),.lsl gc 1 0 (nC s)]] [ga,gb,gc] (by simp) ?_ (by simp[fa,fb,fc]) ?_
   ·show OwnD _ (.a _) (.agg _) _
    rw[OwnD]
    refine⟨_,rfl,jJ (X5 _) (jJ (X5 _) (jJ (g1:= [ga]) (iN.2 (.inr ⟨ga,by simp[bU,hA],rfl,?_,by omega⟩)) (jJ (g1:= [gb]) (iN.2 (.inr ⟨gb,by simp[bU,eX],rfl,?_,by omega⟩)) (jJ (g1:= [gc]) (iN.2 (.inr ⟨gc,by simp[bU],rfl,?_,by omega⟩)) Ki (by simp)) (by simp[Ne.symm cb])) (by simp[Ne.symm ba,Ne.symm ca])) (by simp)) (by simp)⟩
    ·simp[ar,hBa,bU,hA]
    ·simp[br,hBb,bU]
    ·simp[cr,hBc,bU,iv]
   ·intro x y hx
    have hxr:x≠gr:=fun e=>by rw[e,hbr] at hx;cases hx
    simp[hxr]
    exact hBs _ _ x y hx

end Go.Proofs.YticmgmemnpcbbaaGreat.Vm

namespace Go.Proofs.YticmgmemnpcbbaaGreat.Vm
open Go Go.Proofs
set_option linter.unusedSimpArgs false
set_option linter.unusedVariables false
def aJN (row:List Int):List (Option Rat):=row.map fun(n:Int)=>some (n:Rat)
def aLH (rows:List (List Int)):List (List (Option Rat)):=rows.map aJN
def Si (l:List Int):List RT:=l.map fun(n:Int)=>ro (some (n:Rat))
def small (rows:List (List Int)):Prop:= ∀w,w∈rows→ ∀n,n∈w→ -100≤n∧n≤100
def aMC (s:Str):MX:=if sOk s=true then⟨(dM s).length,s.ms.length,Si (lZ s)⟩ else⟨0,0,[]⟩

def r6 (n:Int):Rat:=mkRat n 6
def q6 (n:Int):Option Rat:=some (r6 n)
def dotTo (a u:List Int):Nat→Int
 | 0 => 0
 | n + 1 => dotTo a u n + lN a n * lN u n
def aEL (a b:List (Option Rat)):Nat→Option Rat
 | 0 => some 0
 | n + 1 => op2 (· + ·) (aEL a b n) (op2 (· * ·) (a.getD n none) (b.getD n none))

def aKC :Pg:=⟨0,0,[],[],[]⟩
def aM2 (s:Str) (l:List Int):Pg:=if lOk s l=true then bU s l else aKC
def aNA (p q:Pg):Bool:=decide (p.rows=q.rows)&& (decide (p.bA=q.bA)&& (decide (p.a=q.a)&& (decide (p.b=q.b)&& decide (p.c=q.c))))
def mkP (k:Nat) (p:Pg):Pg:=⟨p.rows,p.bA,marks k p.a.length,marks (k+p.a.length:Nat) p.b.length,marks (k+p.a.length+p.b.length:Nat) p.c.length⟩
def aMW (k:Nat) (p:Pg):Nat:=k+p.a.length+p.b.length+p.c.length

theorem Mn (p:Pg):(dPg p).dep 2:=by simp[dPg,D.dep,D.depL,jF]
theorem Ry (p:Pg):(dPg p).fz= .agg p.v:=by simp[dPg,D.fz,D.fzL,Pg.v]

def bv (bs:List Int):List (List V):=bs.map fun b=> [.int .u8 b]
@[simp] theorem Xg (bs : List Int) : (bv bs).length = bs.length := by simp [bv]
theorem Rw (bs:List Int) (i:Nat) (h:i<bs.length):(bv bs)[i]? =some [.int .u8 bs[i]]:=by simp[bv,h]
@[simp] theorem aGS (bs : List Int) (i : Nat) (h : i < (bv bs).length) : (bv bs)[i] = [.int .u8 (bs[i]'(by simpa using h))] := by simp [bv]
def cur (bs:List Int) (i h:Int):Blk:=⟨3,[[.sl (bv bs),.int .i64 i,.int .i64 h]]⟩
def lo8 (a:Int):Int:=IntKind.i64.wrap ((BitVec.ofInt 64 a &&& BitVec.ofInt 64 255).toNat)
theorem Hy (a:Int):0≤lo8 a∧lo8 a≤255:=by
 have h:(BitVec.ofInt 64 a &&& BitVec.ofInt 64 255).toNat≤255:=by
  rw[BitVec.toNat_and]
  exact Nat.le_trans Nat.and_le_right (by decide)
 unfold lo8
 rw[i64_in (by omega) (by omega)]
 omega
@[simp high] theorem F5 (P : Program) (t : TypeId) (a : Int) : binV P .and t (.int .i64 a) (.int .i64 255) = some (.int .i64 (lo8 a)) := rfl
def Ba (a:Int) (n:Nat):Int:=a.fdiv (2^n)
def Rr (a b:Int):Int:=IntKind.i64.wrap ((BitVec.ofInt 64 a^^^BitVec.ofInt 64 b).toNat)
@[simp high] theorem Mi (P : Program) (t : TypeId) (a : Int) : binV P .shr t (.int .i64 a) (.int .u64 33) = some (.int .i64 (Ba a 33)) := rfl
@[simp high] theorem Ko (P : Program) (t : TypeId) (a : Int) : binV P .shr t (.int .i64 a) (.int .u64 45) = some (.int .i64 (Ba a 45)) := rfl
@[simp high] theorem Ak (P : Program) (t : TypeId) (a b : Int) : binV P .xor t (.int .i64 a) (.int .i64 b) = some (.int .i64 (Rr a b)) := rfl
structure fT (bs : List Int) (i : Int) : Prop where
 n:bs.length≤1048576
 b: ∀x,x∈bs→0≤x∧x<256
 i0:0≤i
 i1:i≤bs.length
theorem wK {bl:Int→Option Blk} {K:V→(Int→Option Blk)→Prop} (bs:List Int) (i h g:Int) (hc:fT bs i) (hb:bl g=some (cur bs i h))
  (hK: ∀(x i' h':Int),0≤x∧x≤255→fT bs i'→K (.int .i64 x) (upd bl g (some (cur bs i' h')))):bD Tryz.prog 169 [.loc g 3 0 0] bl K:=by
 obtain⟨hn,hbs,h0,h1⟩:=hc
 obtain⟨k,rfl⟩: ∃k:Nat,i=k:=⟨i.toNat,by omega⟩
 refine aY Tryz.func169 rfl rfl (by rw[Tryz.ntmps169];simp) ?_
 rw[Tryz.ntmps169,Tryz.results169]
 refine aC ?_
 simp[hb,cur]
 generalize IntKind.i64.wrap (IntKind.i64.wrap (h*6364136223846793005)+1442695040888963407)=h2
 refine bX aO (by kernel_rfl) ?_
 simp[-binV, -intV,F5,Mi,Ko,Ak]
 obtain⟨x0,hx0⟩: ∃x,x=lo8 (Rr (Ba h2 33) (Ba h2 45)):=⟨_,rfl⟩
 have bx:=Hy (Rr (Ba h2 33) (Ba h2 45))
 rw[←hx0] at bx ⊢
 clear hx0
 refine bX aO (by kernel_rfl) ?_
 simp
 refine⟨fun hlt=> ?_,fun hlt=> ?_⟩
 ·have hk:k<bs.length:=by omega
  have q:=Rw bs k hk
  have w1:IntKind.i64.wrap ((k:Int)+1)=k+1:=i64_in (by omega) (by omega)
  refine bX aO (by kernel_rfl) ?_
  simp[hk,q,F5]
  rw[aU]
  refine⟨[_],by simp;rfl,?_⟩
  simp[w1]
  exact hK _ _ _ (Hy _) ⟨hn,hbs,by omega,by omega⟩
 ·rw[aU]
  refine⟨[_],by simp;rfl,?_⟩
  simp
  exact hK _ _ _ bx ⟨hn,hbs,h0,h1⟩
theorem aT {bl:Int→Option Blk} {K:V→(Int→Option Blk)→Prop} (bs:List Int) (i h g n:Int) (hn:1≤n∧n≤256) (hc:fT bs i) (hb:bl g=some (cur bs i h))
  (hK: ∀(x i' h':Int),0≤x∧x<n→fT bs i'→K (.int .i64 x) (upd bl g (some (cur bs i' h')))):bD Tryz.prog 171 [.loc g 3 0 0,.int .i64 n] bl K:=by
 refine aY Tryz.func171 rfl rfl (by rw[Tryz.ntmps171];simp) ?_
 rw[Tryz.ntmps171,Tryz.results171]
 refine aC ?_
 simp
 refine⟨fun h1=>by omega,fun h1=>⟨fun h2=> ?_,fun h2=>by omega⟩⟩
 refine wK bs i h g hc hb fun x i' h' hx hc'=> ?_
 have hm:x.tmod n=x % n:=Int.tmod_eq_emod_of_nonneg hx.1
 have m1:=Int.emod_nonneg x (show n≠0 by omega)
 have m2:=Int.emod_lt_of_pos x (show 0<n by omega)
 have n0: ¬ n=0:=by omega
 simp[n0]
 rw[aU]
 refine⟨[_],by simp;rfl,?_⟩
 simp
 rw[hm]
 exact hK _ _ _ ⟨m1,m2⟩ hc'
theorem pG {bl:Int→Option Blk} {K:V→(Int→Option Blk)→Prop} (bs:List Int) (i h g n:Int) (hn:1≤n∧n≤256) (hc:fT bs i) (hb:bl g=some (cur bs i h))
  (hK: ∀(x:Bool) (i' h':Int),fT bs i'→K (.bool x) (upd bl g (some (cur bs i' h')))):bD Tryz.prog 179 [.loc g 3 0 0,.int .i64 n] bl K:=by
 refine aY Tryz.func179 rfl rfl (by rw[Tryz.ntmps179];simp) ?_
 rw[Tryz.ntmps179,Tryz.results179]
 refine aC ?_
 simp
 refine aT bs i h g n hn hc hb fun x i' h' hx hc'=> ?_
 simp
 rw[aU]
 refine⟨[_],by simp;rfl,?_⟩
 exact hK _ _ _ hc'
theorem pZ {bl:Int→Option Blk} {K:V→(Int→Option Blk)→Prop} (bs:List Int) (i h g g2:Int) (xs:List Int) (hn:1≤xs.length∧xs.length≤256) (hc:fT bs i) (hb:bl g=some (cur bs i h)) (h2:bl g2=some ⟨1,iv xs⟩) (hne:g2≠g) (h0:0≤g2)
  (hK: ∀(x i' h':Int),x∈xs→fT bs i'→K (.int .i64 x) (upd bl g (some (cur bs i' h')))):bD Tryz.prog 172 [.loc g 3 0 0,.lsl g2 1 0 xs.length] bl K:=by
 refine aY Tryz.func172 rfl rfl (by rw[Tryz.ntmps172];simp) ?_
 rw[Tryz.ntmps172,Tryz.results172]
 refine aC ?_
 simp
 refine aT bs i h g xs.length (by omega) hc hb fun x i' h' hx hc'=> ?_
 obtain⟨m,rfl⟩: ∃m:Nat,x=m:=⟨x.toNat,by omega⟩
 have hm:m<xs.length:=by omega
 simp[hm,hne,h2]
 rw[aU]
 refine⟨[_],by simp;rfl,?_⟩
 exact hK _ _ _ (List.getElem_mem hm) hc'

def msk (a b:Int):Int:=IntKind.i64.wrap ((BitVec.ofInt 64 a &&& BitVec.ofInt 64 b).toNat)
theorem L9 (P:Program) (t:TypeId) (a b:Int):binV P .and t (.int .i64 a) (.int .i64 b)=some (.int .i64 (msk a b)):=rfl
theorem yR (P:Program) (t:TypeId) (a b:Int):binV P .add t (.int .i64 a) (.int .i64 b)=some (.int .i64 (IntKind.i64.wrap (a+b))):=rfl
theorem yL (P:Program) (t:TypeId) (a b:Int):binV P .mul t (.int .i64 a) (.int .i64 b)=some (.int .i64 (IntKind.i64.wrap (a*b))):=rfl
theorem zE {bl:Int→Option Blk} {K:V→(Int→Option Blk)→Prop} (bs:List Int) (hn:bs.length≤1048576)
  (hK: ∀(g h:Int),0≤g→bl g=none→K (.loc g 3 0 0) (upd bl g (some (cur bs 0 h)))):bD Tryz.prog 70 [.sl (bv bs)] bl K:=by
 refine aY Tryz.func70 rfl rfl (by rw[Tryz.ntmps70];simp) ?_
 rw[Tryz.ntmps70,Tryz.results70]
 refine aC ?_
 simp
 refine aL (fun p:Nat×Int=> [(0,.sl (bv bs)),(3,.int .i64 p.2),(4,.int .i64 p.1)]) (fun _=>bl) (fun p=>p.1≤bs.length) (fun p=>bs.length - p.1) 32 (0,_) (Nat.zero_le _) ⟨rfl,by simp;rfl,Sub.refl _⟩ ?_
 rintro⟨i,h⟩ hi
 simp only at hi
 refine aC ?_
 simp
 refine aX [(0,.sl (bv bs)),(3,.int .i64 h),(4,.int .i64 i)] _ bl 15 (.bool (decide (i<bs.length)&& decide (i<4000))) ⟨rfl,by simp,Sub.refl _⟩ rfl ?_ ?_
 ·simp
  refine⟨fun h=>by rw[decide_eq_true h,Bool.true_and];exact decide_eq_decide.2 (by omega),fun h1 h2=>by omega⟩
 have w1:IntKind.i64.wrap ((i:Int)+1)=i+1:=i64_in (by omega) (by omega)
 simp[-binV, -intV,L9,yR,yL]
 refine⟨fun h1 h2=> ?_,fun h1=> ?_⟩
 ·simp[-binV, -intV,L9,yR,yL,h1,w1]
  rw[aB]
  exact⟨(i+1,msk (IntKind.i64.wrap (IntKind.i64.wrap (IntKind.i64.wrap (h*73)+IntKind.i64.wrap bs[i])+7)) 1073741823),by simp only;omega,by simp only;omega,rfl,by simp,Sub.refl _⟩
 ·intro g hg hb
  rw[aU]
  refine⟨[_],by simp;rfl,?_⟩
  exact hK g h hg hb
theorem Am {bl:Int→Option Blk} {K:V→(Int→Option Blk)→Prop} (bs:List Int) (n:Nat) (hn:bs.length≤1048576) (hb: ∀x,x∈bs→0≤x∧x<256) (hn2:n≤1048576)
  (hK: ∀(g i h:Int),0≤g→bl g=none→fT bs i→K (.loc g 3 0 0) (upd bl g (some (cur bs i h)))):bD Tryz.prog 92 [.sl (bv bs),.int .i64 n] bl K:=by
 refine aY Tryz.func92 rfl rfl (by rw[Tryz.ntmps92];simp) ?_
 rw[Tryz.ntmps92,Tryz.results92]
 refine aC ?_
 simp
 refine zE bs hn fun g h hg0 hg=> ?_
 simp
 refine aL (fun p:Nat×Int×Int=> [(1,.int .i64 n),(5,.loc g 3 0 0),(6,.int .i64 p.1)]) (fun p=>upd bl g (some (cur bs p.2.1 p.2.2))) (fun p=>p.1≤n∧fT bs p.2.1) (fun p=>n - p.1) 17 (0,0,h) ⟨Nat.zero_le _,hn,hb,Int.le_refl _,by simp⟩ ⟨rfl,by simp,sub_eq rfl⟩ ?_
 rintro⟨k,i,h⟩ ⟨hk,hc⟩
 simp only at hk hc
 refine aC ?_
 simp
 refine⟨fun h1=> ?_,fun h1=> ?_⟩
 ·refine wK bs i h g hc (by simp) fun x i' h' hx hc'=> ?_
  have w1:IntKind.i64.wrap ((k:Int)+1)=k+1:=i64_in (by omega) (by omega)
  simp[w1]
  rw[aB]
  exact⟨(k+1,i',h'),⟨by simp only;omega,hc'⟩,by simp only;omega,rfl,by simp,sub_eq (by simp)⟩
 ·rw[aU]
  refine⟨[_],by simp;rfl,?_⟩
  exact hK g i h hg0 hg hc

structure LD where
 k:Nat
 ns:List Int
 i:Int
 h:Int
theorem E8 (ns:List Int) (i:Nat) (x:Int):(iv ns).set i [.int .i64 x]=iv (ns.set i x):=by simp[iv,List.map_set]
theorem Q3 {ns:List Int} {i:Nat} {x:Int} (h: ∀y,y∈ns→ -8≤y∧y≤8) (hx: -8≤x∧x≤8): ∀y,y∈ns.set i x→ -8≤y∧y≤8:=by
 intro y hy
 rcases List.mem_or_eq_of_mem_set hy with hy | rfl
 ·exact h y hy
 ·exact hx
theorem uQ {bl:Int→Option Blk} {K:V→(Int→Option Blk)→Prop} (bs:List Int) (i h g:Int) (s:Str) (hj:1≤s.js.length∧s.js.length≤6) (hc:fT bs i) (hb:bl g=some (cur bs i h))
  (hK: ∀(g2:Int) (ns:List Int) (i' h':Int) bl',0≤g2→bl g2=none→ns.length=2*s.js.length→(∀x,x∈ns→ -8≤x∧x≤8)→fT bs i'→bl' g=some (cur bs i' h')→bl' g2=some ⟨1,iv ns⟩→(∀x y,x≠g→bl x=some y→bl' x=some y)→K (.lsl g2 1 0 (2*s.js.length)) bl'):
  bD Tryz.prog 105 [.loc g 3 0 0,.agg s.c] bl K:=by
 refine aY Tryz.func105 rfl rfl (by rw[Tryz.ntmps105];simp) ?_
 rw[Tryz.ntmps105,Tryz.results105]
 refine aC ?_
 have w0:IntKind.i64.wrap (2*(s.js.length:Int))=2*s.js.length:=i64_in (by omega) (by omega)
 simp[Str.c,w0]
 intro gs Uk hgs
 refine⟨2*s.js.length,by simp,by simp,by omega,by unfold maxLen;omega,fun g2 hg2 h2=> ?_⟩
 have ngs:gs≠g:=fun e=>by rw[e,hb] at hgs;cases hgs
 simp at h2
 obtain⟨n2s,hb2⟩:=h2
 have n2g:g2≠g:=fun e=>by rw[e,hb] at hb2;cases hb2
 have er:List.replicate (2*s.js.length) [V.int IntKind.i64 0]=iv (List.replicate (2*s.js.length) 0):=by simp[iv]
 simp[n2s,Ne.symm n2s,er]
 refine aL (fun p:LD=> [(0,.loc g 3 0 0),(3,.loc gs 2 0 0),(5,.lsl g2 1 0 (2*s.js.length)),(14,.sl (jv s.js)),(15,.int .i64 s.js.length),(16,.int .i64 p.k)]) (fun p=>upd (upd (upd bl gs (some ⟨2,[[.sl (jv s.js),.sl (mv s.ms)]]⟩)) g2 (some ⟨1,iv p.ns⟩)) g (some (cur bs p.i p.h)))
  (fun p=>p.k≤s.js.length∧fT bs p.i∧p.ns.length=2*s.js.length∧ ∀x,x∈p.ns→ -8≤x∧x≤8) (fun p=>s.js.length - p.k) 48 ⟨0,List.replicate (2*s.js.length) 0,i,h⟩ ⟨Nat.zero_le _,hc,by simp,fun x hx=>by simp at hx;omega⟩ ⟨rfl,by simp,fun x y hx=>by simp only[aA] at hx ⊢;grind⟩ ?_
 rintro⟨k,ns,i',h'⟩ ⟨hk,hc',hl,hr⟩
 simp only at hk hc' hl hr
 refine aC ?_
 simp
 refine⟨fun h1=> ?_,fun h1=> ?_⟩
 ·simp[h1,J.c]
  intro g7 hg7 h7g h72 h7s hb7
  refine⟨fun hf=> ?_,fun hf=> ?_⟩
  ·have w2:IntKind.i64.wrap (2*(k:Int))=2*k:=i64_in (by omega) (by omega)
   have w3:IntKind.i64.wrap (2*(k:Int)+1)=2*k+1:=i64_in (by omega) (by omega)
   have p1:0≤2*(k:Int):=by omega
   have p2:0≤2*(k:Int)+1:=by omega
   have p3:2*(k:Int)<2*s.js.length:=by omega
   have p4:2*(k:Int)+1<2*s.js.length:=by omega
   have t1:(2*(k:Int)).toNat=2*k:=by omega
   have t2:(2*(k:Int)+1).toNat=2*k+1:=by omega
   refine aT bs i' h' g 7 (by omega) hc' (by simp[Ne.symm h7g]) fun x i1 h1' hx hc1=> ?_
   have w4:IntKind.i64.wrap (x - 3)=x - 3:=i64_in (by omega) (by omega)
   have k1:2*k<ns.length:=by omega
   simp[w2,w3,w4,p1,p2,p3,p4,t1,t2,h7g,Ne.symm h7g,h72,Ne.symm h72,n2g,Ne.symm n2g,k1]
   refine⟨h1,aT bs i1 h1' g 9 (by omega) hc1 (by simp[Ne.symm n2g]) fun y i2 h2' hy hc2=> ?_⟩
   have w5:IntKind.i64.wrap (-y)= -y:=i64_in (by omega) (by omega)
   have k2:2*k+1<ns.length:=by omega
   have w1:IntKind.i64.wrap ((k:Int)+1)=k+1:=i64_in (by omega) (by omega)
   simp[w1,w5,p2,p4,t2,n2g,Ne.symm n2g,k2,E8]
   rw[aB]
   refine⟨⟨k+1,(ns.set (2*k) (x - 3)).set (2*k+1) (-y),i2,h2'⟩,⟨by simp only;omega,hc2,by simp[hl],Q3 (Q3 hr (by omega)) (by omega)⟩,by simp only;omega,rfl,by simp,?_⟩
   intro u z hx
   simp only[aA] at hx ⊢
   grind
  ·have w1:IntKind.i64.wrap ((k:Int)+1)=k+1:=i64_in (by omega) (by omega)
   simp[w1]
   rw[aB]
   exact⟨⟨k+1,ns,i',h'⟩,⟨by simp only;omega,hc',hl,hr⟩,by simp only;omega,rfl,by simp,by simp[h7g,h72,h7s,hb7]⟩
 ·have n8:1≤(8:Int)∧(8:Int)≤256:=by omega
  refine pG bs i' h' g 8 n8 hc' (by simp) fun x i1 h1' hc1=> ?_
  cases x
  ·simp
   rw[aU]
   refine⟨[_],by simp;rfl,?_⟩
   refine hK g2 ns i1 h1' _ hg2 hb2 hl hr hc1 (by simp) (by simp[n2g]) fun u z hu hz=> ?_
   have e1:u≠gs:=fun e=>by rw[e,hgs] at hz;cases hz
   have e2:u≠g2:=fun e=>by rw[e,hb2] at hz;cases hz
   simp[hu,e1,e2,hz]
  ·have w6:IntKind.i64.wrap (2*(s.js.length:Int) - 1)=2*s.js.length - 1:=i64_in (by omega) (by omega)
   have p5:0≤2*(s.js.length:Int) - 1:=by omega
   have p6:2*(s.js.length:Int) - 1<2*s.js.length:=by omega
   have t3:(2*(s.js.length:Int) - 1).toNat=2*s.js.length - 1:=by omega
   have k3:2*s.js.length - 1<ns.length:=by omega
   simp[w6,p5,p6,t3,n2g,Ne.symm n2g,k3,E8]
   refine⟨by omega,?_⟩
   rw[aU]
   refine⟨[_],by simp;rfl,?_⟩
   refine hK g2 (ns.set (2*s.js.length - 1) 4) i1 h1' _ hg2 hb2 (by simp[hl]) (Q3 hr (by omega)) hc1 (by simp[Ne.symm n2g]) (by simp) fun u z hu hz=> ?_
   have e1:u≠gs:=fun e=>by rw[e,hgs] at hz;cases hz
   have e2:u≠g2:=fun e=>by rw[e,hb2] at hz;cases hz
   simp[hu,e1,e2,hz]
end Go.Proofs.YticmgmemnpcbbaaGreat.Vm
