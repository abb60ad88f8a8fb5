import Derived.Test.YticmgmemnpcbbaaGreatQCFnExactPretensionOf3

namespace Go.Proofs.YticmgmemnpcbbaaGreat.Vm
open Go Go.Proofs
set_option linter.unusedSimpArgs false
set_option linter.unusedVariables false
def S5 (k:Nat) (out:ByteArray):ByteArray:=if h:k=0 then out else S5 (k / 10) (pP [IntKind.u8.wrap (IntKind.i64.wrap (48+(k:Int).tmod 10))]++out)
termination_by k
decreasing_by omega
def Cc (k:Nat):ByteArray:=if k=0 then { data:= #[109,48] } else({ data:= #[109] } :ByteArray)++S5 k { data:= #[] }
theorem Lo {k:Nat} (h:k≠0) (out:ByteArray):S5 k out=S5 (k / 10) (pP [IntKind.u8.wrap (IntKind.i64.wrap (48+(k:Int).tmod 10))]++out):=by
 rw[S5,dif_neg h]
theorem Na (out:ByteArray):S5 0 out=out:=by rw[S5,dif_pos rfl]
theorem Ap (k:Nat) (hk:k≤4611686018427387904):RO Tryz.prog 208 [.int .i64 k] (.str (Cc k)):=by
 refine aJ Tryz.func208 rfl rfl (by rw[Tryz.ntmps208];simp) fun bl=> ?_
 rw[Tryz.ntmps208,Tryz.results208]
 refine aC ?_
 simp
 refine⟨fun h=> ?_,fun h=> ?_⟩
 ·exact aS (by simp[Cc,h]) rfl rfl
 refine aI (fun p:Nat×ByteArray=> [(0,.int .i64 p.1),(3,.str p.2)]) (fun _=>bl) (fun p=>p.1+p.2.size≤k∧S5 p.1 p.2=S5 k { data:= #[] }) (fun p=>p.1) _ (k, { data:= #[] }) ⟨by simp[ByteArray.size],rfl⟩ ⟨rfl,by simp,Sub.refl _⟩ ?_
 rintro⟨n,out⟩ ⟨hn,hd⟩
 simp only at hn hd
 refine aC ?_
 simp
 refine⟨fun h1=> ?_,fun h1=> ?_⟩
 ·intro g hg0 hg
  have hsz: ∀x,(pP [x]).size=1:=fun x=>rfl
  simp[cvtV,cvtS,elsV,Int.not_lt.2 hg0,bytesOf]
  have h2:=hsz (IntKind.u8.wrap (IntKind.i64.wrap (48+(n:Int).tmod 10)))
  refine⟨by omega,?_⟩
  simp[aB]
  refine⟨n / 10,pP [IntKind.u8.wrap (IntKind.i64.wrap (48+(n:Int).tmod 10))]++out,⟨?_,?_⟩,by omega,rfl,?_,?_⟩
  ·rw[ByteArray.size_append,h2];omega
  ·rw[←hd];exact(Lo (by omega) out).symm
  ·simp
   exact i64_in (by omega) (by omega)
  ·simp[hg]
 ·have:n=0:=by omega
  subst this
  rw[Na] at hd
  subst hd
  have h2:({ data:= #[109] } :ByteArray).size=1:=rfl
  simp only[h2]
  refine⟨by omega,?_⟩
  exact aS (by simp[Cc,h]) rfl rfl
def mkJ (k n:Nat):List J:=(List.range n).map fun i=>⟨Cc (k+4*i),(k+4*i+1:Nat),(k+4*i+2:Nat),((k+4*i+3:Nat):Int).tmod 3==0⟩
@[simp] theorem aEY (k n : Nat) : (mkJ k n).length = n := by simp [mkJ]
@[simp] theorem aJ8 (k n i : Nat) (h : i < (mkJ k n).length) : (mkJ k n)[i] = ⟨Cc (k + 4 * i), (k + 4 * i + 1 : Nat), (k + 4 * i + 2 : Nat), ((k + 4 * i + 3 : Nat) : Int).tmod 3 == 0⟩ := by simp [mkJ]
def mkM (k n:Nat):List Mb:=(List.range n).map fun i=>⟨(k+3*i:Nat),(k+3*i+1:Nat),(k+3*i+2:Nat)⟩
@[simp] theorem aBP (k n : Nat) : (mkM k n).length = n := by simp [mkM]
@[simp] theorem aPZ (k n i : Nat) (h : i < (mkM k n).length) : (mkM k n)[i] = ⟨(k + 3 * i : Nat), (k + 3 * i + 1 : Nat), (k + 3 * i + 2 : Nat)⟩ := by simp [mkM]
theorem Cb {α β:Type} [DecidableEq α] (f:α→β) (a:α) (b:β) (h:f a=b):upd f a b=f:=by
 funext x
 simp only[aA]
 split
 ·rename_i hx;subst hx;exact h.symm
 ·rfl
theorem K7 {bl:Int→Option Blk} {K:V→(Int→Option Blk)→Prop} (xs:List J) (k:Nat) (v:V) (gs:List Int) (h:OwnD bl (fl 4 (jv xs)) v gs) (hk:k+4*xs.length≤4611686018427387000)
  (hK: ∀bl',OwnD bl' (fl 4 (jv (mkJ k xs.length))) v gs→(∀g,g∉gs→bl' g=bl g)→K (.int .i64 (k+4*xs.length:Nat)) bl'):cH Tryz.prog 131 [v,.int .i64 k] bl K:=by
 refine cP Tryz.func131 rfl rfl (by rw[Tryz.ntmps131];simp) ?_
 rw[Tryz.ntmps131,Tryz.results131]
 refine aC ?_
 rcases V6.1 h with ⟨rfl,rfl,rfl⟩| ⟨g,rfl,rfl,hb,hg0⟩
 ·simp
  refine aI (fun _:Unit=> [(0,.nils),(1,.int .i64 k),(5,.int .i64 0)]) (fun _=>bl) (fun _=>True) (fun _=>0) _ () trivial ⟨rfl,by simp,Sub.refl _⟩ ?_
  intro _ _
  refine aC ?_
  simp
  rw[cE]
  refine⟨[.int .i64 k],by simp,?_⟩
  have:=hK bl (V6.2 (.inl ⟨rfl,rfl,rfl⟩)) (fun _ _=>rfl)
  simpa using this
 ·simp
  refine aI (fun i:Nat=> [(0,.lsl g 4 0 xs.length),(1,.int .i64 (k+4*i:Nat)),(5,.int .i64 i)]) (fun i=>upd bl g (some ⟨4,oC (jv (mkJ k xs.length)) (jv xs) i⟩)) (fun i=>i≤xs.length) (fun i=>xs.length - i) _ 0 (Nat.zero_le _) ⟨rfl,by simp,sub_eq ?_⟩ ?_
  ·exact(Cb _ _ _ (by simpa using hb)).symm
  intro i hi
  refine aC ?_
  simp
  refine⟨fun h1=> ?_,fun h1=> ?_⟩
  ·have h2:i<(jv xs).length:=by simpa using h1
   have hge:0≤g:=by
    rcases Int.lt_or_le g 0 with hlt | hge
    ·have:=hg0 hlt;subst this;simp at h1
    ·exact hge
   have hgi:=uV (jv (mkJ k xs.length)) (jv xs) i (by simp) h2
   have hgE:=O7 (jv (mkJ k xs.length)) (jv xs) i (by simp) h2
   have hol:i<(oC (jv (mkJ k xs.length)) (jv xs) i).length:=by rw[kX _ _ _ (by simp)];exact h2
   have hm:=Ap (k+4*i) (by omega)
   simp at hm
   simp[h1]
   refine aD hm ?_
   simp (disch:=omega) [h1,hgi,i64_in,J.c,hol,List.getElem?_set_self,List.set_set]
   simp only[aB]
   refine⟨i+1,by omega,by omega,rfl,by simp;omega,sub_eq ?_⟩
   simp only[mH]
   rw[G3 _ _ _ (by simp) (by simpa using h1) _ (by simp[hgE,J.c,Int.add_assoc])]
  ·have hi':i=xs.length:=by omega
   subst hi'
   rw[cE]
   refine⟨[.int .i64 (k+4*xs.length:Nat)],by simp,?_⟩
   refine hK _ (V6.2 (.inr ⟨g,by simp,rfl,?_,fun h=>by have:=hg0 h;subst this;rfl⟩)) (fun g' hg'=> ?_)
   ·simp;rw[G4 _ _ _ (by simp) (by simp)]
   ·simp at hg';simp[hg']
theorem rA {bl:Int→Option Blk} {K:V→(Int→Option Blk)→Prop} (xs:List Mb) (k:Nat) (v:V) (gs:List Int) (h:OwnD bl (fl 3 (mv xs)) v gs) (hk:k+3*xs.length≤4611686018427387000)
  (hK: ∀bl',OwnD bl' (fl 3 (mv (mkM k xs.length))) v gs→(∀g,g∉gs→bl' g=bl g)→K (.int .i64 (k+3*xs.length:Nat)) bl'):cH Tryz.prog 132 [v,.int .i64 k] bl K:=by
 refine cP Tryz.func132 rfl rfl (by rw[Tryz.ntmps132];simp) ?_
 rw[Tryz.ntmps132,Tryz.results132]
 refine aC ?_
 rcases X3.1 h with ⟨rfl,rfl,rfl⟩| ⟨g,rfl,rfl,hb,hg0⟩
 ·simp
  refine aI (fun _:Unit=> [(0,.nils),(1,.int .i64 k),(5,.int .i64 0)]) (fun _=>bl) (fun _=>True) (fun _=>0) _ () trivial ⟨rfl,by simp,Sub.refl _⟩ ?_
  intro _ _
  refine aC ?_
  simp
  rw[cE]
  refine⟨[.int .i64 k],by simp,?_⟩
  have:=hK bl (X3.2 (.inl ⟨rfl,rfl,rfl⟩)) (fun _ _=>rfl)
  simpa using this
 ·simp
  refine aI (fun i:Nat=> [(0,.lsl g 3 0 xs.length),(1,.int .i64 (k+3*i:Nat)),(5,.int .i64 i)]) (fun i=>upd bl g (some ⟨3,oC (mv (mkM k xs.length)) (mv xs) i⟩)) (fun i=>i≤xs.length) (fun i=>xs.length - i) _ 0 (Nat.zero_le _) ⟨rfl,by simp,sub_eq ?_⟩ ?_
  ·exact(Cb _ _ _ (by simpa using hb)).symm
  intro i hi
  refine aC ?_
  simp
  refine⟨fun h1=> ?_,fun h1=> ?_⟩
  ·have h2:i<(mv xs).length:=by simpa using h1
   have hge:0≤g:=by
    rcases Int.lt_or_le g 0 with hlt | hge
    ·have:=hg0 hlt;subst this;simp at h1
    ·exact hge
   have hgi:=uV (mv (mkM k xs.length)) (mv xs) i (by simp) h2
   have hgE:=O7 (mv (mkM k xs.length)) (mv xs) i (by simp) h2
   have hol:i<(oC (mv (mkM k xs.length)) (mv xs) i).length:=by rw[kX _ _ _ (by simp)];exact h2
   simp (disch:=omega) [h1,hgi,i64_in,Mb.c,hol,List.getElem?_set_self,List.set_set]
   simp only[aB]
   refine⟨i+1,by omega,by omega,rfl,by simp;omega,sub_eq ?_⟩
   simp only[mH]
   rw[G3 _ _ _ (by simp) (by simpa using h1) _ (by simp[hgE,Mb.c,Int.add_assoc])]
  ·have hi':i=xs.length:=by omega
   subst hi'
   rw[cE]
   refine⟨[.int .i64 (k+3*xs.length:Nat)],by simp,?_⟩
   refine hK _ (X3.2 (.inr ⟨g,by simp,rfl,?_,fun h=>by have:=hg0 h;subst this;rfl⟩)) (fun g' hg'=> ?_)
   ·simp;rw[G4 _ _ _ (by simp) (by simp)]
   ·simp at hg';simp[hg']
def mkS (k:Nat) (s:Str):Str:=⟨mkJ k s.js.length,mkM (k+4*s.js.length) s.ms.length⟩
def mkN (k:Nat) (s:Str):Nat:=k+4*s.js.length+3*s.ms.length
theorem wY {bl:Int→Option Blk} {K:V→(Int→Option Blk)→Prop} (s:Str) (k:Nat) (vs:List V) (gs:List Int) (h:OwnL bl (J6 s) vs gs) (hk:mkN k s≤4611686018427387000)
  (hK: ∀bl',OwnL bl' (J6 (mkS k s)) vs gs→(∀g,g∉gs→ ∀b,bl g=some b→bl' g=some b)→K (.int .i64 (mkN k s:Nat)) bl'):cH Tryz.prog 56 [.agg vs,.int .i64 k] bl K:=by
 obtain⟨v,w,g1,g2,rfl,rfl,hd,o1,o2⟩:=iF.1 h
 obtain⟨c1,c2⟩:=o1.one
 obtain⟨d1,d2⟩:=o2.one
 unfold mkN at hk
 refine cP Tryz.func56 rfl rfl (by rw[Tryz.ntmps56];simp) ?_
 rw[Tryz.ntmps56,Tryz.results56]
 refine aC ?_
 simp[c1,d1]
 intro g hg0 hg
 have f1: ∀x,x∈g1→x≠g:=fun x hx h=>by obtain⟨b,hb⟩:=o1.has x hx;rw[h,hg] at hb;cases hb
 have f2: ∀x,x∈g2→x≠g:=fun x hx h=>by obtain⟨b,hb⟩:=o2.has x hx;rw[h,hg] at hb;cases hb
 refine K7 s.js k v g1 (o1.frame fun x hx=>by simp[f1 x hx]) (by omega) fun b1 p1 q1=> ?_
 have n1:b1 g=some ⟨2,[[v,w]]⟩:=by rw[q1 g (fun h=>f1 g h rfl)];simp
 have p2:OwnD b1 (fl 3 (mv s.ms)) w g2:=o2.frame fun x hx=>by rw[q1 x (fun h=>hd x h hx)];simp[f2 x hx]
 simp[n1]
 have:=rA (bl:=b1) (K:=K) s.ms (k+4*s.js.length) w g2 p2 (by omega)
 refine rA s.ms (k+4*s.js.length) w g2 p2 (by omega) fun b2 p3 q3=> ?_
 simp
 rw[cE]
 refine⟨[_],by simp;rfl,?_⟩
 have:=hK b2 (iF.2 ⟨v,w,g1,g2,rfl,rfl,hd,p1.frame fun x hx=>q3 x (hd x hx),p3⟩) (fun x hx b hb=> ?_)
 ·simpa [mkN] using this
 ·simp at hx
  rw[q3 x hx.2,q1 x hx.1]
  simp only[aA]
  rw[if_neg (fun e=>by subst e;rw[hg] at hb;cases hb)];exact hb

end Go.Proofs.YticmgmemnpcbbaaGreat.Vm

namespace Go.Proofs.YticmgmemnpcbbaaGreat.Vm
open Go Go.Proofs
set_option linter.unusedSimpArgs false
set_option linter.unusedVariables false
def aVP (s:Str):List Int:=if sOk s=true then List.replicate (2*s.js.length) 0 else []

def aW0 (s:Str):List Int:=if sOk s=true then aQ s.js else []
theorem sX (s:Str) (hj:s.js.length≤1048576):RO Tryz.prog 74 [.ptr s.c] (.sl (iv (aQ s.js))):=by
 have:=gJ 1 (J9 s hj) (iZ _ _ 0)
 simpa using this
theorem Fh (s:Str) (hj:s.js.length≤1048576):NW Tryz.prog 93 [.agg s.c] (fl 1 (iv (aQ s.js))):=by
 refine fU Tryz.func93 rfl rfl (by rw[Tryz.ntmps93];simp) fun bl=> ?_
 rw[Tryz.ntmps93,Tryz.results93]
 refine aC ?_
 simp[Str.c]
 intro gs aCD hgs g00 tQ aQA aDZ
 simp[aQA,Ne.symm aQA]
 refine aI (fun p:Nat×Int=> [(3,.lsl p.2 1 0 (cA s.js p.1).length),(8,.sl (jv s.js)),(9,.int .i64 s.js.length),(10,.int .i64 p.1)]) (fun p=>upd bl p.2 (some ⟨1,iv (cA s.js p.1)⟩)) (fun p=>p.1≤s.js.length∧bl p.2=none∧(p.2<0→cA s.js p.1= [])) (fun p=>s.js.length - p.1) _ (0,g00) ⟨Nat.zero_le _,aDZ,fun _=>rfl⟩ (by refine⟨rfl,by simp[cA],?_⟩;exact dM (by simp[cA,iv]) (by simp[hgs])) ?_
 rintro⟨i,g⟩ ⟨hi,hg,h0⟩
 simp only at hi hg h0
 have hl:=jK s.js i
 refine aC ?_
 simp
 refine⟨fun h=> ?_,fun h=> ?_⟩
 ·simp[h,J.c]
  intro g1 hg1 h1g hb1
  refine⟨fun hf=> ?_,fun hf=> ?_⟩
  ·intro g2 hg2 h21 h2g hb2
   simp[h1g,h21,h2g,Ne.symm h1g,Ne.symm h21,Ne.symm h2g,appV,elsV,Int.not_lt.2 hg2]
   refine⟨by omega,fun g3 hg3 hb3=> ?_⟩
   have gL:bl g3=none:=by grind
   simp (disch:=omega) [i64_in,aB]
   have hjf:(s.js.getD i default).fixed=false:=by simpa [h] using hf
   have hs1:cA s.js (i+1)=cA s.js i++ [(i:Int)]:=by rw[lP,hjf];rfl
   refine⟨i+1,g3,⟨by omega,gL,by omega⟩,by omega,rfl,by simp[hs1],?_⟩
   rw[hs1,aZ]
   exact dM (by rw[dZ];rfl) (by simp[hg,hb1,hb2,h1g,h21,h2g])
  ·simp (disch:=omega) [i64_in,aB]
   have hjf:(s.js.getD i default).fixed=true:=by simpa [h] using hf
   have hs1:cA s.js (i+1)=cA s.js i:=by rw[lP,hjf];simp
   refine⟨i+1,g,⟨by omega,hg,by rw[hs1];exact h0⟩,by omega,rfl,by simp[hs1],?_⟩
   rw[hs1]
   simp[hb1,h1g]
 ·have hi:i=s.js.length:=by omega
  subst hi
  refine dI [.lsl g 1 0 (cA s.js s.js.length).length] [g] (by simp) ?_ (by simpa using hg) (by simp[hg])
  refine dP.2 (.inr ⟨g,rfl,rfl,by simp[aQ],h0⟩)
theorem tU (s:Str) (hj:s.js.length≤1048576):RO Tryz.prog 93 [.agg s.c] (.sl (iv (aQ s.js))):=by
 have:=gJ 1 (Fh s hj) (iZ _ _ 0)
 simpa using this
def aW4 (s:Str):Int:=if sOk s=true then s.ms.length - 2*(aQ s.js).length else 0

def aZB (s:Str) (k:Int):Int:=IntKind.i64.wrap (IntKind.i64.wrap (aLP s k*aLP s k)+IntKind.i64.wrap (aPC s k*aPC s k))

def lat (l:List Int) (i:Nat):Int:=l.getD i 0
theorem yQ {l:List Int} {i:Nat} (h:i<l.length):(iv l)[i]? =some [.int .i64 (lat l i)]:=by simp[lat,h]
structure LOk (s : Str) (l : List Int) : Prop where
 sok:SOk s
 n:l.length=2*s.js.length
 f: ∀i,i<l.length→ -100≤lat l i∧lat l i≤100
def sumX (l:List Int):Nat→Int
 | 0 => 0
 | n + 1 => sumX l n + lat l (2 * n)
def aMC (l:List Int):Nat→Int
 | 0 => 0
 | n + 1 => aMC l n + lat l (2 * n + 1)
def aX6 (s:Str) (l:List Int):Int:=if lOk s l=true then sumX l s.js.length else 0
def aXT (s:Str) (l:List Int):Int:=if lOk s l=true then aMC l s.js.length else 0
def aAB (s:Str) (l:List Int) (x y:Int):Nat→Int
 | 0 => 0
 | n + 1 => aAB s l x y n + ((jat s.js n).x - x) * lat l (2 * n + 1) - ((jat s.js n).y - y) * lat l (2 * n)
def aOB (s:Str) (l:List Int) (x y:Int):Bool:=lOk s l && (decide (-1000≤x)&& decide (x≤1000))&& (decide (-1000≤y)&& decide (y≤1000))
def aXM (s:Str) (l:List Int) (x y:Int):Int:=if aOB s l x y=true then aAB s l x y s.js.length else 0

theorem nL (a:List Int) (ha:a.length≤1048576):NW Tryz.prog 174 [.sl (iv a)] (fl 1 (iv a)):=by
 cases a with
 | nil =>
   intro bl
   refine G7 ?_ ?_
   ·refine sY ?_
    refine cP Tryz.func174 rfl rfl (by rw[Tryz.ntmps174];simp) ?_
    rw[Tryz.ntmps174,Tryz.results174]
    refine aC ?_
    simp
    exact dI [.nils] [] rfl (dP.2 (.inl ⟨rfl,rfl,rfl⟩)) (by simp) (Sub.refl _)
   ·refine sY ?_
    refine cP Tryz.func174 rfl rfl (by rw[Tryz.ntmps174];simp) ?_
    rw[Tryz.ntmps174,Tryz.results174]
    refine aC ?_
    simp
    intro g hg0 hg
    simp[appV,elsV]
    intro g' hb'
    refine dI [.lsl g' 1 0 0] [g'] (by simp) (dP.2 (.inr ⟨g',rfl,rfl,by simp[iv],fun _=>rfl⟩)) ?_ ?_
    ·simp;grind
    ·have:bl g'=none:=by grind
     simp[hg,this]
 | cons x a =>
   simp only[List.length_cons] at ha
   refine fU Tryz.func174 rfl rfl (by rw[Tryz.ntmps174];simp) fun bl=> ?_
   rw[Tryz.ntmps174,Tryz.results174]
   refine aC ?_
   simp[iv]
   intro g hg0 hg
   simp[appV,elsV]
   refine⟨by omega,fun g' hg' hb'=> ?_⟩
   have hbn:bl g'=none:=by grind
   refine dI [.lsl g' 1 0 (a.length+1)] [g'] (by simp) ?_ (by simpa using hbn) (by simp[hg,hbn])
   exact(dP (ns:=x::a)).2 (.inr ⟨g',by simp,rfl,by simp[iv],by omega⟩)
theorem M3 (a:List Int) (ha:a.length≤1048576):RO Tryz.prog 174 [.sl (iv a)] (.sl (iv a)):=by
 have:=gJ 1 (nL a ha) (iZ _ _ 0)
 simpa using this

theorem L6 (l:List Int) (k:Int) (hl:l.length≤140737488351232):RO Tryz.prog 281 [.sl (iv l),.int .i64 k] (.int .i64 (ixf (fun x=>decide (k=x)) l)):=by
 refine aJ Tryz.func281 rfl rfl (by rw[Tryz.ntmps281];simp) fun bl=> ?_
 rw[Tryz.ntmps281,Tryz.results281]
 refine aC ?_
 simp
 refine aI (fun i:Nat=> [(0,.sl (iv l)),(1,.int .i64 k),(7,.int .i64 l.length),(8,.int .i64 i)]) (fun _=>bl) (fun i=>i≤l.length∧ ∀j (h1:j<l.length),j<i→decide (k=l[j])=false) (fun i=>l.length - i) _ 0 ⟨Nat.zero_le _,fun j _ h0=>by omega⟩ ⟨rfl,by simp,Sub.refl _⟩ ?_
 intro i ⟨hi,hc⟩
 refine aC ?_
 simp
 refine⟨fun h1=> ?_,fun h1=> ?_⟩
 ·simp[h1]
  refine⟨fun h2=> ?_,fun h2=> ?_⟩
  ·exact aS (by rw[uB (p:=fun x=>decide (k=x)) h1 hc (by simpa using h2)];simp) rfl rfl
  ·simp (disch:=omega) [i64_in,aB]
   refine⟨i+1,⟨by omega,fun j hj1 hji=> ?_⟩,by omega,rfl,by simp,Sub.refl _⟩
   rcases Nat.lt_or_ge j i with hlt | hge
   ·simpa using hc j hj1 hlt
   ·obtain rfl:j=i:=by omega
    simpa using h2
 ·exact aS (by rw[uA (p:=fun x=>decide (k=x)) fun j hj=>hc j hj (by omega)];simp) rfl rfl
theorem any_eq (l:List Int) (k:Int):(l.any fun x=>decide (k=x))=decide (k∈l):=by
 rw[Bool.eq_iff_iff];simp
theorem wU (l:List Int) (k:Int) (hl:l.length≤140737488351232):RO Tryz.prog 255 [.sl (iv l),.int .i64 k] (.bool (decide (k∈l))):=by
 refine aJ Tryz.func255 rfl rfl (by rw[Tryz.ntmps255];simp) fun bl=> ?_
 rw[Tryz.ntmps255,Tryz.results255]
 refine aC ?_
 simp
 refine aD (L6 l k hl) ?_
 simp
 exact aS (by simp[Qd,any_eq]) rfl rfl

def aEQ (ms:List Mb) (l:List Int) (n:Nat):List Mb:=((List.range n).filter fun(i:Nat)=> !decide ((i:Int)∈l)).map fun(i:Nat)=>ms.getD i default
def aQ0 (s:Str) (l:List Int):Str:=⟨s.js,aEQ s.ms l s.ms.length⟩

end Go.Proofs.YticmgmemnpcbbaaGreat.Vm

namespace Go.Proofs.YticmgmemnpcbbaaGreat.Vm
open Go Go.Proofs
set_option linter.unusedSimpArgs false
set_option linter.unusedVariables false
def ivv (ws:List (List Int)):List (List V):=ws.map fun w=> [.sl (iv w)]
def dII (ws:List (List Int)):D:= .s 1 (ws.map fun w=> [fl 1 (iv w)])
@[simp] theorem aE2 (ws : List (List Int)) : (ivv ws).length = ws.length := by simp [ivv]
@[simp] theorem aMO (ws : List (List Int)) (i : Nat) (h : i < (ivv ws).length) : (ivv ws)[i] = [.sl (iv (ws[i]'(by simpa using h)))] := by simp [ivv]
theorem aB1 (ws:List (List Int)):(dII ws).fz= .sl (ivv ws):=by
 unfold dII ivv
 rw[D.fz,zP,List.map_map]
 congr 1
 exact List.map_congr_left fun w _=>by simp
theorem Yk (ws:List (List Int)):(dII ws).dep 2:=by
 unfold dII
 rw[D.dep]
 refine⟨by omega,?_⟩
 induction ws with
 | nil => simp [D.depR]
 | cons w ws ih => simp [D.depR, D.depL, iZ] at ih ⊢; exact ih

def eL (s:Str) (j:Int):List Int:=s.ms.map (eqX s j)
def eX (s:Str) (j:Int):List Int:=s.ms.map (eqY s j)
def dF (s:Str):List (List Int):=(aQ s.js).flatMap fun j=> [eL s j,eX s j]
def xO (s:Str) (n:Nat):List (List Int):=((aQ s.js).take n).flatMap fun j=> [eL s j,eX s j]
theorem Q0 (s:Str) (n:Nat) (h:n<(aQ s.js).length):xO s (n+1)=xO s n++ [eL s (aQ s.js)[n],eX s (aQ s.js)[n]]:=by
 unfold xO
 rw[List.take_add_one,List.getElem?_eq_getElem h,List.flatMap_append]
 simp
theorem mY (s:Str): ∀n,n≤(aQ s.js).length→(xO s n).length=2*n
 | 0, _ => by simp [xO]
 | n + 1, h => by
   rw[Q0 s n (by omega),List.length_append,mY s n (by omega)]
   simp;omega
@[simp] theorem mW (s : Str) (j : Int) : (eL s j).length = s.ms.length := by simp [eL]
@[simp] theorem mX (s : Str) (j : Int) : (eX s j).length = s.ms.length := by simp [eX]
theorem A0 {s:Str} {k:Nat} (h:k<s.ms.length):mat s k=s.ms[k]:=by simp[mat,h]
theorem Me {s:Str} (hs:SOk s) {m:Mb} (hm:m∈s.ms):(-100≤vx s m∧vx s m≤100)∧(-100≤vy s m∧vy s m≤100):=by
 obtain⟨⟨a1,a2⟩,⟨b1,b2⟩⟩:=hs.ix _ hm
 have ca:=hs.at a1 a2
 have cb:=hs.at b1 b2
 unfold vx vy
 omega
structure aAQ where
 i:Nat
 g:Int
 els:List (List V)
 gs:List Int
 b:Int→Option Blk
theorem lZ (xs:List (List V)) (z:List V) (i:Nat) (h:i<xs.length) (hz:xs[i]=z):part xs z i=part xs z (i+1):=by
 rw[←cX xs z i h z hz.symm]
 have:=fE xs z i h
 apply List.ext_getElem?
 intro j
 rw[List.getElem?_set]
 split
 ·rename_i e;subst e;rw[if_pos (by rw[yL];exact h)];exact this
 ·rfl
def Pv (bl:Int→Option Blk) (s:Str) (p:aAQ):Prop:=
 p.i≤(aQ s.js).length∧p.b p.g=some ⟨1,p.els⟩∧p.els.length=2*p.i∧OwnR p.b 1 ((xO s p.i).map fun w=> [fl 1 (iv w)]) p.els p.gs∧p.g∉p.gs∧bl p.g=none∧(∀x,x∈p.gs→bl x=none)∧Sub bl p.b∧(p.g<0→p.els= [])
theorem tG {bl:Int→Option Blk} {s:Str} {i:Nat} {g:Int} {els:List (List V)} {gs:List Int} {b:Int→Option Blk} (H:Pv bl s ⟨i,g,els,gs,b⟩) (h:i<(aQ s.js).length)
  {ga gb gp gn:Int} (hga:0≤ga) (hba:b ga=none) (hgb:0≤gb) (hab: ¬gb=ga) (hbb:b gb=none) (hpa: ¬gp=ga) (hpb: ¬gp=gb) (hbp:b gp=none) (hgn:0≤gn)
  (hbn: ¬gn=g→ ¬gn=gp∧ ¬gn=gb∧ ¬gn=ga∧b gn=none):
  Pv bl s ⟨i+1,gn,els++ [[.lsl ga 1 0 s.ms.length]]++ [[.lsl gb 1 0 s.ms.length]],gs++ [ga]++ [gb],
   upd (rem (upd (upd (upd b ga (some ⟨1,iv (eL s (aQ s.js)[i])⟩)) gb (some ⟨1,iv (eX s (aQ s.js)[i])⟩)) gp (some ⟨1,[[.lsl ga 1 0 s.ms.length],[.lsl gb 1 0 s.ms.length]]⟩)) g) gn
    (some ⟨1,els.take (2*i)++ [[.lsl ga 1 0 s.ms.length],[.lsl gb 1 0 s.ms.length]]⟩)⟩:=by
 obtain⟨hi,hb,hel,ho,hn,hg,hf,hsb,cO⟩:=H
 simp only at hi hb hel ho hn hg hf hsb cO
 have nga:ga≠g:=fun e=>by rw[e,hb] at hba;cases hba
 have ngb:gb≠g:=fun e=>by rw[e,hb] at hbb;cases hbb
 have ngp:gp≠g:=fun e=>by rw[e,hb] at hbp;cases hbp
 have fa:=aR hsb hba
 have fb:=aR hsb hbb
 have fp:=aR hsb hbp
 have na:gn≠ga:=fun e=>by
  by_cases c:gn=g
  ·exact nga (e.symm.trans c)
  ·exact(hbn c).2.2.1 e
 have nb:gn≠gb:=fun e=>by
  by_cases c:gn=g
  ·exact ngb (e.symm.trans c)
  ·exact(hbn c).2.1 e
 have fn:bl gn=none:=by
  by_cases c:gn=g
  ·rw[c];exact hg
  ·exact aR hsb (hbn c).2.2.2
 have nn:gn∉gs:=by
  by_cases c:gn=g
  ·rw[c];exact hn
  ·exact ho.not (hbn c).2.2.2
 have key: ∀(B:Int→Option Blk) (u v w z:Option Blk),B=upd (rem (upd (upd (upd b ga u) gb v) gp w) g) gn z→ ∀x y,x≠g→x≠gn→b x=some y→B x=some y:=by
  intro B u v w z hB x y c1 c2 hx
  have c3:x≠ga:=fun e=>by rw[e,hba] at hx;cases hx
  have c4:x≠gb:=fun e=>by rw[e,hbb] at hx;cases hx
  have c5:x≠gp:=fun e=>by rw[e,hbp] at hx;cases hx
  rw[hB];simp[c1,c2,c3,c4,c5,hx]
 have vx1: ∀xs:List Int,(iv xs).all (fun r=>r.all V.cl)=true:=fun xs=>by simp[iv,V.cl]
 have vx2: ∀(xs:List Int) r,r∈iv xs→r.length=1:=fun xs r hr=>by
  simp[iv] at hr
  obtain⟨_,_,rfl⟩:=hr;rfl
 have et:els.take (2*i)=els:=List.take_of_length_le (by omega)
 refine⟨by simp only;omega,by simp[et],by simp[hel];omega,?_,?_,fn,?_,?_,fun e=>by simp only at e;omega⟩
 ·simp only
  rw[Q0 s i h,List.map_append,show(∀(A:List (List D)) (x y:List Int),A++ [x,y].map (fun w=> [fl 1 (iv w)])=A++ [[fl 1 (iv x)]]++ [[fl 1 (iv y)]]) from fun A x y=>by simp]
  generalize hB:upd (rem (upd (upd (upd b ga (some ⟨1,iv (eL s (aQ s.js)[i])⟩)) gb (some ⟨1,iv (eX s (aQ s.js)[i])⟩)) gp (some ⟨1,[[.lsl ga 1 0 s.ms.length],[.lsl gb 1 0 s.ms.length]]⟩)) g) gn
    (some ⟨1,els.take (2*i)++ [[.lsl ga 1 0 s.ms.length],[.lsl gb 1 0 s.ms.length]]⟩)=B
  have o0:=ho.cZ fun x hx y hy=>key _ _ _ _ _ hB.symm x y (fun e=>hn (e▸hx)) (fun e=>nn (e▸hx)) hy
  have oa:OwnD B (fl 1 (iv (eL s (aQ s.js)[i]))) (.lsl ga 1 0 s.ms.length) [ga]:=(oP (vx1 _) (vx2 _)).2 (.inr ⟨ga,by simp,rfl,by rw[←hB];simp[Ne.symm na,Ne.symm hpa,Ne.symm hab,nga],by omega⟩)
  have ob:OwnD B (fl 1 (iv (eX s (aQ s.js)[i]))) (.lsl gb 1 0 s.ms.length) [gb]:=(oP (vx1 _) (vx2 _)).2 (.inr ⟨gb,by simp,rfl,by rw[←hB];simp[Ne.symm nb,Ne.symm hpb,ngb],by omega⟩)
  refine OwnR.snoc (pK.2 ob) rfl (by simp) (OwnR.snoc (pK.2 oa) rfl (by simp) o0 ?_) ?_
  ·intro x hx hx2
   rw[List.mem_singleton] at hx2
   exact ho.not hba (hx2▸hx)
  ·intro x hx hx2
   rw[List.mem_singleton] at hx2
   subst hx2
   rcases List.mem_append.1 hx with hx | hx
   ·exact ho.not hbb hx
   ·rw[List.mem_singleton] at hx;exact hab hx
 ·simp[nn,na,nb]
 ·intro x hx
  simp at hx
  rcases hx with hx | hx | hx
  ·exact hf x hx
  ·rw[hx];exact fa
  ·rw[hx];exact fb
 ·intro x y hx
  exact key _ _ _ _ _ rfl x y (fun e=>by rw[e,hg] at hx;cases hx) (fun e=>by rw[e,fn] at hx;cases hx) (hsb x y hx)
set_option maxHeartbeats 2000000 in
theorem I0 (s:Str) (hs:SOk s):NW Tryz.prog 148 [.ptr s.c] (dII (dF s)):=by
 have h6:=hs.nj
 have h8:=hs.nm
 have hfr:=jK s.js s.js.length
 change(aQ s.js).length≤s.js.length at hfr
 refine fU Tryz.func148 rfl rfl (by rw[Tryz.ntmps148];simp) fun bl=> ?_
 rw[Tryz.ntmps148,Tryz.results148]
 refine aC ?_
 simp
 refine aD (sX s (by omega)) ?_
 simp
 refine rJ 3 1 (by simp) fun g00 tQ=> ?_
 simp at tQ
 refine aI (fun p:aAQ=> [(0,.ptr s.c),(3,.lsl p.g 1 0 (2*p.i)),(13,.sl (iv (aQ s.js))),(14,.int .i64 (aQ s.js).length),(15,.int .i64 p.i)]) (fun p=>p.b)
  (Pv bl s)
  (fun p=>(aQ s.js).length - p.i) 82 ⟨0,g00,[],[],upd bl g00 (some ⟨1,[]⟩)⟩ ⟨Nat.zero_le _,by simp,rfl,by simp[xO,OwnR],by simp,tQ,by simp,by simp[tQ],fun _=>rfl⟩ ⟨rfl,by simp,by simp⟩ ?_
 rintro⟨i,g,els,gs,b⟩ ⟨hi,hb,hel,ho,hn,hg,hf,hsb,cO⟩
 simp only at hi hb hel ho hn hg hf hsb cO
 refine aC ?_
 simp
 refine⟨fun h=> ?_,fun h=> ?_⟩
 ·have q:=eC (aQ s.js) i h
  simp[h]
  obtain⟨j,hj⟩: ∃j,(aQ s.js)[i]=j:=⟨_,rfl⟩
  rw[hj]
  refine qK aL [0,1,2,3,4,6,7,8,9,10] 4 (by kernel_rfl) ?_
  simp[Str.c]
  refine jW (i:=5) (j:=11) (by kernel_rfl) rfl rfl rfl rfl ?_ ?_
  ·simp
   refine⟨by omega,by unfold maxLen;omega,fun ga hga hba=>⟨by simp[hba],?_⟩⟩
   refine jW (i:=11) (j:=12) (by kernel_rfl) rfl rfl rfl rfl ?_ ?_
   ·simp
    refine⟨by omega,by unfold maxLen;omega,fun gb hgb hab hbb=>⟨by simp[hba,hbb,hab],?_⟩⟩
    refine Dz 12 ?_
    simp
    refine⟨by simp[hba,hbb,hab],Dz 13 ?_⟩
    simp
    refine⟨by simp[hba,hbb,hab],Dy ?_⟩
    simp[Str.c]
    have nga:ga≠g:=fun e=>by rw[e,hb] at hba;cases hba
    have ngb:gb≠g:=fun e=>by rw[e,hb] at hbb;cases hbb
    have fa:=aR hsb hba
    have fb:=aR hsb hbb
    have er:List.replicate s.ms.length [V.int IntKind.i64 0]=part (iv (eL s j)) [.int .i64 0] 0:=by simp
    have er':List.replicate s.ms.length [V.int IntKind.i64 0]=part (iv (eX s j)) [.int .i64 0] 0:=by simp
    refine aI (fun k:Nat=> [(0,.ptr s.c),(3,.lsl g 1 0 (2*i)),(5,.int .i64 j),(6,.lsl ga 1 0 s.ms.length),(7,.lsl gb 1 0 s.ms.length),(13,.sl (iv (aQ s.js))),(14,.int .i64 (aQ s.js).length),(15,.int .i64 i),(34,.sl (mv s.ms)),(35,.int .i64 s.ms.length),(36,.int .i64 k)])
     (fun k=>upd (upd b ga (some ⟨1,part (iv (eL s j)) [.int .i64 0] k⟩)) gb (some ⟨1,part (iv (eX s j)) [.int .i64 0] k⟩)) (fun k=>k≤s.ms.length) (fun k=>s.ms.length - k) 82 0 (Nat.zero_le _) ⟨rfl,by simp[Str.c],?_⟩ ?_
    ·intro x y hx
     simp only[aA,wL,kK,mW,mX] at hx ⊢
     grind
    intro k hk
    refine aC ?_
    simp
    refine⟨fun hkl=> ?_,fun hkl=> ?_⟩
    ·have hv:=Me hs (List.getElem_mem hkl)
     have hm:mat s (k:Int)=s.ms[k]:=A0 hkl
     have F6:=wF s k hs (by omega) (by omega)
     rw[hm] at F6
     have hx:k<(iv (eL s j)).length:=by simpa using hkl
     have hy:k<(iv (eX s j)).length:=by simpa using hkl
     have w1:IntKind.i64.wrap ((k:Int)+1)=k+1:=i64_in (by omega) (by omega)
     have nx:IntKind.i64.wrap (-vx s s.ms[k])= -vx s s.ms[k]:=i64_in (by omega) (by omega)
     have ny:IntKind.i64.wrap (-vy s s.ms[k])= -vy s s.ms[k]:=i64_in (by omega) (by omega)
     have px:=fE (iv (eL s j)) [.int .i64 0] k hx
     have py:=fE (iv (eX s j)) [.int .i64 0] k hy
     simp[hkl,Mb.c]
     intro g9 hg9 h9b h9a hb9
     refine aD F6 ?_
     simp
     refine⟨fun e1=> ?_,fun e1=> ?_⟩
     ·simp[hab,Ne.symm hab,h9a,h9b,Ne.symm h9a,Ne.symm h9b,hkl,px,py,w1,aB]
      have sx:=cX (iv (eL s j)) [.int .i64 0] k hx [.int .i64 (vx s s.ms[k])] (by simp[eL,eqX,e1])
      have sy:=cX (iv (eX s j)) [.int .i64 0] k hy [.int .i64 (vy s s.ms[k])] (by simp[eX,eqY,e1])
      refine⟨k+1,by omega,by omega,rfl,by simp,?_⟩
      intro x y hx'
      rw[←sx,←sy] at hx'
      simp only[aA] at hx' ⊢
      grind
     ·simp[hab,Ne.symm hab,h9a,h9b,Ne.symm h9a,Ne.symm h9b,hkl,px,py,w1,nx,ny,aB]
      refine⟨fun e2=> ?_,fun e2=> ?_⟩
      ·have fx:eqX s j s.ms[k]= -vx s s.ms[k]:=by rw[eqX,if_neg e1,if_pos e2]
       have fy:eqY s j s.ms[k]= -vy s s.ms[k]:=by rw[eqY,if_neg e1,if_pos e2]
       have sx:=cX (iv (eL s j)) [.int .i64 0] k hx [.int .i64 (-vx s s.ms[k])] (by simp[eL,fx])
       have sy:=cX (iv (eX s j)) [.int .i64 0] k hy [.int .i64 (-vy s s.ms[k])] (by simp[eX,fy])
       refine⟨k+1,by omega,by omega,rfl,by simp,?_⟩
       intro x y hx'
       rw[←sx,←sy] at hx'
       simp only[aA] at hx' ⊢
       grind
      ·have sx:=lZ (iv (eL s j)) [.int .i64 0] k hx (by simp[eL,eqX,e1,e2])
       have sy:=lZ (iv (eX s j)) [.int .i64 0] k hy (by simp[eX,eqY,e1,e2])
       refine⟨k+1,by omega,by omega,rfl,by simp,?_⟩
       intro x y hx'
       rw[←sx,←sy] at hx'
       simp only[aA] at hx' ⊢
       grind
    ·have:k=s.ms.length:=by omega
     subst this
     rw[gH _ _ _ (by simp),gH _ _ _ (by simp)]
     intro gp hgp hpb hpa hbp
     have npg:gp≠g:=fun e=>by rw[e,hb] at hbp;cases hbp
     have er2:List.range 2= [0,1]:=rfl
     simp[er2,appV,elsV,Int.not_lt.2 hgp,hpb,hpa,Ne.symm hpb,Ne.symm hpa,nga,ngb,Ne.symm nga,Ne.symm ngb,npg,Ne.symm npg,hb,hel]
     refine⟨by omega,fun gn hgn hbn=> ?_⟩
     have w9:IntKind.i64.wrap ((i:Int)+1)=i+1:=i64_in (by omega) (by omega)
     rw[aB]
     subst hj
     have nx:=tG ⟨hi,hb,hel,ho,hn,hg,hf,hsb,cO⟩ h hga hba hgb hab hbb hpa hpb hbp hgn hbn
     refine⟨_,nx,by simp only;omega,rfl,?_,sub_eq rfl⟩
     simp[w9];exact⟨rfl,by omega⟩
   ·simp
    refine⟨by simp[hba],Dz 11 ?_⟩
    simp
    refine⟨by omega,by unfold maxLen;omega,fun gb hgb hab hbb=>⟨by simp[hba,hbb,hab],?_⟩⟩
    refine Dz 13 ?_
    simp
    refine⟨by simp[hba,hbb,hab],Dy ?_⟩
    simp[Str.c]
    have nga:ga≠g:=fun e=>by rw[e,hb] at hba;cases hba
    have ngb:gb≠g:=fun e=>by rw[e,hb] at hbb;cases hbb
    have fa:=aR hsb hba
    have fb:=aR hsb hbb
    have er:List.replicate s.ms.length [V.int IntKind.i64 0]=part (iv (eL s j)) [.int .i64 0] 0:=by simp
    have er':List.replicate s.ms.length [V.int IntKind.i64 0]=part (iv (eX s j)) [.int .i64 0] 0:=by simp
    refine aI (fun k:Nat=> [(0,.ptr s.c),(3,.lsl g 1 0 (2*i)),(5,.int .i64 j),(6,.lsl ga 1 0 s.ms.length),(7,.lsl gb 1 0 s.ms.length),(13,.sl (iv (aQ s.js))),(14,.int .i64 (aQ s.js).length),(15,.int .i64 i),(34,.sl (mv s.ms)),(35,.int .i64 s.ms.length),(36,.int .i64 k)])
     (fun k=>upd (upd b ga (some ⟨1,part (iv (eL s j)) [.int .i64 0] k⟩)) gb (some ⟨1,part (iv (eX s j)) [.int .i64 0] k⟩)) (fun k=>k≤s.ms.length) (fun k=>s.ms.length - k) 82 0 (Nat.zero_le _) ⟨rfl,by simp[Str.c],?_⟩ ?_
    ·intro x y hx
     simp only[aA,wL,kK,mW,mX] at hx ⊢
     grind
    intro k hk
    refine aC ?_
    simp
    refine⟨fun hkl=> ?_,fun hkl=> ?_⟩
    ·have hv:=Me hs (List.getElem_mem hkl)
     have hm:mat s (k:Int)=s.ms[k]:=A0 hkl
     have F6:=wF s k hs (by omega) (by omega)
     rw[hm] at F6
     have hx:k<(iv (eL s j)).length:=by simpa using hkl
     have hy:k<(iv (eX s j)).length:=by simpa using hkl
     have w1:IntKind.i64.wrap ((k:Int)+1)=k+1:=i64_in (by omega) (by omega)
     have nx:IntKind.i64.wrap (-vx s s.ms[k])= -vx s s.ms[k]:=i64_in (by omega) (by omega)
     have ny:IntKind.i64.wrap (-vy s s.ms[k])= -vy s s.ms[k]:=i64_in (by omega) (by omega)
     have px:=fE (iv (eL s j)) [.int .i64 0] k hx
     have py:=fE (iv (eX s j)) [.int .i64 0] k hy
     simp[hkl,Mb.c]
     intro g9 hg9 h9b h9a hb9
     refine aD F6 ?_
     simp
     refine⟨fun e1=> ?_,fun e1=> ?_⟩
     ·simp[hab,Ne.symm hab,h9a,h9b,Ne.symm h9a,Ne.symm h9b,hkl,px,py,w1,aB]
      have sx:=cX (iv (eL s j)) [.int .i64 0] k hx [.int .i64 (vx s s.ms[k])] (by simp[eL,eqX,e1])
      have sy:=cX (iv (eX s j)) [.int .i64 0] k hy [.int .i64 (vy s s.ms[k])] (by simp[eX,eqY,e1])
      refine⟨k+1,by omega,by omega,rfl,by simp,?_⟩
      intro x y hx'
      rw[←sx,←sy] at hx'
      simp only[aA] at hx' ⊢
      grind
     ·simp[hab,Ne.symm hab,h9a,h9b,Ne.symm h9a,Ne.symm h9b,hkl,px,py,w1,nx,ny,aB]
      refine⟨fun e2=> ?_,fun e2=> ?_⟩
      ·have fx:eqX s j s.ms[k]= -vx s s.ms[k]:=by rw[eqX,if_neg e1,if_pos e2]
       have fy:eqY s j s.ms[k]= -vy s s.ms[k]:=by rw[eqY,if_neg e1,if_pos e2]
       have sx:=cX (iv (eL s j)) [.int .i64 0] k hx [.int .i64 (-vx s s.ms[k])] (by simp[eL,fx])
       have sy:=cX (iv (eX s j)) [.int .i64 0] k hy [.int .i64 (-vy s s.ms[k])] (by simp[eX,fy])
       refine⟨k+1,by omega,by omega,rfl,by simp,?_⟩
       intro x y hx'
       rw[←sx,←sy] at hx'
       simp only[aA] at hx' ⊢
       grind
      ·have sx:=lZ (iv (eL s j)) [.int .i64 0] k hx (by simp[eL,eqX,e1,e2])
       have sy:=lZ (iv (eX s j)) [.int .i64 0] k hy (by simp[eX,eqY,e1,e2])
       refine⟨k+1,by omega,by omega,rfl,by simp,?_⟩
       intro x y hx'
       rw[←sx,←sy] at hx'
       simp only[aA] at hx' ⊢
       grind
    ·have:k=s.ms.length:=by omega
     subst this
     rw[gH _ _ _ (by simp),gH _ _ _ (by simp)]
     intro gp hgp hpb hpa hbp
     have npg:gp≠g:=fun e=>by rw[e,hb] at hbp;cases hbp
     have er2:List.range 2= [0,1]:=rfl
     simp[er2,appV,elsV,Int.not_lt.2 hgp,hpb,hpa,Ne.symm hpb,Ne.symm hpa,nga,ngb,Ne.symm nga,Ne.symm ngb,npg,Ne.symm npg,hb,hel]
     refine⟨by omega,fun gn hgn hbn=> ?_⟩
     have w9:IntKind.i64.wrap ((i:Int)+1)=i+1:=i64_in (by omega) (by omega)
     rw[aB]
     subst hj
     have nx:=tG ⟨hi,hb,hel,ho,hn,hg,hf,hsb,cO⟩ h hga hba hgb hab hbb hpa hpb hbp hgn hbn
     refine⟨_,nx,by simp only;omega,rfl,?_,sub_eq rfl⟩
     simp[w9];exact⟨rfl,by omega⟩
  ·simp
   refine⟨by omega,by unfold maxLen;omega,fun gb hgb hbb=>⟨by simp[hbb],?_⟩⟩
   refine Dz 5 ?_
   simp
   refine⟨by omega,by unfold maxLen;omega,fun ga hga hab hba=>⟨by simp[hba,hbb,hab],?_⟩⟩
   refine Dz 12 ?_
   simp
   refine⟨by simp[hba,hbb,hab],Dz 13 ?_⟩
   simp
   refine⟨by simp[hba,hbb,hab],Dy ?_⟩
   simp[Str.c]
   have nga:ga≠g:=fun e=>by rw[e,hb] at hba;cases hba
   have ngb:gb≠g:=fun e=>by rw[e,hb] at hbb;cases hbb
   have fa:=aR hsb hba
   have fb:=aR hsb hbb
   have er:List.replicate s.ms.length [V.int IntKind.i64 0]=part (iv (eL s j)) [.int .i64 0] 0:=by simp
   have er':List.replicate s.ms.length [V.int IntKind.i64 0]=part (iv (eX s j)) [.int .i64 0] 0:=by simp
   refine aI (fun k:Nat=> [(0,.ptr s.c),(3,.lsl g 1 0 (2*i)),(5,.int .i64 j),(6,.lsl ga 1 0 s.ms.length),(7,.lsl gb 1 0 s.ms.length),(13,.sl (iv (aQ s.js))),(14,.int .i64 (aQ s.js).length),(15,.int .i64 i),(34,.sl (mv s.ms)),(35,.int .i64 s.ms.length),(36,.int .i64 k)])
    (fun k=>upd (upd b ga (some ⟨1,part (iv (eL s j)) [.int .i64 0] k⟩)) gb (some ⟨1,part (iv (eX s j)) [.int .i64 0] k⟩)) (fun k=>k≤s.ms.length) (fun k=>s.ms.length - k) 82 0 (Nat.zero_le _) ⟨rfl,by simp[Str.c],?_⟩ ?_
   ·intro x y hx
    simp only[aA,wL,kK,mW,mX] at hx ⊢
    grind
   intro k hk
   refine aC ?_
   simp
   refine⟨fun hkl=> ?_,fun hkl=> ?_⟩
   ·have hv:=Me hs (List.getElem_mem hkl)
    have hm:mat s (k:Int)=s.ms[k]:=A0 hkl
    have F6:=wF s k hs (by omega) (by omega)
    rw[hm] at F6
    have hx:k<(iv (eL s j)).length:=by simpa using hkl
    have hy:k<(iv (eX s j)).length:=by simpa using hkl
    have w1:IntKind.i64.wrap ((k:Int)+1)=k+1:=i64_in (by omega) (by omega)
    have nx:IntKind.i64.wrap (-vx s s.ms[k])= -vx s s.ms[k]:=i64_in (by omega) (by omega)
    have ny:IntKind.i64.wrap (-vy s s.ms[k])= -vy s s.ms[k]:=i64_in (by omega) (by omega)
    have px:=fE (iv (eL s j)) [.int .i64 0] k hx
    have py:=fE (iv (eX s j)) [.int .i64 0] k hy
    simp[hkl,Mb.c]
    intro g9 hg9 h9b h9a hb9
    refine aD F6 ?_
    simp
    refine⟨fun e1=> ?_,fun e1=> ?_⟩
    ·simp[hab,Ne.symm hab,h9a,h9b,Ne.symm h9a,Ne.symm h9b,hkl,px,py,w1,aB]
     have sx:=cX (iv (eL s j)) [.int .i64 0] k hx [.int .i64 (vx s s.ms[k])] (by simp[eL,eqX,e1])
     have sy:=cX (iv (eX s j)) [.int .i64 0] k hy [.int .i64 (vy s s.ms[k])] (by simp[eX,eqY,e1])
     refine⟨k+1,by omega,by omega,rfl,by simp,?_⟩
     intro x y hx'
     rw[←sx,←sy] at hx'
     simp only[aA] at hx' ⊢
     grind
    ·simp[hab,Ne.symm hab,h9a,h9b,Ne.symm h9a,Ne.symm h9b,hkl,px,py,w1,nx,ny,aB]
     refine⟨fun e2=> ?_,fun e2=> ?_⟩
     ·have fx:eqX s j s.ms[k]= -vx s s.ms[k]:=by rw[eqX,if_neg e1,if_pos e2]
      have fy:eqY s j s.ms[k]= -vy s s.ms[k]:=by rw[eqY,if_neg e1,if_pos e2]
      have sx:=cX (iv (eL s j)) [.int .i64 0] k hx [.int .i64 (-vx s s.ms[k])] (by simp[eL,fx])
      have sy:=cX (iv (eX s j)) [.int .i64 0] k hy [.int .i64 (-vy s s.ms[k])] (by simp[eX,fy])
      refine⟨k+1,by omega,by omega,rfl,by simp,?_⟩
      intro x y hx'
      rw[←sx,←sy] at hx'
      simp only[aA] at hx' ⊢
      grind
     ·have sx:=lZ (iv (eL s j)) [.int .i64 0] k hx (by simp[eL,eqX,e1,e2])
      have sy:=lZ (iv (eX s j)) [.int .i64 0] k hy (by simp[eX,eqY,e1,e2])
      refine⟨k+1,by omega,by omega,rfl,by simp,?_⟩
      intro x y hx'
      rw[←sx,←sy] at hx'
      simp only[aA] at hx' ⊢
      grind
   ·have:k=s.ms.length:=by omega
    subst this
    rw[gH _ _ _ (by simp),gH _ _ _ (by simp)]
    intro gp hgp hpb hpa hbp
    have npg:gp≠g:=fun e=>by rw[e,hb] at hbp;cases hbp
    have er2:List.range 2= [0,1]:=rfl
    simp[er2,appV,elsV,Int.not_lt.2 hgp,hpb,hpa,Ne.symm hpb,Ne.symm hpa,nga,ngb,Ne.symm nga,Ne.symm ngb,npg,Ne.symm npg,hb,hel]
    refine⟨by omega,fun gn hgn hbn=> ?_⟩
    have w9:IntKind.i64.wrap ((i:Int)+1)=i+1:=i64_in (by omega) (by omega)
    rw[aB]
    subst hj
    have nx:=tG ⟨hi,hb,hel,ho,hn,hg,hf,hsb,cO⟩ h hga hba hgb (Ne.symm hab) hbb hpa hpb hbp hgn hbn
    refine⟨_,nx,by simp only;omega,rfl,?_,sub_eq rfl⟩
    simp[w9];exact⟨rfl,by omega⟩
 ·have:i=(aQ s.js).length:=by omega
  subst this
  refine dI [.lsl g 1 0 (2*(aQ s.js).length)] (g::gs) (by simp) ?_ ?_ hsb
  ·unfold dII
   rw[OwnD]
   have e:dF s=xO s (aQ s.js).length:=by simp[xO,dF]
   refine .inr ⟨g,els,gs,by rw[e,List.length_map,mY s _ (Nat.le_refl _)];rfl,rfl,hn,hb,cO,?_⟩
   rw[e];exact ho
  ·intro x hx
   rcases List.mem_cons.1 hx with rfl | hx
   ·exact hg
   ·exact hf x hx

def nP (m:Mb) (k:Nat):List (Int×Int):=(if m.kind=2 then [] else [((k:Int),1)])++(if m.kind=1 then [] else [((k:Int), -1)])
def aU (ms:List Mb) (n:Nat):List (Int×Int):=(List.range n).flatMap fun k=>nP (ms.getD k default) k
def aP (ms:List Mb):List (Int×Int):=aU ms ms.length
def cv (cs:List (Int×Int)):List (List V):=cs.map fun p=> [.int .i64 p.1,.int .i64 p.2]
theorem iA (ms:List Mb) (n:Nat):aU ms (n+1)=aU ms n++nP (ms.getD n default) n:=by
 unfold aU
 rw[List.range_succ,List.flatMap_append];simp
theorem Ve (m:Mb) (k:Nat):(nP m k).length≤2:=by
 unfold nP;split<;>split<;>simp
theorem iI (ms:List Mb): ∀n,(aU ms n).length≤2*n
 | 0 => by simp [aU]
 | n + 1 => by
   rw[iA,List.length_append]
   have:=iI ms n
   have:=Ve (ms.getD n default) n
   omega
theorem rX (a b:List (Int×Int)):cv (a++b)=cv a++cv b:=by simp[cv]
@[simp] theorem Lz (a : List (Int × Int)) : (cv a).length = a.length := by simp [cv]
theorem tC (a:List (Int×Int)):(cv a).take a.length=cv a:=by rw[←Lz a,List.take_length]
theorem aL7 (a:List (Int×Int)):(cv a).all (fun e=>e.all V.cl)=true:=by simp[cv,V.cl]
theorem Vy (a:List (Int×Int)): ∀r,r∈cv a→r.length=2:=by
 intro r hr
 obtain⟨n,_,rfl⟩:=List.mem_map.1 hr
 rfl
theorem aDO {bl:Int→Option Blk} {ns:List (Int×Int)} {v:V} {gs:List Int} :OwnD bl (fl 2 (cv ns)) v gs ↔ (ns= []∧v= .nils∧gs= [])∨ ∃g,v= .lsl g 2 0 ns.length∧gs= [g]∧bl g=some ⟨2,cv ns⟩∧(g<0→ns= []):=by
 rw[oP (aL7 ns) (Vy ns)]
 simp[cv]
theorem Ez (s:Str) (hm:s.ms.length≤8):NW Tryz.prog 146 [.ptr s.c] (fl 2 (cv (aP s.ms))):=by
 refine fU Tryz.func146 rfl rfl (by rw[Tryz.ntmps146];simp) fun bl=> ?_
 rw[Tryz.ntmps146,Tryz.results146]
 refine aC ?_
 simp[Str.c]
 refine rJ 3 2 (by simp) fun g00 tQ=> ?_
 refine aI (fun p:Nat×Int=> [(3,.lsl p.2 2 0 (aU s.ms p.1).length),(9,.sl (mv s.ms)),(10,.int .i64 s.ms.length),(11,.int .i64 p.1)]) (fun p=>upd bl p.2 (some ⟨2,cv (aU s.ms p.1)⟩)) (fun p=>p.1≤s.ms.length∧bl p.2=none∧(p.2<0→aU s.ms p.1= [])) (fun p=>s.ms.length - p.1) _ (0,g00) ⟨Nat.zero_le _,tQ,fun _=>rfl⟩ ⟨rfl,by simp[aU],sub_eq (by simp[aU,cv])⟩ ?_
 rintro⟨i,g⟩ ⟨hi,hg,h0⟩
 simp only at hi hg h0
 have hl:=iI s.ms i
 refine aC ?_
 simp
 refine⟨fun h=> ?_,fun h=> ?_⟩
 ·have w1:IntKind.i64.wrap ((i:Int)+1)=i+1:=i64_in (by omega) (by omega)
  have hsc:=iA s.ms i
  rw[cL _ _ _ h] at hsc
  simp[h,Mb.c]
  intro g1 hg1 h1g hb1
  refine⟨fun hf=> ?_,fun hf=> ?_⟩
  ·intro g2 hg2 h21 h2g hb2
   simp[h1g,h21,h2g,Ne.symm h1g,Ne.symm h21,Ne.symm h2g,appV,elsV,Int.not_lt.2 hg2]
   refine⟨by omega,fun g3 hg3 hb3=> ?_⟩
   have h31:g3≠g1:=by grind
   have gL:bl g3=none:=by grind
   simp[h31,Ne.symm h31,h1g,h21,Ne.symm h1g,Ne.symm h21]
   refine⟨fun hf2=> ?_,fun hf2=> ?_⟩
   ·intro g4 hg4 h43 h42
    simp[h43,Ne.symm h43,h31,Ne.symm h31,appV,elsV,Int.not_lt.2 hg4]
    refine⟨by omega,fun g5 hg5 hb5=> ?_⟩
    have aUK:bl g5=none:=by grind
    have hb4:bl g4=none:=by grind
    have hs1:aU s.ms (i+1)=aU s.ms i++ [((i:Int),1)]++ [((i:Int), -1)]:=by rw[hsc,nP,if_neg hf,if_neg hf2,List.append_assoc]
    simp[w1,aB]
    refine⟨i+1,g5,⟨by omega,aUK,by omega⟩,by omega,rfl,by simp[hs1],?_⟩
    rw[hs1,rX,rX]
    exact dM (by rw[tC,List.take_of_length_le (by simp)];rfl) (by simp[hg,hb1,hb2,gL,hb4,h1g,h21,h2g])
   ·have hs1:aU s.ms (i+1)=aU s.ms i++ [((i:Int),1)]:=by rw[hsc,nP,if_neg hf,if_pos hf2,List.append_nil]
    simp[w1,aB]
    refine⟨i+1,g3,⟨by omega,gL,by omega⟩,by omega,rfl,by simp[hs1],?_⟩
    rw[hs1,rX]
    exact dM (by rw[tC];rfl) (by simp[hg,hb1,hb2,h1g,h21,h2g])
  ·refine⟨fun hf2=> ?_,fun hf2=> ?_⟩
   ·intro g2 hg2 h21 h2g hb2
    simp[h1g,h21,h2g,Ne.symm h1g,Ne.symm h21,Ne.symm h2g,appV,elsV,Int.not_lt.2 hg2]
    refine⟨by omega,fun g3 hg3 hb3=> ?_⟩
    have gL:bl g3=none:=by grind
    have hs1:aU s.ms (i+1)=aU s.ms i++ [((i:Int), -1)]:=by rw[hsc,nP,if_pos hf,if_neg hf2,List.nil_append]
    simp[w1,aB]
    refine⟨i+1,g3,⟨by omega,gL,by omega⟩,by omega,rfl,by simp[hs1],?_⟩
    rw[hs1,rX]
    exact dM (by rw[tC];rfl) (by simp[hg,hb1,hb2,h1g,h21,h2g])
   ·omega
 ·have hi:i=s.ms.length:=by omega
  subst hi
  refine dI [.lsl g 2 0 (aU s.ms s.ms.length).length] [g] (by simp) ?_ (by simpa using hg) (by simp[hg])
  refine aDO.2 (.inr ⟨g,rfl,rfl,by simp[aP],h0⟩)
theorem vX (a b:Int):iv [a,b]= [[.int .i64 a],[.int .i64 b]]:=rfl
theorem kJ (a:Int):iv [a]= [[.int .i64 a]]:=rfl
def who (s:Str):List Int:=(aP s.ms).map (·.1)
def sgn (s:Str):List Int:=(aP s.ms).map (·.2)
def dWS (s:Str):D:= .t [fl 1 (iv (who s)),fl 1 (iv (sgn s))]
structure Two where
 i:Nat
 g:Int
 h:Int
 b:Int→Option Blk
def Pb (bl:Int→Option Blk) (A B:Nat→List Int) (n:Nat) (p:Two):Prop:=
 p.i≤n∧p.g≠p.h∧p.b p.g=some ⟨1,iv (A p.i)⟩∧p.b p.h=some ⟨1,iv (B p.i)⟩∧bl p.g=none∧bl p.h=none∧Sub bl p.b∧(p.g<0→A p.i= [])∧(p.h<0→B p.i= [])
set_option maxHeartbeats 1000000 in
theorem K9 (s:Str) (hm:s.ms.length≤8):NW Tryz.prog 192 [.agg s.c] (dWS s):=by
 refine fU Tryz.func192 rfl rfl (by rw[Tryz.ntmps192];simp) fun bl=> ?_
 rw[Tryz.ntmps192,Tryz.results192]
 refine aC ?_
 simp[Str.c]
 intro gs aCD hgs ga aI3 K3 Gc gb aYZ Xa aI8 aLL
 simp[K3,Ne.symm K3,Xa,Ne.symm Xa,aI8,Ne.symm aI8]
 refine aI (fun p:Two=> [(4,.lsl p.g 1 0 (aU s.ms p.i).length),(5,.lsl p.h 1 0 (aU s.ms p.i).length),(11,.sl (mv s.ms)),(12,.int .i64 s.ms.length),(13,.int .i64 p.i)]) (fun p=>p.b) (Pb bl (fun n=>(aU s.ms n).map (·.1)) (fun n=>(aU s.ms n).map (·.2)) s.ms.length) (fun p=>s.ms.length - p.i) 41 ⟨0,ga,gb,upd (upd (upd bl gs (some ⟨2,[[.sl (jv s.js),.sl (mv s.ms)]]⟩)) ga (some ⟨1,[]⟩)) gb (some ⟨1,[]⟩)⟩ ⟨Nat.zero_le _,Ne.symm Xa,by simp[Ne.symm Xa,aU,iv],by simp[aU,iv],Gc,aLL,by simp[hgs,Gc,aLL],fun _=>rfl,fun _=>rfl⟩ ⟨rfl,by simp[aU],sub_eq (by simp)⟩ ?_
 rintro⟨i,g,h',b⟩ ⟨hi,hgh,hbg,hbh,hg,hh,hsb,h0,h1⟩
 simp only at hi hgh hbg hbh hg hh hsb h0 h1
 have hl:=iI s.ms i
 have fr: ∀x,b x=none→bl x=none:=fun x hx=>aR hsb hx
 refine aC ?_
 simp
 refine⟨fun h=> ?_,fun h=> ?_⟩
 ·have w1:IntKind.i64.wrap ((i:Int)+1)=i+1:=i64_in (by omega) (by omega)
  have hsc:=iA s.ms i
  rw[cL _ _ _ h] at hsc
  have tkA:List.take (aU s.ms i).length (iv ((aU s.ms i).map (·.1)))=iv ((aU s.ms i).map (·.1)):=List.take_of_length_le (by simp)
  have Mz: ∀x:List V,List.take ((aU s.ms i).length+1) (iv ((aU s.ms i).map (·.1))++ [x])=iv ((aU s.ms i).map (·.1))++ [x]:=fun x=>List.take_of_length_le (by simp)
  have Lu: ∀x:List V,List.take ((aU s.ms i).length+1) (iv ((aU s.ms i).map (·.2))++ [x])=iv ((aU s.ms i).map (·.2))++ [x]:=fun x=>List.take_of_length_le (by simp)
  have tkB:List.take (aU s.ms i).length (iv ((aU s.ms i).map (·.2)))=iv ((aU s.ms i).map (·.2)):=List.take_of_length_le (by simp)
  simp[h,Mb.c]
  intro g1 hg1 hb1
  have n1g:g1≠g:=fun e=>by rw[e,hbg] at hb1;cases hb1
  have n1h:g1≠h':=fun e=>by rw[e,hbh] at hb1;cases hb1
  refine⟨fun hf=> ?_,fun hf=> ?_⟩
  ·intro g2 hg2 h21 hb2
   have n2g:g2≠g:=fun e=>by rw[e,hbg] at hb2;cases hb2
   have n2h:g2≠h':=fun e=>by rw[e,hbh] at hb2;cases hb2
   simp[hbg,n1g,h21,n2g,Ne.symm n1g,Ne.symm h21,Ne.symm n2g,appV,elsV,Int.not_lt.2 hg2]
   refine⟨by omega,fun g3 hg3 hb3=> ?_⟩
   have n31:g3≠g1:=by grind
   have n3h:g3≠h':=by grind
   simp[n31,Ne.symm n31,n3h,Ne.symm n3h]
   intro g4 hg4 h43 hb4
   have n41:g4≠g1:=by grind
   have n4h:g4≠h':=by grind
   simp[hgh,Ne.symm hgh,hbh,n1h,Ne.symm n1h,n2h,Ne.symm n2h,n31,Ne.symm n31,n3h,Ne.symm n3h,n41,Ne.symm n41,n4h,Ne.symm n4h,h43,Ne.symm h43,appV,elsV,Int.not_lt.2 hg4]
   refine⟨by omega,fun g5 hg5 hb5=> ?_⟩
   have n51:g5≠g1:=by grind
   have n53:g5≠g3:=by grind
   simp[hgh,Ne.symm hgh,n1h,Ne.symm n1h,n31,Ne.symm n31,n51,Ne.symm n51,n41,Ne.symm n41,h21,Ne.symm h21,n1g,Ne.symm n1g]
   refine⟨fun hf2=> ?_,fun hf2=> ?_⟩
   ·intro g6 hg6 n65 hb6
    have n61:g6≠g1:=by grind
    have n63:g6≠g3:=by grind
    simp[n3h,Ne.symm n3h,n1g,Ne.symm n1g,n31,Ne.symm n31,hgh,Ne.symm hgh,n65,Ne.symm n65,n61,Ne.symm n61,n63,Ne.symm n63,n53,Ne.symm n53,h43,Ne.symm h43,appV,elsV,Int.not_lt.2 hg6,tkA,tkB]
    refine⟨by omega,fun g7 hg7 hb7=> ?_⟩
    have n71:g7≠g1:=by grind
    have n75:g7≠g5:=by grind
    simp[n71,Ne.symm n71,n75,Ne.symm n75]
    intro g8 hg8 n87 hb8
    have n81:g8≠g1:=by grind
    have n85:g8≠g5:=by grind
    simp[n71,Ne.symm n71,n75,Ne.symm n75,n81,Ne.symm n81,n85,Ne.symm n85,n87,Ne.symm n87,n65,Ne.symm n65,n53,Ne.symm n53,appV,elsV,Int.not_lt.2 hg8,tkA,tkB]
    refine⟨by omega,fun g9 hg9 hb9=> ?_⟩
    have n91:g9≠g1:=by grind
    have n97:g9≠g7:=by grind
    have e1:aU s.ms (i+1)=aU s.ms i++ [((i:Int),1)]++ [((i:Int), -1)]:=by rw[hsc,nP,if_neg hf,if_neg hf2,List.append_assoc]
    simp[w1,aB]
    refine⟨⟨i+1,g7,g9,_⟩,⟨by simp only;omega,by simp only;grind,?_,?_,by simp only;grind,by simp only;grind,?_,fun e=>by simp only at e;omega,fun e=>by simp only at e;omega⟩,by simp only;omega,rfl,by simp[e1],sub_eq rfl⟩
    ·simp[hgh,Ne.symm hgh,n1h,Ne.symm n1h,n31,Ne.symm n31,n51,Ne.symm n51,n53,Ne.symm n53,n41,Ne.symm n41,h43,Ne.symm h43,n71,Ne.symm n71,n75,Ne.symm n75,n61,Ne.symm n61,n63,Ne.symm n63,n81,n87,n85,Ne.symm n81,Ne.symm n85,Ne.symm n87,n91,n97,Ne.symm n91,Ne.symm n97,n3h,Ne.symm n3h,n4h,Ne.symm n4h,e1,aZ,kJ,vX,tkA,tkB,Mz,Lu]
    ·simp[hgh,Ne.symm hgh,n1h,Ne.symm n1h,n31,Ne.symm n31,n51,Ne.symm n51,n53,Ne.symm n53,n41,Ne.symm n41,h43,Ne.symm h43,n71,Ne.symm n71,n75,Ne.symm n75,n61,Ne.symm n61,n63,Ne.symm n63,n81,n87,n85,Ne.symm n81,Ne.symm n85,Ne.symm n87,n91,n97,Ne.symm n91,Ne.symm n97,n3h,Ne.symm n3h,n4h,Ne.symm n4h,e1,aZ,kJ,vX,tkA,tkB,Mz,Lu]
    ·intro x y hx
     have hbx:=hsb x y hx
     have ng:x≠g:=fun e=>by rw[e,hg] at hx;cases hx
     have nh:x≠h':=fun e=>by rw[e,hh] at hx;cases hx
     simp[aA,aF]
     grind
   ·skip
    have e1:aU s.ms (i+1)=aU s.ms i++ [((i:Int),1)]:=by rw[hsc,nP,if_neg hf,if_pos hf2,List.append_nil]
    simp[w1,aB]
    refine⟨⟨i+1,g3,g5,_⟩,⟨by simp only;omega,by simp only;grind,?_,?_,by simp only;grind,by simp only;grind,?_,fun e=>by simp only at e;omega,fun e=>by simp only at e;omega⟩,by simp only;omega,rfl,by simp[e1],sub_eq rfl⟩
    ·simp[hgh,Ne.symm hgh,n1h,Ne.symm n1h,n31,Ne.symm n31,n51,Ne.symm n51,n53,Ne.symm n53,n41,Ne.symm n41,h43,Ne.symm h43,n3h,Ne.symm n3h,n4h,Ne.symm n4h,e1,aZ,kJ,vX,tkA,tkB,Mz,Lu]
    ·simp[hgh,Ne.symm hgh,n1h,Ne.symm n1h,n31,Ne.symm n31,n51,Ne.symm n51,n53,Ne.symm n53,n41,Ne.symm n41,h43,Ne.symm h43,n3h,Ne.symm n3h,n4h,Ne.symm n4h,e1,aZ,kJ,vX,tkA,tkB,Mz,Lu]
    ·intro x y hx
     have hbx:=hsb x y hx
     have ng:x≠g:=fun e=>by rw[e,hg] at hx;cases hx
     have nh:x≠h':=fun e=>by rw[e,hh] at hx;cases hx
     simp[aA,aF]
     grind
  ·refine⟨fun hf2=> ?_,fun hf2=> ?_⟩
   ·intro g2 hg2 h21 hb2
    have n2g:g2≠g:=fun e=>by rw[e,hbg] at hb2;cases hb2
    have n2h:g2≠h':=fun e=>by rw[e,hbh] at hb2;cases hb2
    simp[hbg,n1g,h21,n2g,Ne.symm n1g,Ne.symm h21,Ne.symm n2g,appV,elsV,Int.not_lt.2 hg2]
    refine⟨by omega,fun g3 hg3 hb3=> ?_⟩
    have n31:g3≠g1:=by grind
    have n3h:g3≠h':=by grind
    simp[n31,Ne.symm n31,n3h,Ne.symm n3h]
    intro g4 hg4 h43 hb4
    have n41:g4≠g1:=by grind
    have n4h:g4≠h':=by grind
    simp[hgh,Ne.symm hgh,hbh,n1h,Ne.symm n1h,n2h,Ne.symm n2h,n31,Ne.symm n31,n3h,Ne.symm n3h,n41,Ne.symm n41,n4h,Ne.symm n4h,h43,Ne.symm h43,appV,elsV,Int.not_lt.2 hg4]
    refine⟨by omega,fun g5 hg5 hb5=> ?_⟩
    have n51:g5≠g1:=by grind
    have n53:g5≠g3:=by grind
    have e1:aU s.ms (i+1)=aU s.ms i++ [((i:Int), -1)]:=by rw[hsc,nP,if_pos hf,if_neg hf2,List.nil_append]
    simp[w1,aB]
    refine⟨⟨i+1,g3,g5,_⟩,⟨by simp only;omega,by simp only;grind,?_,?_,by simp only;grind,by simp only;grind,?_,fun e=>by simp only at e;omega,fun e=>by simp only at e;omega⟩,by simp only;omega,rfl,by simp[e1],sub_eq rfl⟩
    ·simp[hgh,Ne.symm hgh,n1h,Ne.symm n1h,n31,Ne.symm n31,n51,Ne.symm n51,n53,Ne.symm n53,n41,Ne.symm n41,h43,Ne.symm h43,n3h,Ne.symm n3h,n4h,Ne.symm n4h,e1,aZ,kJ,vX,tkA,tkB,Mz,Lu]
    ·simp[hgh,Ne.symm hgh,n1h,Ne.symm n1h,n31,Ne.symm n31,n51,Ne.symm n51,n53,Ne.symm n53,n41,Ne.symm n41,h43,Ne.symm h43,n3h,Ne.symm n3h,n4h,Ne.symm n4h,e1,aZ,kJ,vX,tkA,tkB,Mz,Lu]
    ·intro x y hx
     have hbx:=hsb x y hx
     have ng:x≠g:=fun e=>by rw[e,hg] at hx;cases hx
     have nh:x≠h':=fun e=>by rw[e,hh] at hx;cases hx
     simp[aA,aF]
     grind
   ·omega
 ·have hi:i=s.ms.length:=by omega
  subst hi
  refine dI [.lsl g 1 0 (aU s.ms s.ms.length).length,.lsl h' 1 0 (aU s.ms s.ms.length).length] [g,h'] (by simp) ?_ (by simp[hg,hh]) hsb
  unfold dWS
  rw[OwnD]
  exact⟨_,rfl,iF.2 ⟨_,_,[g],[h'],rfl,rfl,by simpa using hgh,dP.2 (.inr ⟨g,by simp[who,aP],rfl,hbg,h0⟩),dP.2 (.inr ⟨h',by simp[sgn,aP],rfl,hbh,h1⟩)⟩⟩
theorem kQ (s:Str) (hm:s.ms.length≤8):RO Tryz.prog 192 [.agg s.c] (.tup [.sl (iv (who s)),.sl (iv (sgn s))]):=by
 have:=gJ 2 (K9 s hm) (by simp[dWS,D.dep,D.depL,iZ])
 simpa [dWS,D.fz,D.fzL] using this
theorem tV (s:Str) (hm:s.ms.length≤8):RO Tryz.prog 146 [.ptr s.c] (.sl (cv (aP s.ms))):=by
 have:=gJ 1 (Ez s hm) (iZ _ _ 0)
 simpa using this
end Go.Proofs.YticmgmemnpcbbaaGreat.Vm

namespace Go.Proofs.YticmgmemnpcbbaaGreat.Vm
open Go Go.RowKit
set_option linter.unusedVariables false
section
variable {P : Program} {ops : Array Oper} {w0 : World} {M F : Nat → Prop} {a : Act} {w : World}
def late (tl:Nat→Bool) (l:Array Bool) (i:Nat):Bool:=tl i || (List.range l.size).any fun k=>tl k && l.getD k false
def DL (P:Program) (ops:Array Oper) (blK:Int→Option Blk) (tl:Nat→Bool) (K:St→Prop):Nat→Array Bool→St→Prop
 | 0, l, σ => Region.ready .any ops l = [] ∧ K σ
 | fuel + 1, l, σ => (Region.ready .any ops l = [] → K σ) ∧ ∀ i ∈ Region.ready .any ops l, D1 P ops i (fun σ' => (late tl l i = false → Sub blK σ'.bl) ∧ DL P ops blK tl K fuel (l.setIfInBounds i true) σ') σ
theorem Cw {blK:Int→Option Blk} {tl:Nat→Bool} {K:St→Prop} {Q:Exit→Act→World→Prop} {F0:Nat→Prop} (hQ: ∀σ F a w,(∀b,F0 b→F b)→Sim w0 M F σ a w→K σ→Q .normal a w):
  ∀(fuel:Nat) (l:Array Bool) (σ:St) (F:Nat→Prop) (a:Act) (w:World),(∀b,F0 b→F b)→DL P ops blK tl K fuel l σ→Sim w0 M F σ a w→wpAny P .any ops Q fuel l a w
 | 0, l, σ, F, a, w, hF, h, hs => ⟨h.1, hQ σ F a w hF hs h.2⟩
 | fuel + 1, l, σ, F, a, w, hF, h, hs => ⟨fun h0 => hQ σ F a w hF hs (h.1 h0), fun i hi => Dm (h.2 i hi) hs fun σ' F' a' w' hF' hs' hk => Cw hQ fuel _ σ' F' a' w' (fun b hb => hF' b (hF b hb)) hk.2 hs'⟩
theorem Az {id:Nat} {K:Ex→St→Prop} {σ:St} (hm:P.follows .mixedOrders=true) (blK:Int→Option Blk) {tl:Nat→Bool} (h:DL P ops blK tl (K .normal) ops.size (Array.replicate ops.size false) σ):AW P (.region id ops true) K σ:=by
 intro w0 M F a w hs
 refine wp_region_any hm (Cw (F0:=F) (w0:=w0) (M:=M) (fun σ' F' a' w' hF' hs' hK=>⟨.normal,σ',F',rfl,hF',hs',hK⟩) _ _ σ F a _ (fun _ h=>h) h ?_)
 have hsh:fH w { w with drawn:=w.drawn+1 } :=fun b c t f hc=>⟨c,f,hc,rfl⟩
 refine⟨⟨hs.mem.os,hs.mem.tape,hs.mem.output,hs.mem.size,hs.mem.frame,hs.mem.kA,hs.mem.fr,hs.mem.fin,hs.mem.own,fun g b hb=> ?_⟩,hs.size,fun t ht=> ?_,hs.defers⟩
 ·have hh: ∀b,F b→({ w with drawn:=w.drawn+1 } :World).heap[b]? =w.heap[b]? :=fun _ _=>rfl
  have hg:0≤g→({ w with drawn:=w.drawn+1 } :World).heap[g.toNat]? =w.heap[g.toNat]? :=fun _=>rfl
  refine cY.mono (fun _ h=>h) (fun h0 hFg=> ?_) hh hsh hg (hs.mem.blk g b hb)
  have:=hs.mem.blk g b hb
  unfold cY at this
  rw[if_neg (by omega)] at this
  exact this.1 hFg
 ·have hh: ∀b,F b→({ w with drawn:=w.drawn+1 } :World).heap[b]? =w.heap[b]? :=fun _ _=>rfl
  exact Rep.mono (fun _ h=>h) hh hsh (hs.sl t ht)
theorem Bb {blK:Int→Option Blk} {tl:Nat→Bool} {K:St→Prop} {i:Nat} {oi:Oper} {v:V} (hi:ops[i]? =some oi) (hti:tl i=false) (hT: ∀j oj,tl j=true→ops[j]? =some oj→ ∃e∈oj.after,Region.binds .any e=true∧e.on=i): ∀(fuel:Nat) (l:Array Bool) (σ:St),
  (∀j oj,ops[j]? =some oj→j≠i→l.getD j true=false→(∀e∈oj.after,Region.binds .any e=true→e.on≠i)→oi.apart ops oj=true)→(∀k,tl k=true→l.getD k false=false)→
  i∈Region.ready .any ops l→Sub blK σ.bl→DY P ops blK oi σ v→DL P ops blK tl K fuel (l.setIfInBounds i true) (σ.put oi.dst v)→DL P ops blK tl K (fuel+1) l σ:=by
 have hbl: ∀(σ:St),(σ.put oi.dst v).bl=σ.bl:=fun σ=>by cases oi.dst<;>rfl
 intro fuel
 induction fuel with
 | zero =>
   intro l σ _ hN hr hs hy H
   refine⟨fun h=>(by rw[h] at hr;cases hr),fun j hj=> ?_⟩
   by_cases hji:j=i
   ·subst hji;exact hy.step hi hs ⟨fun _=>by rw[hbl];exact hs,H⟩
   ·have:=ready_mono hj hji
    rw[H.1] at this
    cases this
 | succ fuel ih =>
   intro l σ xY hN hr hs hy H
   refine⟨fun h=>(by rw[h] at hr;cases hr),fun j hj=> ?_⟩
   by_cases hji:j=i
   ·subst hji;exact hy.step hi hs ⟨fun _=>by rw[hbl];exact hs,H⟩
   ·have h1:=H.2 j (ready_mono hj hji)
    obtain⟨T5,oj,hoj,bH⟩:=mem_ready.1 hj
    have Gj: ∀e∈oj.after,Region.binds .any e=true→e.on≠i:=fun e he hb heq=>by
     have h1:=bH e he hb
     have h0:=(mem_ready.1 hr).1
     rw[heq] at h1
     rcases Nat.lt_or_ge i l.size with h' | h'
     ·simp[h'] at h0 h1;rw[h0] at h1;cases h1
     ·simp[Array.getElem?_eq_none h'] at h1
    have h2:=DY.put hoj (xY j oj hoj hji T5 Gj) hy h1
    have F5: ∀k ok,ops[k]? =some ok→k≠i→(l.setIfInBounds j true).getD k true=false→
      (∀e∈ok.after,Region.binds .any e=true→e.on≠i)→oi.apart ops ok=true:=fun k ok hk hki hun hno=>by
     refine xY k ok hk hki ?_ hno
     by_cases hjk:j=k
     ·subst hjk;exact T5
     ·rw[getD_set_ne true hjk] at hun;exact hun
    refine T8 h2 fun σ' ⟨h3,h4,h5⟩=> ?_
    have htj:tl j=false:=by
     cases htl:tl j with
     | false => rfl
     | true =>
       obtain⟨e,he,hb,hon⟩:=hT j oj htl hoj
       exact absurd hon (Gj e he hb)
    have aJ5:late tl (l.setIfInBounds i true) j=false:=by
     unfold late
     rw[htj,Bool.false_or,List.any_eq_false]
     intro k _ hk
     simp only[Bool.and_eq_true] at hk
     by_cases hki:i=k
     ·subst hki;rw[hti] at hk;cases hk.1
     ·rw[getD_set_ne false hki,hN k hk.1] at hk;cases hk.2
    have hN': ∀k,tl k=true→(l.setIfInBounds j true).getD k false=false:=fun k hk=>by
     by_cases hkj:j=k
     ·subst hkj;rw[htj] at hk;cases hk
     ·rw[getD_set_ne false hkj];exact hN k hk
    have h4:=h4 aJ5
    rw[hbl] at h4
    refine⟨fun _=>h4,ih (l.setIfInBounds j true) σ' F5 hN' (ready_mono hr (Ne.symm hji)) h4 h3 ?_⟩
    rw[Array.setIfInBounds_comm _ _ hji]
    exact h5
theorem Dg {blK:Int→Option Blk} {tl:Nat→Bool} {K:St→Prop} (fuel:Nat): ∀(is:List Nat) (l:Array Bool) (σ:St),(∀i,i∈is→tl i=false)→(∀k,tl k=true→l.getD k false=false)→(∀i,i∈is→ ∀j oj,tl j=true→ops[j]? =some oj→ ∃e∈oj.after,Region.binds .any e=true∧e.on=i)→hoistB ops is l=true→Sub blK σ.bl→
  Hoist P ops blK is (DL P ops blK tl K fuel (iS is l)) σ→DL P ops blK tl K (fuel+is.length) l σ
 | [], l, σ, _, _, _, _, _, h => h
 | i :: is, l, σ, hI, hN, hT, hB, hs, h => by
   simp only[hoistB,Bool.and_eq_true] at hB
   obtain⟨⟨hr,hf⟩,hB'⟩:=hB
   unfold Hoist at h
   split at h
   ·rename_i o ho
    obtain⟨v,hy,hK⟩:=h
    have:fuel+(i::is).length=(fuel+is.length)+1:=by simp;omega
    rw[this]
    refine Bb ho (hI i List.mem_cons_self) (hT i List.mem_cons_self) _ _ _ (Region.free_spec ho hf) hN (by simpa using hr) hs hy (Dg fuel is _ _ (fun i hi=>hI i (List.mem_cons_of_mem _ hi)) (fun k hk=> ?_) (fun i hi=>hT i (List.mem_cons_of_mem _ hi)) hB' ?_ hK)
    ·by_cases hki:i=k
     ·subst hki;rw[hI i List.mem_cons_self] at hk;cases hk
     ·rw[getD_set_ne false hki];exact hN k hk
    cases o.dst<;>exact hs
   ·exact h.elim
end
theorem Kl {P:Program} {id:Nat} {ops:Array Oper} {K:Ex→St→Prop} {σ:St} (hm:P.follows .mixedOrders=true) (blK:Int→Option Blk) (hs:Sub blK σ.bl) (is:List Nat) (fuel n:Nat) (hn:(ops.size==fuel+is.length && is.all (fun i=>decide (i<ops.size))&& hoistB ops is (Array.replicate ops.size false)&& Q3 ops (fun j=>decide (n≤j)) is && is.all (fun i=>decide (i<n)))=true)
  (h:HoistF P (ops.toList.map (·.dst)) blK (is.filterMap fun i=>ops[i]?) (DL P ops blK (fun j=>decide (n≤j)) (K .normal) fuel (iS is (Array.replicate ops.size false))) σ):AW P (.region id ops true) K σ:=by
 simp only[Bool.and_eq_true,beq_iff_eq] at hn
 refine Az hm blK (tl:=fun j=>decide (n≤j)) ?_
 have:=Dg (P:=P) (ops:=ops) (blK:=blK) (tl:=fun j=>decide (n≤j)) (K:=K .normal) fuel is (Array.replicate ops.size false) σ
  (fun i hi=>by have:=List.all_eq_true.1 hn.2 i hi;simp at this ⊢;exact this) (fun k _=>by
    rw[Array.getD_eq_getD_getElem?,Array.getElem?_replicate];split<;>rfl) (mJ hn.1.2) hn.1.1.2 hs (iE _ is σ (filter_some is hn.1.1.1.2) h)
 rw[←hn.1.1.1.1] at this
 exact this
section
variable {P : Program} {ops : Array Oper} {blK : Int → Option Blk} {tl : Nat → Bool} {K : St → Prop} {fuel : Nat} {l : Array Bool} {σ : St}
theorem Xb (hr:Region.ready .any ops l= []) (h:K σ):DL P ops blK tl K fuel l σ:=by
 cases fuel with
 | zero => exact ⟨hr, h⟩
 | succ n => exact ⟨fun _ => h, fun i hi => by rw [hr] at hi; cases hi⟩
theorem M4 {i:Nat} {o:Oper} {e:Bool} (ho:ops[i]? =some o) (hg:o.guard=none) (he:late tl l i=e) (h:T P o (fun σ'=>(e=false→Sub blK σ'.bl)∧DL P ops blK tl K fuel (l.setIfInBounds i true) σ') σ):
  D1 P ops i (fun σ'=>(late tl l i=false→Sub blK σ'.bl)∧DL P ops blK tl K fuel (l.setIfInBounds i true) σ') σ:=by
 subst he;unfold D1;rw[ho];simp only[hg];exact h
theorem aE5 {i:Nat} {o:Oper} (e:Bool) (hr:Region.ready .any ops l= [i]) (ho:ops[i]? =some o) (hg:o.guard=none) (he:late tl l i=e) (h:T P o (fun σ'=>(e=false→Sub blK σ'.bl)∧DL P ops blK tl K fuel (l.setIfInBounds i true) σ') σ):DL P ops blK tl K (fuel+1) l σ:=by
 refine⟨fun h0=>(by rw[hr] at h0;cases h0),fun k hk=> ?_⟩
 rw[hr] at hk
 obtain rfl:k=i:=by simpa using hk
 exact M4 ho hg he h
theorem aDH {i j:Nat} {o p:Oper} (e f:Bool) (hr:Region.ready .any ops l= [i,j]) (ho:ops[i]? =some o) (hg:o.guard=none) (he:late tl l i=e) (ho':ops[j]? =some p) (hg':p.guard=none) (he':late tl l j=f)
  (h:T P o (fun σ'=>(e=false→Sub blK σ'.bl)∧DL P ops blK tl K fuel (l.setIfInBounds i true) σ') σ)
  (h':T P p (fun σ'=>(f=false→Sub blK σ'.bl)∧DL P ops blK tl K fuel (l.setIfInBounds j true) σ') σ):DL P ops blK tl K (fuel+1) l σ:=by
 refine⟨fun h0=>(by rw[hr] at h0;cases h0),fun k hk=> ?_⟩
 rw[hr] at hk
 rcases List.mem_cons.1 hk with rfl | hk
 ·exact M4 ho hg he h
 ·obtain rfl:k=j:=by simpa using hk
  exact M4 ho' hg' he' h'
theorem uE {i j m:Nat} {o p q:Oper} (e f g:Bool) (hr:Region.ready .any ops l= [i,j,m]) (ho:ops[i]? =some o) (hg:o.guard=none) (he:late tl l i=e) (ho':ops[j]? =some p) (hg':p.guard=none) (he':late tl l j=f) (ho2:ops[m]? =some q) (hg2:q.guard=none) (he2:late tl l m=g)
  (h:T P o (fun σ'=>(e=false→Sub blK σ'.bl)∧DL P ops blK tl K fuel (l.setIfInBounds i true) σ') σ)
  (h':T P p (fun σ'=>(f=false→Sub blK σ'.bl)∧DL P ops blK tl K fuel (l.setIfInBounds j true) σ') σ)
  (h2:T P q (fun σ'=>(g=false→Sub blK σ'.bl)∧DL P ops blK tl K fuel (l.setIfInBounds m true) σ') σ):DL P ops blK tl K (fuel+1) l σ:=by
 refine⟨fun h0=>(by rw[hr] at h0;cases h0),fun k hk=> ?_⟩
 rw[hr] at hk
 rcases List.mem_cons.1 hk with rfl | hk
 ·exact M4 ho hg he h
 ·rcases List.mem_cons.1 hk with rfl | hk
  ·exact M4 ho' hg' he' h'
  ·obtain rfl:k=m:=by simpa using hk
   exact M4 ho2 hg2 he2 h2
end
def Vi (P:Program) (y:Code) (K:Ex→St→Prop) (e:Ex) (σ:St):Prop:=match e with | .normal=>AW P y K σ | .exit i=>K (.exit i) σ | .ret=>K .ret σ
@[simp] theorem Zd (P : Program) (y : Code) (K : Ex → St → Prop) (σ : St) : Vi P y K .normal σ = AW P y K σ := rfl
@[simp] theorem aIX (P : Program) (y : Code) (K : Ex → St → Prop) (i : Nat) (σ : St) : Vi P y K (.exit i) σ = K (.exit i) σ := rfl
@[simp] theorem aOY (P : Program) (y : Code) (K : Ex → St → Prop) (σ : St) : Vi P y K .ret σ = K .ret σ := rfl
theorem aE {P:Program} {x y:Code} {K:Ex→St→Prop} {σ:St} (h:runC P x (Vi P y K) σ):AW P (.seq x y) K σ:=by
 refine aO ((aC h).mono fun e σ' h'=> ?_)
 cases e with
 | normal => exact h'
 | exit i => exact h'
 | ret => exact h'
def aCT {α:Type} (S:α→List (Nat×V)) (B:α→Int→Option Blk) (I:α→Prop) (n:Nat) (e:Ex) (σ:St):Prop:=e= .normal∧ ∃a,I a∧Fit (S a) n (B a) σ
theorem aH {α:Type} (S:α→List (Nat×V)) (B:α→Int→Option Blk) (I:α→Prop) (n:Nat) (σ:St):aCT S B I n .normal σ= ∃a,I a∧Fit (S a) n (B a) σ:=by simp[aCT]
theorem gV {α:Type} {P:Program} {x y:Code} {K:Ex→St→Prop} {σ:St} (S:α→List (Nat×V)) (B:α→Int→Option Blk) (I:α→Prop) (n:Nat) (h1:AW P x (aCT S B I n) σ)
  (h2: ∀a,I a→AW P y K ⟨n,hv (S a),B a⟩):AW P (.seq x y) K σ:=by
 refine aO (h1.mono fun e σ' ⟨he,a,hI,hf⟩=> ?_)
 subst he
 exact dJ _ _ _ hf (h2 a hI)
section
variable (P : Program) (ds : List (Option Tmp)) (blK : Int → Option Blk) (rest : List Oper) (K : St → Prop) (σ : St) (d : Option Tmp) (ty : TypeId) (pos : String) (af : Array Edge)
@[simp high] theorem Vb (f : Operand) (args : Array Operand) (ats : Array TypeId) : HoistF P ds blK (⟨d, .call ⟨.value f, args, ats⟩, ty, pos, af, none⟩ :: rest) K σ = hcQ P ds blK rest K σ d (callV σ f args.toList) := (rfl)
@[simp high] theorem Yo (x : Operand) (t : TypeId) : HoistF P ds blK (⟨d, .call ⟨.builtin .len, #[x], #[t]⟩, ty, pos, af, none⟩ :: rest) K σ = hoQ P ds blK rest K σ d (lenV P t (σ.ev x)) := (rfl)
@[simp high] theorem Uy (c a b : Operand) : HoistF P ds blK (⟨d, .pick c a b, ty, pos, af, none⟩ :: rest) K σ = hoQ P ds blK rest K σ d (qval P blK σ (.pick c a b)) := (rfl)
@[simp high] theorem Va (t : TypeId) (x : Operand) : HoistF P ds blK (⟨d, .load t x, ty, pos, af, none⟩ :: rest) K σ = hoQ P ds blK rest K σ d (qval P blK σ (.load t x)) := (rfl)
@[simp high] theorem Io (x : Operand) : HoistF P ds blK (⟨d, .nilCheck x, ty, pos, af, none⟩ :: rest) K σ = hoQ P ds blK rest K σ d (Gf (σ.ev x)) := (rfl)
@[simp high] theorem Qn (op : BinOp) (t : TypeId) (x y : Operand) (t' : TypeId) : HoistF P ds blK (⟨d, .binOp op t x y t', ty, pos, af, none⟩ :: rest) K σ = hoQ P ds blK rest K σ d (binV P op t (σ.ev x) (σ.ev y)) := (rfl)
@[simp high] theorem Ux (op : UnOp) (t : TypeId) (x : Operand) : HoistF P ds blK (⟨d, .unOp op t x, ty, pos, af, none⟩ :: rest) K σ = hoQ P ds blK rest K σ d (unV op (σ.ev x)) := (rfl)
@[simp high] theorem Jx (s t : TypeId) (x : Operand) : HoistF P ds blK (⟨d, .convert s t x, ty, pos, af, none⟩ :: rest) K σ = hoQ P ds blK rest K σ d (cvtV P blK s t (σ.ev x)) := (rfl)
@[simp high] theorem So (t : TypeId) (x : Operand) (lo hi : Option Operand) : HoistF P ds blK (⟨d, .slice t x lo hi none, ty, pos, af, none⟩ :: rest) K σ = hoQ P ds blK rest K σ d (sliV P t (σ.ev x) (lo.map σ.ev) (hi.map σ.ev)) := (rfl)
@[simp high] theorem Fz (t : TypeId) (x : Operand) (i : Nat) : HoistF P ds blK (⟨d, .fieldAddr t x i, ty, pos, af, none⟩ :: rest) K σ = hoQ P ds blK rest K σ d (fldV P t i (σ.ev x)) := (rfl)
@[simp high] theorem Qf (t : TypeId) (x : Operand) (i : Nat) : HoistF P ds blK (⟨d, .field t x i, ty, pos, af, none⟩ :: rest) K σ = hoQ P ds blK rest K σ d (fieldV P t i (σ.ev x)) := (rfl)
@[simp high] theorem Hi (t : TypeId) (x i : Operand) : HoistF P ds blK (⟨d, .indexAddr t x i, ty, pos, af, none⟩ :: rest) K σ = hoQ P ds blK rest K σ d (idxV P t (σ.ev x) (σ.ev i)) := (rfl)
@[simp high] theorem Rc (t : TypeId) (x i : Operand) : HoistF P ds blK (⟨d, .index t x i, ty, pos, af, none⟩ :: rest) K σ = hoQ P ds blK rest K σ d (idsV P t (σ.ev x) (σ.ev i)) := (rfl)
@[simp high] theorem Kf (x : Operand) (i : Nat) : HoistF P ds blK (⟨d, .extract x i, ty, pos, af, none⟩ :: rest) K σ = hoQ P ds blK rest K σ d (extV i (σ.ev x)) := (rfl)
end
def hgQ (P:Program) (ds:List (Option Tmp)) (blK:Int→Option Blk) (rest:List Oper) (K:St→Prop) (σ:St) (d:Option Tmp) (op:Op) (b:Bool) (v:V):Prop:=match v with
 | .bool q => if q = b then bQ (qval P blK σ op) fun v => HoistF P ds blK rest K (σ.put d v) else HoistF P ds blK rest K (σ.put d (.tup []))
 | .tup [] => HoistF P ds blK rest K (σ.put d (.tup []))
 | _ => False
def hgS (P:Program) (ds:List (Option Tmp)) (blK:Int→Option Blk) (rest:List Oper) (K:St→Prop) (σ:St) (d:Option Tmp) (op:Op) (b:Bool) (x:Option (Option Tmp)):Prop:=match x with
 | some (some t) => hgQ P ds blK rest K σ d op b (σ.ev (.tmp t))
 | _ => False
section
variable (P : Program) (ds : List (Option Tmp)) (blK : Int → Option Blk) (rest : List Oper) (K : St → Prop) (σ : St) (d : Option Tmp) (op : Op) (ty : TypeId) (pos : String) (af : Array Edge) (b : Bool)
@[simp] theorem Yu (j : Nat) : HoistF P ds blK (⟨d, op, ty, pos, af, some (j, b)⟩ :: rest) K σ = hgS P ds blK rest K σ d op b (ds[j]?) := (rfl)
@[simp] theorem aL8 (t : Tmp) : hgS P ds blK rest K σ d op b (some (some t)) = hgQ P ds blK rest K σ d op b (σ.ev (.tmp t)) := (rfl)
@[simp] theorem aVV : hgQ P ds blK rest K σ d op true (.bool true) = hoQ P ds blK rest K σ d (qval P blK σ op) := by simp [hgQ, hoQ]
@[simp] theorem aUM : hgQ P ds blK rest K σ d op false (.bool false) = hoQ P ds blK rest K σ d (qval P blK σ op) := by simp [hgQ, hoQ]
@[simp] theorem aVD : hgQ P ds blK rest K σ d op true (.bool false) = HoistF P ds blK rest K (σ.put d (.tup [])) := by simp [hgQ]
@[simp] theorem aUO : hgQ P ds blK rest K σ d op false (.bool true) = HoistF P ds blK rest K (σ.put d (.tup [])) := by simp [hgQ]
@[simp] theorem aLW : hgQ P ds blK rest K σ d op b (.tup []) = HoistF P ds blK rest K (σ.put d (.tup [])) := (rfl)
end
theorem pG {P:Program} {ds:List (Option Tmp)} {blK:Int→Option Blk} {K:St→Prop} (S:List (Option Tmp)) (σ0:St): ∀(l:List Oper) (σ:St),HoistF P ds blK l K σ→(∀o,o∈l→o.dst∈S)→(σ.n=σ0.n∧ ∀t,some t∉S→σ.sl t=σ0.sl t)→
  HoistF P ds blK l (fun σ'=>K σ'∧σ'.n=σ0.n∧ ∀t,some t∉S→σ'.sl t=σ0.sl t) σ
 | [], σ, h, _, h0 => ⟨h, h0⟩
 | o :: rest, σ, h, hS, h0 => by
   have next: ∀v,HoistF P ds blK rest K (σ.put o.dst v)→HoistF P ds blK rest (fun σ'=>K σ'∧σ'.n=σ0.n∧ ∀t,some t∉S→σ'.sl t=σ0.sl t) (σ.put o.dst v):=fun v hv=>
    pG S σ0 rest _ hv (fun o' ho'=>hS o' (List.mem_cons_of_mem _ ho')) (by
     have hd:=hS o List.mem_cons_self
     cases hod:o.dst with
     | none => exact h0
     | some d =>
       rw[hod] at hd
       exact⟨h0.1,fun t ht=>by
        show upd σ.sl d v t=_
        rw[aG _ _ _ _ (fun e=>ht (by rw[e];exact hd))];exact h0.2 t ht⟩)
   unfold HoistF at h ⊢
   cases hg:o.guard with
   | none=>
     simp only[hg] at h ⊢
     split at h
     ·obtain⟨p,h1,v,n,ys,h2,h3⟩:=h
      exact⟨p,h1,v,n,ys,h2,next v h3⟩
     ·obtain⟨v,h1,h2⟩:=h
      exact⟨v,h1,next v h2⟩
   | some jb=>
     obtain⟨j,b⟩:=jb
     simp only[hg] at h ⊢
     split at h
     ·rename_i d hd
      split at h
      ·split at h
       ·rename_i hq
        obtain⟨v,h1,h2⟩:=h
        rw[if_pos hq]
        exact⟨v,h1,next v h2⟩
       ·rename_i hq
        rw[if_neg hq]
        exact next _ h
      ·exact next _ h
      ·exact h.elim
     ·exact h.elim
theorem Ib {f:Nat→V} : ∀(l:List (Nat×V)),(∀p,p∈l→f p.1=p.2)→ ∀p,p∈l→hv l p.1=f p.1
 | [], _, p, hp => by cases hp
 | (u, y) :: r, h, p, hp => by
   unfold hv
   by_cases e:p.1=u
   ·rw[if_pos e,e];exact(h (u,y) List.mem_cons_self).symm
   ·rw[if_neg e]
    rcases List.mem_cons.1 hp with rfl | hp
    ·exact absurd rfl e
    ·exact Ib r (fun q hq=>h q (List.mem_cons_of_mem _ hq)) p hp
theorem vH {P:Program} {id:Nat} {ops:Array Oper} {K:Ex→St→Prop} {σ:St} (hm:P.follows .mixedOrders=true) (hB:C3 ops=true) (l:List (Nat×V)) (n:Nat) (bl:Int→Option Blk) (t:Nat) (v:V) (hf:Fit l n bl σ) (hd:(l.all fun p=> !(ops.toList.map (·.dst)).contains (some p.1))=true)
  (h1:HoistF P (ops.toList.map (·.dst)) bl ops.toList (fun σ'=>σ'.sl t=v∧σ'.bl=bl) ⟨n,hv l,bl⟩) (h2:K .normal ⟨n,hv ((t,v)::l),bl⟩):AW P (.region id ops true) K σ:=by
 refine dJ l n bl hf ?_
 have hq:AW P (.region id ops true) (fun e σ'=>e= .normal∧(σ'.sl t=v∧σ'.bl=bl)∧σ'.n=n∧ ∀u,some u∉ops.toList.map (·.dst)→σ'.sl u=hv l u) ⟨n,hv l,bl⟩:=by
  refine cI hm hB ?_
  have:=pG (ops.toList.map (·.dst)) ⟨n,hv l,bl⟩ ops.toList ⟨n,hv l,bl⟩ h1 (fun o ho=>List.mem_map_of_mem ho) ⟨rfl,fun _ _=>rfl⟩
  simpa using this
 intro w0 M F a w hs
 refine wp_mono (hq w0 M F a w hs) fun e a' w' hp=> ?_
 obtain⟨ex,σ',F',e1,e2,e3,rfl,⟨k1,k2⟩,k3,k4⟩:=hp
 refine⟨.normal,⟨n,hv ((t,v)::l),bl⟩,F',e1,e2,e3.le ?_,h2⟩
 refine O0 ⟨k3,fun p hp=> ?_,by rw[k2];exact Sub.refl _⟩
 rcases List.mem_cons.1 hp with rfl | hp
 ·exact k1
 ·have:=List.all_eq_true.1 hd p hp
  have h5:some p.1∉ops.toList.map (·.dst):=by
   intro hc
   rw[Bool.not_eq_true'] at this
   have h6:=List.contains_iff_mem.2 hc
   rw[this] at h6;cases h6
  rw[k4 _ h5,Ib l hf.2.1 p hp,hf.2.1 p hp]
theorem Wy {P:Program} {id:Nat} {ops:Array Oper} {K:Ex→St→Prop} {σ:St} (l:List (Nat×V)) (n:Nat) (bl:Int→Option Blk) (t:Nat) (v:V) (hf:Fit l n bl σ) (hd:(l.all fun p=> !(ops.toList.map (·.dst)).contains (some p.1))=true)
  (h1:OpsF P (ops.toList.map (·.dst)) ops.toList (fun σ'=>σ'.sl t=v∧Sub bl σ'.bl) ⟨n,hv l,bl⟩) (h2:K .normal ⟨n,hv ((t,v)::l),bl⟩):AW P (.region id ops false) K σ:=by
 refine dJ l n bl hf ?_
 have hq:AW P (.region id ops false) (fun e σ'=>e= .normal∧(σ'.sl t=v∧Sub bl σ'.bl)∧σ'.n=n∧ ∀u,some u∉ops.toList.map (·.dst)→σ'.sl u=hv l u) ⟨n,hv l,bl⟩:=by
  refine xA ?_
  exact Bp _ (R5 _ (wG h1)) fun σ' h=>⟨rfl,h⟩
 intro w0 M F a w hs
 refine wp_mono (hq w0 M F a w hs) fun e a' w' hp=> ?_
 obtain⟨ex,σ',F',e1,e2,e3,rfl,⟨k1,k2⟩,k3,k4⟩:=hp
 refine⟨.normal,⟨n,hv ((t,v)::l),bl⟩,F',e1,e2,e3.le ?_,h2⟩
 refine O0 ⟨k3,fun p hp=> ?_,k2⟩
 rcases List.mem_cons.1 hp with rfl | hp
 ·exact k1
 ·have:=List.all_eq_true.1 hd p hp
  have h5:some p.1∉ops.toList.map (·.dst):=by
   intro hc
   rw[Bool.not_eq_true'] at this
   have h6:=List.contains_iff_mem.2 hc
   rw[this] at h6;cases h6
  rw[k4 _ h5,Ib l hf.2.1 p hp,hf.2.1 p hp]
theorem mO {P:Program} {f:FuncId} {xs ys:List V} {bl bl2:Int→Option Blk} {k:V→(Int→Option Blk)→Prop} (n:Nat) (hs:Sub bl2 bl) (hx:frzL (dropB bl bl2) n xs=some ys) (h:cH P f ys bl2 k):cH P f xs bl k:=by
 refine⟨h.1,fun w0 M F w vs hm cK=> ?_⟩
 have hlen:=qP hx
 have G2:Tm (fun k=>F k∨Own (dropB bl bl2) k) w ys vs:=by
  refine⟨by rw[cK.1,hlen.1],fun i y hy=> ?_⟩
  obtain⟨x,h1,h2⟩:=hlen.2 i y hy
  exact mA (fun g b hb=>xP hm g b hb) (fun g b hb h0=> .inr ⟨g,b,hb,h0,rfl⟩) (fun b hb=> .inl hb) n x y _ (cK.2 i x h1) h2
 exact(h.2 w0 M _ w vs (hm.freeze hs) G2).mono fun e w' ⟨v,r,bl',F',h1,h2,h3,h4,h5,h6,h7⟩=>⟨v,r,bl',F',h1,fun b hb=>h2 b (.inl hb),fun b hb=>h3 b (.inl hb),h4,h5,h6,h7⟩
theorem iK {P:Program} {f:FuncId} {xs:List V} {bl:Int→Option Blk} {r:V} {k:V→(Int→Option Blk)→Prop} (n:Nat) (bl2:Int→Option Blk) (ys:List V) (hs:Sub bl2 bl) (hx:frzL (dropB bl bl2) n xs=some ys) (h:RO P f ys r) (hk:k r bl2):cH P f xs bl k:=
 mO n hs hx (aD h hk)
theorem aY {P:Program} {id:Nat} {ops:Array Oper} {K:Ex→St→Prop} {σ:St} (hm:P.follows .mixedOrders=true) (blK:Int→Option Blk) (hs:Sub blK σ.bl) (is:List Nat) (fuel:Nat) (hn:(ops.size==fuel+is.length && is.all (fun i=>decide (i<ops.size))&& hoistB ops is (Array.replicate ops.size false))=true)
  (h:HoistF P (ops.toList.map (·.dst)) blK (is.filterMap fun i=>ops[i]?) (kF P ops blK (fun _=>false) (K .normal) fuel (iS is (Array.replicate ops.size false))) σ):AW P (.region id ops true) K σ:=by
 simp only[Bool.and_eq_true,beq_iff_eq] at hn
 exact jF hm is fuel blK hs hn.1.1 hn.2 (tl:=fun _=>false) (fun _ _ _ _ h=>by cases h) (iE _ is σ (filter_some is hn.1.2) h)
section
variable {P : Program} {ops : Array Oper} {blK : Int → Option Blk} {tl : Nat → Bool} {K : St → Prop} {fuel : Nat} {l : Array Bool} {σ : St}
theorem Dq (i:Nat) {o:Oper} (e:Bool) (h:T P o (fun σ'=>(e=false→Sub blK σ'.bl)∧DL P ops blK tl K fuel (l.setIfInBounds i true) σ') σ) (hr:Region.ready .any ops l= [i]:=by kernel_rfl) (ho:ops[i]? =some o:=by exact rfl) (hg:o.guard=none:=by exact rfl) (he:late tl l i=e:=by kernel_rfl):DL P ops blK tl K (fuel+1) l σ:=aE5 e hr ho hg he h
end
section
variable {P : Program} {ops : Array Oper} {blK : Int → Option Blk} {tl : Nat → Bool} {K : St → Prop} {fuel : Nat} {l : Array Bool} {σ : St}
theorem Dw (i j:Nat) {o p:Oper} (e f:Bool) (h:T P o (fun σ'=>(e=false→Sub blK σ'.bl)∧DL P ops blK tl K fuel (l.setIfInBounds i true) σ') σ) (h':T P p (fun σ'=>(f=false→Sub blK σ'.bl)∧DL P ops blK tl K fuel (l.setIfInBounds j true) σ') σ) (hr:Region.ready .any ops l= [i,j]:=by kernel_rfl) (ho:ops[i]? =some o:=by exact rfl) (hg:o.guard=none:=by exact rfl) (he:late tl l i=e:=by kernel_rfl) (ho':ops[j]? =some p:=by exact rfl) (hg':p.guard=none:=by exact rfl) (he':late tl l j=f:=by kernel_rfl):DL P ops blK tl K (fuel+1) l σ:=aDH e f hr ho hg he ho' hg' he' h h'
end
section
variable {P : Program} {ops : Array Oper} {blK : Int → Option Blk} {tl : Nat → Bool} {K : St → Prop} {fuel : Nat} {l : Array Bool} {σ : St}
theorem Dd (h:K σ) (hr:Region.ready .any ops l= []:=by kernel_rfl):DL P ops blK tl K fuel l σ:=Xb hr h
end
end Go.Proofs.YticmgmemnpcbbaaGreat.Vm

namespace Go.Proofs.YticmgmemnpcbbaaGreat.Vm
open Go Go.Proofs
set_option linter.unusedSimpArgs false
set_option linter.unusedVariables false
def iY (s:Str) (n:Nat):List Int:=((aQ s.js).take n).flatMap fun j=>eL s j++eX s j
def iD (s:Str):List Int:=(aQ s.js).flatMap fun j=>eL s j++eX s j
theorem yE (s:Str) (n:Nat) (h:n<(aQ s.js).length):iY s (n+1)=iY s n++eL s (aQ s.js)[n]++eX s (aQ s.js)[n]:=by
 unfold iY
 rw[List.take_add_one,List.getElem?_eq_getElem h,List.flatMap_append];simp
theorem kO (s:Str): ∀n,n≤(aQ s.js).length→(iY s n).length=2*s.ms.length*n
 | 0, _ => by simp [iY]
 | n + 1, h => by
   rw[yE s n (by omega),List.length_append,List.length_append,kO s n (by omega),mW,mX,Nat.mul_add];omega
structure Zc where
 i:Nat
 g:Int
 b:Int→Option Blk
def Uf (bl:Int→Option Blk) (s:Str) (gs:Int) (p:Zc):Prop:=
 p.i≤(aQ s.js).length∧p.g≠gs∧p.b p.g=some ⟨1,iv (iY s p.i)⟩∧p.b gs=some ⟨2,[[.sl (jv s.js),.sl (mv s.ms)]]⟩∧bl p.g=none∧Sub bl p.b∧(p.g<0→iY s p.i= [])
def xTo (s:Str) (j:Int) (n:Nat):List Int:=(s.ms.take n).map (eqX s j)
def yTo (s:Str) (j:Int) (n:Nat):List Int:=(s.ms.take n).map (eqY s j)
theorem Sv (s:Str) (j:Int) (n:Nat) (h:n<s.ms.length):xTo s j (n+1)=xTo s j n++ [eqX s j s.ms[n]]:=by
 unfold xTo;rw[List.take_add_one,List.getElem?_eq_getElem h,List.map_append];rfl
theorem Nr (s:Str) (j:Int) (n:Nat) (h:n<s.ms.length):yTo s j (n+1)=yTo s j n++ [eqY s j s.ms[n]]:=by
 unfold yTo;rw[List.take_add_one,List.getElem?_eq_getElem h,List.map_append];rfl
theorem Xf (s:Str) (j:Int):xTo s j s.ms.length=eL s j:=by simp[xTo,eL]
theorem Wv (s:Str) (j:Int):yTo s j s.ms.length=eX s j:=by simp[yTo,eX]
theorem Gy (s:Str) (j:Int) (n:Nat) (h:n≤s.ms.length):(xTo s j n).length=n:=by simp[xTo];omega
theorem En (s:Str) (j:Int) (n:Nat) (h:n≤s.ms.length):(yTo s j n).length=n:=by simp[yTo];omega
set_option maxHeartbeats 2000000 in
theorem Gv (s:Str) (hs:SOk s):NW Tryz.prog 193 [.agg s.c] (fl 1 (iv (iD s))):=by
 have h6:=hs.nj
 have h8:=hs.nm
 have hfr:=jK s.js s.js.length
 change(aQ s.js).length≤s.js.length at hfr
 refine fU Tryz.func193 rfl rfl (by rw[Tryz.ntmps193];simp) fun bl=> ?_
 rw[Tryz.ntmps193,Tryz.results193]
 refine aC ?_
 simp[Str.c]
 intro gs aCD hgs ga aI3 K3 Gc
 simp[Str.c,K3,Ne.symm K3]
 refine aD (tU s (by omega)) ?_
 simp
 refine aI (fun p:Zc=> [(1,.loc gs 2 0 0),(3,.lsl p.g 1 0 (2*s.ms.length*p.i)),(14,.sl (iv (aQ s.js))),(15,.int .i64 (aQ s.js).length),(16,.int .i64 p.i)]) (fun p=>p.b) (Uf bl s gs) (fun p=>(aQ s.js).length - p.i) 78
  ⟨0,ga,upd (upd bl gs (some ⟨2,[[.sl (jv s.js),.sl (mv s.ms)]]⟩)) ga (some ⟨1,[]⟩)⟩ ⟨Nat.zero_le _,K3,by simp[iY,iv],by simp[Ne.symm K3],Gc,by simp[hgs,Gc],fun _=>rfl⟩ ⟨rfl,by simp,sub_eq (by simp[Str.c])⟩ ?_
 rintro⟨i,g,b⟩ ⟨hi,hgg,hbg,hbs,hg,hsb,h0⟩
 simp only at hi hgg hbg hbs hg hsb h0
 refine aC ?_
 simp
 refine⟨fun h=> ?_,fun h=> ?_⟩
 ·have q:=eC (aQ s.js) i h
  simp[h]
  obtain⟨j,hj⟩: ∃j,(aQ s.js)[i]=j:=⟨_,rfl⟩
  rw[hj]
  intro gx aKQ hbx gy aVX hyx hby
  have nxs:gx≠gs:=fun e=>by rw[e,hbs] at hbx;cases hbx
  have nys:gy≠gs:=fun e=>by rw[e,hbs] at hby;cases hby
  have nxg:gx≠g:=fun e=>by rw[e,hbg] at hbx;cases hbx
  have nyg:gy≠g:=fun e=>by rw[e,hbg] at hby;cases hby
  simp[nxs,Ne.symm nxs,nys,Ne.symm nys,hbs]
  refine aI (fun p:Two=> [(1,.loc gs 2 0 0),(3,.lsl g 1 0 (2*s.ms.length*i)),(5,.int .i64 j),(6,.lsl p.g 1 0 p.i),(7,.lsl p.h 1 0 p.i),(14,.sl (iv (aQ s.js))),(15,.int .i64 (aQ s.js).length),(16,.int .i64 i),(23,.sl (mv s.ms)),(24,.int .i64 s.ms.length),(25,.int .i64 p.i)])
   (fun p=>p.b) (fun p=>Pb b (xTo s j) (yTo s j) s.ms.length p∧0≤p.g∧0≤p.h) (fun p=>s.ms.length - p.i) 78 ⟨0,gx,gy,upd (upd b gx (some ⟨1,[]⟩)) gy (some ⟨1,[]⟩)⟩ ⟨⟨Nat.zero_le _,Ne.symm hyx,by simp[Ne.symm hyx,xTo,iv],by simp[yTo,iv],hbx,hby,by simp[hbx,hby],fun _=>rfl,fun _=>rfl⟩,aKQ,aVX⟩ ⟨rfl,by simp,sub_eq (by simp)⟩ ?_
  rintro⟨k,x,y,c⟩ ⟨⟨hk,hxy,hcx,hcy,Cx,Ct,hsc,_,_⟩,hx0,hy0⟩
  simp only at hk hxy hcx hcy Cx Ct hsc hx0 hy0
  have hcs:=hsc _ _ hbs
  have hcg:=hsc _ _ hbg
  have fr: ∀x,c x=none→b x=none:=fun x hx=>aR hsc hx
  have lx:=Gy s j k hk
  have ly:=En s j k hk
  have tkx:(iv (xTo s j k)).take k=iv (xTo s j k):=List.take_of_length_le (by simp[lx])
  have tky:(iv (yTo s j k)).take k=iv (yTo s j k):=List.take_of_length_le (by simp[ly])
  refine aC ?_
  simp
  refine⟨fun hkl=> ?_,fun hkl=> ?_⟩
  ·have hv:=Me hs (List.getElem_mem hkl)
   have hm:mat s (k:Int)=s.ms[k]:=A0 hkl
   have F6:=T3 s k hs (by omega) (by omega)
   rw[hm] at F6
   have w1:IntKind.i64.wrap ((k:Int)+1)=k+1:=i64_in (by omega) (by omega)
   have nx:IntKind.i64.wrap (-vx s s.ms[k])= -vx s s.ms[k]:=i64_in (by omega) (by omega)
   have ny:IntKind.i64.wrap (-vy s s.ms[k])= -vy s s.ms[k]:=i64_in (by omega) (by omega)
   have sx:=Sv s j k hkl
   have sy:=Nr s j k hkl
   simp[hkl,Mb.c]
   intro g1 hg1 hb1
   have n1s:g1≠gs:=fun e=>by rw[e,hcs] at hb1;cases hb1
   have n1x:g1≠x:=fun e=>by rw[e,hcx] at hb1;cases hb1
   have n1y:g1≠y:=fun e=>by rw[e,hcy] at hb1;cases hb1
   simp[n1s,Ne.symm n1s,hcs]
   refine aD F6 ?_
   simp
   refine⟨fun e1=> ?_,fun e1=>⟨fun e2=> ?_,fun e2=> ?_⟩⟩
   ·intro g2 hg2 h21 hb2
    have n2x:g2≠x:=fun e=>by rw[e,hcx] at hb2;cases hb2
    have n2y:g2≠y:=fun e=>by rw[e,hcy] at hb2;cases hb2
    simp[hcx,n1x,h21,n2x,Ne.symm n1x,Ne.symm h21,Ne.symm n2x,lx,tkx,nx,ny,appV,elsV,Int.not_lt.2 hg2]
    refine⟨by omega,fun g3 hg3 hb3=> ?_⟩
    have n31:g3≠g1:=by grind
    have n3y:g3≠y:=by grind
    simp[n31,Ne.symm n31,n3y,Ne.symm n3y,nx,ny]
    intro g4 hg4 h43 hb4
    have n41:g4≠g1:=by grind
    have n4y:g4≠y:=by grind
    simp[hxy,Ne.symm hxy,hcy,n1y,Ne.symm n1y,n2y,Ne.symm n2y,n31,Ne.symm n31,n3y,Ne.symm n3y,n41,Ne.symm n41,n4y,Ne.symm n4y,h43,Ne.symm h43,ly,tky,lx,tkx,nx,ny,appV,elsV,Int.not_lt.2 hg4]
    refine⟨by omega,fun g5 hg5 hb5=> ?_⟩
    have n51:g5≠g1:=by grind
    have n53:g5≠g3:=by grind
    have f1:eqX s j s.ms[k]=vx s s.ms[k]:=by rw[eqX,if_pos e1]
    have f2:eqY s j s.ms[k]=vy s s.ms[k]:=by rw[eqY,if_pos e1]
    rw[f1] at sx
    rw[f2] at sy
    simp[w1,aB]
    refine⟨⟨k+1,g3,g5,_⟩,⟨⟨by simp only;omega,by simp only;grind,?_,?_,by simp only;grind,by simp only;grind,?_,fun e=>by simp only at e;omega,fun e=>by simp only at e;omega⟩,hg3,hg5⟩,by simp only;omega,rfl,by simp,sub_eq rfl⟩
    ·simp[hxy,Ne.symm hxy,n31,Ne.symm n31,n51,Ne.symm n51,n53,Ne.symm n53,n41,Ne.symm n41,h43,Ne.symm h43,n3y,Ne.symm n3y,n4y,Ne.symm n4y,sx,aZ,kJ,tkx,tky]
    ·simp[hxy,Ne.symm hxy,n31,Ne.symm n31,n51,Ne.symm n51,n53,Ne.symm n53,n41,Ne.symm n41,h43,Ne.symm h43,n3y,Ne.symm n3y,n4y,Ne.symm n4y,sy,aZ,kJ,tkx,tky]
    ·intro u z hx
     have hbx:=hsc u z hx
     have ng:u≠x:=fun e=>by rw[e,Cx] at hx;cases hx
     have nh:u≠y:=fun e=>by rw[e,Ct] at hx;cases hx
     simp[aA,aF]
     grind
   ·intro g2 hg2 h21 hb2
    have n2x:g2≠x:=fun e=>by rw[e,hcx] at hb2;cases hb2
    have n2y:g2≠y:=fun e=>by rw[e,hcy] at hb2;cases hb2
    simp[hcx,n1x,h21,n2x,Ne.symm n1x,Ne.symm h21,Ne.symm n2x,lx,tkx,nx,ny,appV,elsV,Int.not_lt.2 hg2]
    refine⟨by omega,fun g3 hg3 hb3=> ?_⟩
    have n31:g3≠g1:=by grind
    have n3y:g3≠y:=by grind
    simp[n31,Ne.symm n31,n3y,Ne.symm n3y,nx,ny]
    intro g4 hg4 h43 hb4
    have n41:g4≠g1:=by grind
    have n4y:g4≠y:=by grind
    simp[hxy,Ne.symm hxy,hcy,n1y,Ne.symm n1y,n2y,Ne.symm n2y,n31,Ne.symm n31,n3y,Ne.symm n3y,n41,Ne.symm n41,n4y,Ne.symm n4y,h43,Ne.symm h43,ly,tky,lx,tkx,nx,ny,appV,elsV,Int.not_lt.2 hg4]
    refine⟨by omega,fun g5 hg5 hb5=> ?_⟩
    have n51:g5≠g1:=by grind
    have n53:g5≠g3:=by grind
    have f1:eqX s j s.ms[k]= -vx s s.ms[k]:=by rw[eqX,if_neg e1,if_pos e2]
    have f2:eqY s j s.ms[k]= -vy s s.ms[k]:=by rw[eqY,if_neg e1,if_pos e2]
    rw[f1] at sx
    rw[f2] at sy
    simp[w1,aB]
    refine⟨⟨k+1,g3,g5,_⟩,⟨⟨by simp only;omega,by simp only;grind,?_,?_,by simp only;grind,by simp only;grind,?_,fun e=>by simp only at e;omega,fun e=>by simp only at e;omega⟩,hg3,hg5⟩,by simp only;omega,rfl,by simp,sub_eq rfl⟩
    ·simp[hxy,Ne.symm hxy,n31,Ne.symm n31,n51,Ne.symm n51,n53,Ne.symm n53,n41,Ne.symm n41,h43,Ne.symm h43,n3y,Ne.symm n3y,n4y,Ne.symm n4y,sx,aZ,kJ,tkx,tky]
    ·simp[hxy,Ne.symm hxy,n31,Ne.symm n31,n51,Ne.symm n51,n53,Ne.symm n53,n41,Ne.symm n41,h43,Ne.symm h43,n3y,Ne.symm n3y,n4y,Ne.symm n4y,sy,aZ,kJ,tkx,tky]
    ·intro u z hx
     have hbx:=hsc u z hx
     have ng:u≠x:=fun e=>by rw[e,Cx] at hx;cases hx
     have nh:u≠y:=fun e=>by rw[e,Ct] at hx;cases hx
     simp[aA,aF]
     grind
   ·intro g2 hg2 h21 hb2
    have n2x:g2≠x:=fun e=>by rw[e,hcx] at hb2;cases hb2
    have n2y:g2≠y:=fun e=>by rw[e,hcy] at hb2;cases hb2
    simp[hcx,n1x,h21,n2x,Ne.symm n1x,Ne.symm h21,Ne.symm n2x,lx,tkx,nx,ny,appV,elsV,Int.not_lt.2 hg2]
    refine⟨by omega,fun g3 hg3 hb3=> ?_⟩
    have n31:g3≠g1:=by grind
    have n3y:g3≠y:=by grind
    simp[n31,Ne.symm n31,n3y,Ne.symm n3y,nx,ny]
    intro g4 hg4 h43 hb4
    have n41:g4≠g1:=by grind
    have n4y:g4≠y:=by grind
    simp[hxy,Ne.symm hxy,hcy,n1y,Ne.symm n1y,n2y,Ne.symm n2y,n31,Ne.symm n31,n3y,Ne.symm n3y,n41,Ne.symm n41,n4y,Ne.symm n4y,h43,Ne.symm h43,ly,tky,lx,tkx,nx,ny,appV,elsV,Int.not_lt.2 hg4]
    refine⟨by omega,fun g5 hg5 hb5=> ?_⟩
    have n51:g5≠g1:=by grind
    have n53:g5≠g3:=by grind
    have f1:eqX s j s.ms[k]=0:=by rw[eqX,if_neg e1,if_neg e2]
    have f2:eqY s j s.ms[k]=0:=by rw[eqY,if_neg e1,if_neg e2]
    rw[f1] at sx
    rw[f2] at sy
    simp[w1,aB]
    refine⟨⟨k+1,g3,g5,_⟩,⟨⟨by simp only;omega,by simp only;grind,?_,?_,by simp only;grind,by simp only;grind,?_,fun e=>by simp only at e;omega,fun e=>by simp only at e;omega⟩,hg3,hg5⟩,by simp only;omega,rfl,by simp,sub_eq rfl⟩
    ·simp[hxy,Ne.symm hxy,n31,Ne.symm n31,n51,Ne.symm n51,n53,Ne.symm n53,n41,Ne.symm n41,h43,Ne.symm h43,n3y,Ne.symm n3y,n4y,Ne.symm n4y,sx,aZ,kJ,tkx,tky]
    ·simp[hxy,Ne.symm hxy,n31,Ne.symm n31,n51,Ne.symm n51,n53,Ne.symm n53,n41,Ne.symm n41,h43,Ne.symm h43,n3y,Ne.symm n3y,n4y,Ne.symm n4y,sy,aZ,kJ,tkx,tky]
    ·intro u z hx
     have hbx:=hsc u z hx
     have ng:u≠x:=fun e=>by rw[e,Cx] at hx;cases hx
     have nh:u≠y:=fun e=>by rw[e,Ct] at hx;cases hx
     simp[aA,aF]
     grind
  ·have:k=s.ms.length:=by omega
   subst this
   rw[Xf] at hcx
   rw[Wv] at hcy
   have aX9:x≠gs:=fun e=>by rw[e,hbs] at Cx;cases Cx
   have aXP:y≠gs:=fun e=>by rw[e,hbs] at Ct;cases Ct
   have Wq:x≠g:=fun e=>by rw[e,hbg] at Cx;cases Cx
   have Wc:y≠g:=fun e=>by rw[e,hbg] at Ct;cases Ct
   have lr:=kO s i (by omega)
   have tkr:(iv (iY s i)).take (2*s.ms.length*i)=iv (iY s i):=List.take_of_length_le (by simp[lr])
   have tkX:(iv (eL s j)).take s.ms.length=iv (eL s j):=List.take_of_length_le (by simp)
   have tkY:(iv (eX s j)).take s.ms.length=iv (eX s j):=List.take_of_length_le (by simp)
   have hi6:2*s.ms.length*i≤2*8*6:=Nat.mul_le_mul (by omega) (by omega)
   simp[hcg,hcx,hcy,Wq,Wc,Ne.symm Wq,Ne.symm Wc,Int.not_lt.2 hx0,Int.not_lt.2 hy0,appV,elsV,lr,tkr,tkX,tkY]
   refine⟨by omega,fun go hgo hbo=> ?_⟩
   have nos:go≠gs:=by grind
   have nox:go≠x:=by grind
   have noy:go≠y:=by grind
   simp[nox,noy,Ne.symm nox,Ne.symm noy,Wq,Wc,Ne.symm Wq,Ne.symm Wc,hcx,hcy,Int.not_lt.2 hx0,Int.not_lt.2 hy0,appV,elsV,lr,tkr,tkX,tkY]
   refine⟨by omega,fun gn hgn hbn=> ?_⟩
   have nns:gn≠gs:=by grind
   have w2:IntKind.i64.wrap ((i:Int)+1)=i+1:=i64_in (by omega) (by omega)
   subst hj
   have rs:=yE s i h
   have h1:bl go=none:=by
    by_cases e:go=g
    ·rw[e];exact hg
    ·exact aR hsb (fr _ (hbo e))
   have h2:bl gn=none:=by
    by_cases e:gn=go
    ·rw[e];exact h1
    ·by_cases e2:gn=g
     ·rw[e2];exact hg
     ·exact aR hsb (fr _ (by grind))
   simp[w2,aB]
   refine⟨⟨i+1,gn,_⟩,⟨by simp only;omega,nns,?_,?_,h2,?_,?_⟩,by simp only;omega,rfl,?_,sub_eq rfl⟩
   ·have tk2:(iv (iY s i)++iv (eL s (aQ s.js)[i])).take (2*s.ms.length*i+s.ms.length)=iv (iY s i)++iv (eL s (aQ s.js)[i]):=List.take_of_length_le (by simp[lr])
    simp[rs,aZ,tk2]
   ·simp[Ne.symm nns,Ne.symm nos,Ne.symm hgg,hcs]
   ·intro u z hx
    have hbx:=hsc u z (hsb u z hx)
    have n1:u≠g:=fun e=>by rw[e,hg] at hx;cases hx
    have n2:u≠go:=fun e=>by rw[e,h1] at hx;cases hx
    have n3:u≠gn:=fun e=>by rw[e,h2] at hx;cases hx
    simp[n1,n2,n3,hbx]
   ·intro e
    simp only at e ⊢
    have ez:s.ms= []:=by
     rcases hgn with hn | ⟨_,hn⟩
     ·omega
     ·have:=congrArg List.length hn
      simpa using this
    have er:=lr
    rw[ez] at er
    rw[rs]
    simp[eL,eX,ez] at er ⊢
    exact er
   ·simp[Nat.mul_add];omega
 ·have:i=(aQ s.js).length:=by omega
  subst this
  refine dI [.lsl g 1 0 (2*s.ms.length*(aQ s.js).length)] [g] (by simp) ?_ (by simpa using hg) hsb
  have e:iD s=iY s (aQ s.js).length:=by simp[iD,iY]
  refine dP.2 (.inr ⟨g,?_,rfl,by rw[e];exact hbg,by rw[e];exact h0⟩)
  rw[e,kO s _ (Nat.le_refl _)];rfl
theorem Gd (s:Str) (hs:SOk s):RO Tryz.prog 193 [.agg s.c] (.sl (iv (iD s))):=by
 have:=gJ 1 (Gv s hs) (iZ _ _ 0)
 simpa using this
def fW (s:Str) (l:List Int) (n:Nat):List Int:=((aQ s.js).take n).flatMap fun j=> [-lat l (2*j).toNat, -lat l (2*j+1).toNat]
def right (s:Str) (l:List Int):List Int:=(aQ s.js).flatMap fun j=> [-lat l (2*j).toNat, -lat l (2*j+1).toNat]
theorem uP (s:Str) (l:List Int) (n:Nat) (h:n<(aQ s.js).length):fW s l (n+1)=fW s l n++ [-lat l (2*(aQ s.js)[n]).toNat, -lat l (2*(aQ s.js)[n]+1).toNat]:=by
 unfold fW
 rw[List.take_add_one,List.getElem?_eq_getElem h,List.flatMap_append];simp
theorem jT (s:Str) (l:List Int): ∀n,n≤(aQ s.js).length→(fW s l n).length=2*n
 | 0, _ => by simp [fW]
 | n + 1, h => by
   rw[uP s l n (by omega),List.length_append,jT s l n (by omega)];simp;omega
theorem xS {s:Str} {j:Int} (h:j∈aQ s.js):0≤j∧j<s.js.length:=by
 unfold aQ cA at h
 obtain⟨k,hk,rfl⟩:=List.mem_map.1 h
 have:=List.mem_range.1 (List.mem_filter.1 hk).1
 omega
theorem kW (s:Str) (l:List Int) (hL:LOk s l):NW Tryz.prog 194 [.agg s.c,.sl (iv l)] (fl 1 (iv (right s l))):=by
 have h6:=hL.sok.nj
 have hfr:=jK s.js s.js.length
 change(aQ s.js).length≤s.js.length at hfr
 refine fU Tryz.func194 rfl rfl (by rw[Tryz.ntmps194];simp) fun bl=> ?_
 rw[Tryz.ntmps194,Tryz.results194]
 refine aC ?_
 simp[Str.c]
 intro gs aCD hgs ga aI3 K3 Gc
 simp[Str.c,K3,Ne.symm K3]
 refine aD (tU s (by omega)) ?_
 simp
 refine aI (fun p:Nat×Int=> [(1,.sl (iv l)),(5,.lsl p.2 1 0 (2*p.1)),(10,.sl (iv (aQ s.js))),(11,.int .i64 (aQ s.js).length),(12,.int .i64 p.1)]) (fun p=>upd bl p.2 (some ⟨1,iv (fW s l p.1)⟩)) (fun p=>p.1≤(aQ s.js).length∧bl p.2=none∧(p.2<0→fW s l p.1= [])) (fun p=>(aQ s.js).length - p.1) 34 (0,ga) ⟨Nat.zero_le _,Gc,fun _=>rfl⟩ (by refine⟨rfl,by simp,?_⟩;exact dM (by simp[fW,iv]) (by simp[hgs])) ?_
 rintro⟨i,g⟩ ⟨hi,hg,h0⟩
 simp only at hi hg h0
 refine aC ?_
 simp
 refine⟨fun h=> ?_,fun h=> ?_⟩
 ·have q:=eC (aQ s.js) i h
  obtain⟨r1,r2⟩:=xS (List.getElem_mem h)
  have rs:=uP s l i h
  simp[h]
  obtain⟨j,hj⟩: ∃j,(aQ s.js)[i]=j:=⟨_,rfl⟩
  rw[hj] at r1 r2 rs ⊢
  have a1:(2*j).toNat<l.length:=by rw[hL.n];omega
  have a2:(2*j+1).toNat<l.length:=by rw[hL.n];omega
  have b1:=hL.f _ a1
  have b2:=hL.f _ a2
  have q1:=yQ a1
  have q2:=yQ a2
  have w1:IntKind.i64.wrap (2*j)=2*j:=i64_in (by omega) (by omega)
  have w2:IntKind.i64.wrap (2*j+1)=2*j+1:=i64_in (by omega) (by omega)
  have w3:IntKind.i64.wrap (-lat l (2*j).toNat)= -lat l (2*j).toNat:=i64_in (by omega) (by omega)
  have w4:IntKind.i64.wrap (-lat l (2*j+1).toNat)= -lat l (2*j+1).toNat:=i64_in (by omega) (by omega)
  have w5:IntKind.i64.wrap ((i:Int)+1)=i+1:=i64_in (by omega) (by omega)
  have p1:0≤2*j:=by omega
  have p2:0≤2*j+1:=by omega
  refine aY aL bl (by simp[hg]) [0,1,2,3,4,5,6,7,8,9,10,11,12,13] 3 (by kernel_rfl) ?_
  simp[-eC,w1,w2,w3,w4,q1,q2,p1,p2]
  have er2:List.range 2= [0,1]:=rfl
  have lr:=jT s l i (by omega)
  have tkr:(iv (fW s l i)).take (2*i)=iv (fW s l i):=List.take_of_length_le (by simp[lr])
  refine Dz 14 ?_
  simp
  intro gp hgp hpg hbp
  refine⟨by simp[hbp,hg],Dz 15 ?_⟩
  simp[er2,hpg,Ne.symm hpg,lr,tkr,appV,elsV,Int.not_lt.2 hgp]
  refine⟨by omega,fun gn hgn hbn=> ?_⟩
  have hgb:bl gn=none:=by grind
  have hsb: ∀X,Sub bl (upd (rem (upd (upd bl g (some ⟨1,iv (fW s l i)⟩)) gp (some ⟨1,[[.int .i64 (-lat l (2*j).toNat)],[.int .i64 (-lat l (2*j+1).toNat)]]⟩)) g) gn X):=fun X=>by simp[hg,hbp,hgb,hpg]
  refine⟨hsb _,Dz 16 ?_⟩
  simp
  refine⟨hsb _,Dy ?_⟩
  simp[w5,aB]
  refine⟨i+1,gn,⟨by omega,?_,by omega⟩,by omega,rfl,by simp;omega,?_⟩
  ·grind
  rw[rs,aZ]
  exact dM (by rfl) (by simp[hg,hbp,hpg])
 ·have:i=(aQ s.js).length:=by omega
  subst this
  refine dI [.lsl g 1 0 (2*(aQ s.js).length)] [g] (by simp) ?_ (by simpa using hg) (by simp[hg])
  have e:right s l=fW s l (aQ s.js).length:=by simp[right,fW]
  refine dP.2 (.inr ⟨g,?_,rfl,by rw[e];simp,by rw[e];exact h0⟩)
  rw[e,jT s l _ (Nat.le_refl _)];rfl
end Go.Proofs.YticmgmemnpcbbaaGreat.Vm

namespace Go.Proofs.YticmgmemnpcbbaaGreat.Vm
open Go Go.RowKit
set_option linter.unusedSimpArgs false
set_option linter.unusedVariables false
theorem vR {P:Program} {ops:Array Oper} {blK:Int→Option Blk} {K:St→Prop} : ∀(is js:List Nat) (σ:St),Hoist P ops blK is (fun σ'=>Hoist P ops blK js K σ') σ→Hoist P ops blK (is++js) K σ
 | [], js, σ, h => h
 | i :: is, js, σ, h => by
   rw[List.cons_append]
   unfold Hoist at h ⊢
   split at h
   ·obtain⟨v,h1,h2⟩:=h
    exact⟨v,h1,vR is js _ h2⟩
   ·exact h.elim
theorem yW {P:Program} {ds:List (Option Tmp)} {blK:Int→Option Blk} {K K':St→Prop} (hK: ∀σ,K σ→K' σ): ∀(l:List Oper) (σ:St),HoistF P ds blK l K σ→HoistF P ds blK l K' σ
 | [], σ, h => hK σ h
 | o :: rest, σ, h => by
   have next: ∀v,HoistF P ds blK rest K (σ.put o.dst v)→HoistF P ds blK rest K' (σ.put o.dst v):=fun v hv=>yW hK rest _ hv
   unfold HoistF at h ⊢
   cases hg:o.guard with
   | none=>
     simp only[hg] at h ⊢
     split at h
     ·obtain⟨p,h1,v,n,ys,h2,h3⟩:=h
      exact⟨p,h1,v,n,ys,h2,next v h3⟩
     ·obtain⟨v,h1,h2⟩:=h
      exact⟨v,h1,next v h2⟩
   | some jb=>
     obtain⟨j,b⟩:=jb
     simp only[hg] at h ⊢
     split at h
     ·rename_i d hd
      split at h
      ·split at h
       ·rename_i hq
        obtain⟨v,h1,h2⟩:=h
        rw[if_pos hq]
        exact⟨v,h1,next v h2⟩
       ·rename_i hq
        rw[if_neg hq]
        exact next _ h
      ·exact next _ h
      ·exact h.elim
     ·exact h.elim
def HStep (P:Program) (ops:Array Oper) (blK:Int→Option Blk) (i:Nat) (K:St→Prop) (σ:St):Prop:=match ops[i]? with
 | some o => ∃ v, DY P ops blK o σ v ∧ K (σ.put o.dst v)
 | none => False
theorem aHZ {P:Program} {id:Nat} {ops:Array Oper} {K:Ex→St→Prop} {σ:St} (hm:P.follows .mixedOrders=true) (blK:Int→Option Blk) (hs:Sub blK σ.bl) (is1:List Nat) (i:Nat) (is2:List Nat) (fuel:Nat)
  (hn:(ops.size==fuel+(is1++i::is2).length && (is1++i::is2).all (fun i=>decide (i<ops.size))&& hoistB ops (is1++i::is2) (Array.replicate ops.size false))=true)
  (h:HoistF P (ops.toList.map (·.dst)) blK (is1.filterMap fun i=>ops[i]?) (HStep P ops blK i (HoistF P (ops.toList.map (·.dst)) blK (is2.filterMap fun i=>ops[i]?) (kF P ops blK (fun _=>false) (K .normal) fuel (iS (is1++i::is2) (Array.replicate ops.size false))))) σ):AW P (.region id ops true) K σ:=by
 simp only[Bool.and_eq_true,beq_iff_eq] at hn
 have bH:=List.all_eq_true.1 hn.1.2
 have f1:is1.all (fun i=>decide (i<ops.size))=true:=List.all_eq_true.2 fun x hx=>bH x (List.mem_append_left _ hx)
 have f2:is2.all (fun i=>decide (i<ops.size))=true:=List.all_eq_true.2 fun x hx=>bH x (List.mem_append_right _ (List.mem_cons_of_mem _ hx))
 refine jF hm (is1++i::is2) fuel blK hs hn.1.1 hn.2 (tl:=fun _=>false) (fun _ _ _ _ h=>by cases h) (vR is1 (i::is2) σ (iE _ is1 σ (filter_some is1 f1) ?_))
 refine yW (fun σ' h'=> ?_) _ _ h
 unfold HStep at h'
 unfold Hoist
 split at h'
 ·rename_i o ho
  obtain⟨v,h1,h2⟩:=h'
  rw[ho]
  exact⟨v,h1,iE _ is2 _ (filter_some is2 f2) h2⟩
 ·exact h'.elim
theorem aFE {P:Program} {id:Nat} {ops:Array Oper} {K:Ex→St→Prop} {σ:St} (hm:P.follows .mixedOrders=true) (blK:Int→Option Blk) (hs:Sub blK σ.bl) (is:List Nat) (fuel n:Nat) (hn:(ops.size==fuel+is.length && is.all (fun i=>decide (i<ops.size))&& hoistB ops is (Array.replicate ops.size false)&& Q3 ops (fun j=>decide (n≤j)) is)=true)
  (h:HoistF P (ops.toList.map (·.dst)) blK (is.filterMap fun i=>ops[i]?) (kF P ops blK (fun j=>decide (n≤j)) (K .normal) fuel (iS is (Array.replicate ops.size false))) σ):AW P (.region id ops true) K σ:=by
 simp only[Bool.and_eq_true,beq_iff_eq] at hn
 exact jF hm is fuel blK hs hn.1.1.1 hn.1.2 (tl:=fun j=>decide (n≤j)) (mJ hn.2) (iE _ is σ (filter_some is hn.1.1.2) h)
end Go.Proofs.YticmgmemnpcbbaaGreat.Vm

namespace Go.Proofs.YticmgmemnpcbbaaGreat.Vm
open Go Go.Proofs
set_option linter.unusedSimpArgs false
set_option linter.unusedVariables false
structure Pg where
 rows:Int
 aP:Int
 a:List Int
 b:List Int
 c:List Int
def Pg.v (p:Pg):List V:= [.int .i64 p.rows,.int .i64 p.aP,.sl (iv p.a),.sl (iv p.b),.sl (iv p.c)]
def nR (s:Str):Nat:=2*(aQ s.js).length
def nC (s:Str):Nat:=(aP s.ms).length
def fL (s:Str) (c:Nat):Int×Int:=(aP s.ms).getD c (0,0)
def ent (s:Str) (i c:Nat):Int:=(fL s c).2*lat (iD s) (i*s.ms.length+(fL s c).1.toNat)
def aTo (s:Str) (n:Nat):List Int:=(List.range n).map fun t=>ent s (t / nC s) (t % nC s)
def dA (s:Str) (l:List Int):Pg:=⟨nR s,nC s,aTo s (nR s*nC s),right s l,List.replicate (nC s) 0⟩
@[simp] theorem aC7 (s : Str) (n : Nat) : (aTo s n).length = n := by simp [aTo]
theorem Ny (s:Str) (i c:Nat) (h:c<nC s):aTo s (i*nC s+c+1)=aTo s (i*nC s+c)++ [ent s i c]:=by
 unfold aTo
 rw[List.range_succ,List.map_append]
 congr 1
 simp only[List.map_cons,List.map_nil]
 rw[Nat.mul_comm i,Nat.mul_add_div (by omega),Nat.mul_add_mod,Nat.div_eq_of_lt h,Nat.mod_eq_of_lt h,Nat.add_zero]
theorem U8 (s:Str):(iD s).length=nR s*s.ms.length:=by
 have e:iD s=iY s (aQ s.js).length:=by simp[iD,iY]
 rw[e,kO s _ (Nat.le_refl _),nR,Nat.mul_right_comm]
theorem Sm {ms:List Mb} {n:Nat} {p:Int×Int} (h:p∈aU ms n):(0≤p.1∧p.1<n)∧(p.2=1∨p.2= -1):=by
 unfold aU at h
 obtain⟨k,hk,hp⟩:=List.mem_flatMap.1 h
 have:=List.mem_range.1 hk
 unfold nP at hp
 rcases List.mem_append.1 hp with hp | hp<;>split at hp<;>simp at hp<;>subst hp<;>simp<;>omega
theorem rL (s:Str) (c:Nat) (h:c<nC s):(0≤(fL s c).1∧(fL s c).1<s.ms.length)∧((fL s c).2=1∨(fL s c).2= -1):=by
 unfold nC at h
 have:fL s c=(aP s.ms)[c]:=by simp[fL,h]
 rw[this]
 exact Sm (List.getElem_mem h)
theorem Qj (s:Str) (c:Nat) (h:c<nC s):(iv (who s))[c]? =some [.int .i64 (fL s c).1]:=by
 unfold nC at h
 simp[who,fL,h,iv]
theorem aCM (s:Str) (c:Nat) (h:c<nC s):(iv (sgn s))[c]? =some [.int .i64 (fL s c).2]:=by
 unfold nC at h
 simp[sgn,fL,h,iv]
theorem vU {s:Str} (hs:SOk s) (n:Nat): -100≤lat (iD s) n∧lat (iD s) n≤100:=by
 have key: ∀x,x∈iD s→ -100≤x∧x≤100:=by
  intro x hx
  unfold iD at hx
  obtain⟨j,_,hx⟩:=List.mem_flatMap.1 hx
  rcases List.mem_append.1 hx with hx | hx
  ·obtain⟨m,hm,rfl⟩:=List.mem_map.1 hx
   have:=Me hs hm
   unfold eqX;split
   ·omega
   ·split<;>omega
  ·obtain⟨m,hm,rfl⟩:=List.mem_map.1 hx
   have:=Me hs hm
   unfold eqY;split
   ·omega
   ·split<;>omega
 unfold lat
 rw[List.getD_eq_getElem?_getD]
 cases h:(iD s)[n]? with
 | none => simp
 | some x => exact key x (List.mem_of_getElem? h)
structure PS where
 n:Nat
 g:Int
 b:Int→Option Blk
structure PI (bl : Int → Option Blk) (s : Str) (l : List Int) (gr gp gc : Int) (p : PS) : Prop where
 hr:p.b gr=some ⟨5,[[.int .i64 0,.int .i64 0,.nils,.nils,.nils]]⟩
 hp:p.b gp=some ⟨5,[[.int .i64 (nR s),.int .i64 (nC s),.lsl p.g 1 0 p.n,.sl (iv (right s l)),.lsl gc 1 0 (nC s)]]⟩
 hc:p.b gc=some ⟨1,iv (List.replicate (nC s) 0)⟩
 ha:p.b p.g=some ⟨1,iv (aTo s p.n)⟩
 pr:p.g≠gr
 pp:p.g≠gp
 pc:p.g≠gc
 f:bl p.g=none
 sub:Sub bl p.b
 neg:p.g<0→aTo s p.n= []

theorem A3 {n:Nat} : ∀(rs:List (List Int)),(∀r,r∈rs→r.length=n)→ ∀(i k:Nat) (hi:i<rs.length),k<n→lat rs.flatten (i*n+k)=lat rs[i] k
 | [], _, i, k, hi, _ => by simp at hi
 | r :: rs, h, 0, k, hi, hk => by
   have:=h r List.mem_cons_self
   simp[lat,List.flatten_cons,List.getElem?_append_left (show k<r.length by omega)]
 | r :: rs, h, i + 1, k, hi, hk => by
   have hr:=h r List.mem_cons_self
   have ih:=A3 rs (fun r hr=>h r (List.mem_cons_of_mem _ hr)) i k (by simpa using hi) hk
   have e:(i+1)*n+k=r.length+(i*n+k):=by rw[hr,Nat.add_mul];omega
   rw[List.flatten_cons,e]
   simp only[lat,List.getD_eq_getElem?_getD] at ih ⊢
   rw[List.getElem?_append_right (by omega),Nat.add_sub_cancel_left,ih];rfl
theorem tR (s:Str):iD s=(dF s).flatten:=by
 unfold iD dF
 induction aQ s.js with
 | nil => rfl
 | cons j js ih => simp [ih]
theorem mK (s:Str): ∀r,r∈dF s→r.length=s.ms.length:=by
 intro r hr
 unfold dF at hr
 obtain⟨j,_,hr⟩:=List.mem_flatMap.1 hr
 simp at hr
 rcases hr with rfl | rfl<;>simp
theorem aEB (s:Str) (n m:Nat) (h:m<n):(iv (aTo s n))[m]'(by simpa using h)= [.int .i64 (ent s (m / nC s) (m % nC s))]:=by simp[aTo]
theorem eJ (s:Str) (l:List Int):(right s l).length=nR s:=by
 have e:right s l=fW s l (aQ s.js).length:=by simp[right,fW]
 rw[e,jT s l _ (Nat.le_refl _)];rfl
theorem Aa (s:Str) (l:List Int): ∀(fs:List Int) (i:Nat) (h:i<fs.length),lat (fs.flatMap fun j=> [-lat l (2*j).toNat, -lat l (2*j+1).toNat]) (2*i)= -lat l (2*fs[i]).toNat∧lat (fs.flatMap fun j=> [-lat l (2*j).toNat, -lat l (2*j+1).toNat]) (2*i+1)= -lat l (2*fs[i]+1).toNat
 | [], i, h => by simp at h
 | f :: fs, 0, _ => by simp [lat]
 | f :: fs, i + 1, h => by
   have ih:=Aa s l fs i (by simpa using h)
   have e1:2*(i+1)=(2*i)+1+1:=by omega
   have e2:2*(i+1)+1=(2*i+1)+1+1:=by omega
   rw[e2,e1]
   simpa [lat] using ih
theorem qU (s:Str) (hs:SOk s):RO Tryz.prog 148 [.ptr s.c] (.sl (ivv (dF s))):=by
 have:=gJ 2 (I0 s hs) (Yk _)
 rwa [aB1] at this
def dPg (p:Pg):D:= .a [.c (.int .i64 p.rows),.c (.int .i64 p.aP),fl 1 (iv p.a),fl 1 (iv p.b),fl 1 (iv p.c)]
structure ABC where
 a:Int
 b:Int
 c:Int
structure aAK (bl : Int → Option Blk) (gr gp : Int) (p : ABC) : Prop where
 a0:0≤p.a
 b0:0≤p.b
 c0:0≤p.c
 ba: ¬p.b=p.a
 ca: ¬p.c=p.a
 cb: ¬p.c=p.b
 ar: ¬p.a=gr
 ap: ¬p.a=gp
 br: ¬p.b=gr
 bp: ¬p.b=gp
 cr: ¬p.c=gr
 cp: ¬p.c=gp
 fa:bl p.a=none
 fb:bl p.b=none
 fc:bl p.c=none
theorem ad {p:Prop} {a b:Int} (F:p) (h: ¬a=b):p∧(a=b)=False∧(b=a)=False:=⟨F,eq_false h,eq_false fun e=>h e.symm⟩
theorem an {p q:Prop} (F:p) (h:q):p∧q:=⟨F,h⟩
set_option maxHeartbeats 4000000 in
theorem zL (s:Str) (l:List Int) (hL:LOk s l):NW Tryz.prog 72 [.ptr s.c,.sl (iv l),.int .i64 0,.int .i64 0] (dPg (dA s l)):=by
 have hs:=hL.sok
 have h6:=hs.nj
 have h8:=hs.nm
 have hfr:=jK s.js s.js.length
 change(aQ s.js).length≤s.js.length at hfr
 have hcn:nC s≤2*s.ms.length:=iI s.ms s.ms.length
 have hrn:nR s≤12:=by unfold nR;omega
 have er:(dF s).length=nR s:=by
  have e:dF s=xO s (aQ s.js).length:=by simp[xO,dF]
  rw[e,mY s _ (Nat.le_refl _)];rfl
 have ec:(aP s.ms).length=nC s:=rfl
 refine fU Tryz.func72 rfl rfl (by rw[Tryz.ntmps72];simp) fun bl=> ?_
 rw[Tryz.ntmps72,Tryz.results72]
 refine aE ?_
 simp
 intro gr aFA hbr
 refine aE ?_
 simp
 refine aD (qU s hs) ?_
 simp
 refine aD (tV s (by omega)) ?_
 simp
 refine aE ?_
 have w1:IntKind.i64.wrap (nR s:Int)=nR s:=i64_in (by omega) (by omega)
 have w2:IntKind.i64.wrap (nC s:Int)=nC s:=i64_in (by omega) (by omega)
 simp[er,ec,w1,w2]
 intro gp aVR hpr hbp
 obtain⟨nA,hA⟩: ∃n:Nat,n=nR s*nC s:=⟨_,rfl⟩
 have hA2:nA≤12*16:=by rw[hA];exact Nat.mul_le_mul (by omega) (by omega)
 have w3:IntKind.i64.wrap ((nR s:Int)*nC s)=nA:=by
  rw[hA]
  have:((nR s*nC s:Nat):Int)=nR s*nC s:=by simp
  rw[←this]
  exact i64_in (by omega) (by omega)
 let S:ABC→List (Nat×V):=fun _=> [(0,.ptr s.c),(1,.sl (iv l)),(8,.loc gr 5 0 0),(9,.sl (ivv (dF s))),(10,.sl (cv (aP s.ms))),(11,.loc gp 5 0 0)]
 let B:ABC→Int→Option Blk:=fun p=>upd (upd (upd (upd (upd bl gr (some ⟨5,[[.int .i64 0,.int .i64 0,.nils,.nils,.nils]]⟩)) gp (some ⟨5,[[.int .i64 (nR s),.int .i64 (nC s),.lsl p.a 1 0 nA,.lsl p.b 1 0 (nR s),.lsl p.c 1 0 (nC s)]]⟩)) p.a (some ⟨1,List.replicate nA [.int .i64 0]⟩)) p.b (some ⟨1,List.replicate (nR s) [.int .i64 0]⟩)) p.c (some ⟨1,List.replicate (nC s) [.int .i64 0]⟩)
 have leaf: ∀(n:Nat) (σ:St) (ga gb gc:Int),0≤ga→0≤gb→0≤gc→(¬gb=ga∧ ¬gc=ga∧ ¬gc=gb∧ ¬ga=gr∧ ¬ga=gp∧ ¬gb=gr∧ ¬gb=gp∧ ¬gc=gr∧ ¬gc=gp∧bl ga=none∧bl gb=none∧bl gc=none)→σ.n=n→(∀p,p∈S ⟨ga,gb,gc⟩→σ.sl p.1=p.2)→Sub (B ⟨ga,gb,gc⟩) σ.bl→
   ∃a,aAK bl gr gp a∧Fit (S a) n (B a) σ:=fun n σ ga gb gc h1 h2 h3 ⟨h4,h5,h6,h7,h8,h9,h10,h11,h12,h13,h14,h15⟩ h16 h17 h18=>⟨⟨ga,gb,gc⟩,⟨h1,h2,h3,h4,h5,h6,h7,h8,h9,h10,h11,h12,h13,h14,h15⟩,h16,h17,h18⟩
 refine gV S B (aAK bl gr gp) 113 ?_ ?_
 ·have F:=an (an (ad trivial (show ¬gp=gr from hpr)) hbr) hbp
  refine Kl aL _ (Sub.refl _) [0,1,2,3,4,6,7,9,10] 9 12 (by kernel_rfl) ?_
  simp[w3]
  refine uE (i:=5) (j:=8) (m:=11) false false false (by kernel_rfl) rfl rfl (by kernel_rfl) rfl rfl (by kernel_rfl) rfl rfl (by kernel_rfl) ?_ ?_ ?_
  ·simp[F]
   refine⟨by omega,by unfold maxLen;omega,?_⟩
   intro ga hga
   intros
   have F:=an (ad (ad F (show ¬ga=gr by assumption)) (show ¬ga=gp by assumption)) (show bl ga=none by assumption)
   refine⟨by simp[F],?_⟩
   refine uE (i:=8) (j:=11) (m:=12) false false true (by kernel_rfl) rfl rfl (by kernel_rfl) rfl rfl (by kernel_rfl) rfl rfl (by kernel_rfl) ?_ ?_ ?_
   ·simp[F]
    refine⟨by omega,by unfold maxLen;omega,?_⟩
    intro gb hgb
    intros
    have F:=an (ad (ad (ad F (show ¬gb=gr by assumption)) (show ¬gb=gp by assumption)) (show ¬gb=ga by assumption)) (show bl gb=none by assumption)
    refine⟨by simp[F],?_⟩
    refine Dw 11 12 false true ?_ ?_
    ·simp[F]
     refine⟨by omega,by unfold maxLen;omega,?_⟩
     intro gc hgc
     intros
     have F:=an (ad (ad (ad (ad F (show ¬gc=gr by assumption)) (show ¬gc=gp by assumption)) (show ¬gc=ga by assumption)) (show ¬gc=gb by assumption)) (show bl gc=none by assumption)
     refine⟨by simp[F],?_⟩
     refine Dq 12 true ?_
     simp[F]
     refine Dq 13 true ?_
     simp[F]
     refine Dq 14 true ?_
     simp[F]
     refine Dq 15 true ?_
     simp[F]
     refine Dq 16 true ?_
     simp[F]
     refine Dq 17 true ?_
     simp[F]
     refine Dd ?_
     rw[aH]
     exact leaf _ _ ga gb gc hga hgb hgc (by simp[F]) rfl (by simp[S]) (by intro x y hx;simp only[B,aA] at hx ⊢;grind)
    ·simp[F]
     refine Dw 11 13 true true ?_ ?_
     ·simp[F]
      refine⟨by omega,by unfold maxLen;omega,?_⟩
      intro gc hgc
      intros
      have F:=an (ad (ad (ad (ad F (show ¬gc=gr by assumption)) (show ¬gc=gp by assumption)) (show ¬gc=ga by assumption)) (show ¬gc=gb by assumption)) (show bl gc=none by assumption)
      refine Dq 13 true ?_
      simp[F]
      refine Dq 14 true ?_
      simp[F]
      refine Dq 15 true ?_
      simp[F]
      refine Dq 16 true ?_
      simp[F]
      refine Dq 17 true ?_
      simp[F]
      refine Dd ?_
      rw[aH]
      exact leaf _ _ ga gb gc hga hgb hgc (by simp[F]) rfl (by simp[S]) (by intro x y hx;simp only[B,aA] at hx ⊢;grind)
     ·simp[F]
      refine Dw 11 14 true true ?_ ?_
      ·simp[F]
       refine⟨by omega,by unfold maxLen;omega,?_⟩
       intro gc hgc
       intros
       have F:=an (ad (ad (ad (ad F (show ¬gc=gr by assumption)) (show ¬gc=gp by assumption)) (show ¬gc=ga by assumption)) (show ¬gc=gb by assumption)) (show bl gc=none by assumption)
       refine Dq 14 true ?_
       simp[F]
       refine Dq 15 true ?_
       simp[F]
       refine Dq 16 true ?_
       simp[F]
       refine Dq 17 true ?_
       simp[F]
       refine Dd ?_
       rw[aH]
       exact leaf _ _ ga gb gc hga hgb hgc (by simp[F]) rfl (by simp[S]) (by intro x y hx;simp only[B,aA] at hx ⊢;grind)
      ·simp[F]
       refine Dw 11 15 true true ?_ ?_
       ·simp[F]
        refine⟨by omega,by unfold maxLen;omega,?_⟩
        intro gc hgc
        intros
        have F:=an (ad (ad (ad (ad F (show ¬gc=gr by assumption)) (show ¬gc=gp by assumption)) (show ¬gc=ga by assumption)) (show ¬gc=gb by assumption)) (show bl gc=none by assumption)
        refine Dq 15 true ?_
        simp[F]
        refine Dq 16 true ?_
        simp[F]
        refine Dq 17 true ?_
        simp[F]
        refine Dd ?_
        rw[aH]
        exact leaf _ _ ga gb gc hga hgb hgc (by simp[F]) rfl (by simp[S]) (by intro x y hx;simp only[B,aA] at hx ⊢;grind)
       ·simp[F]
        refine Dq 11 true ?_
        simp[F]
        refine⟨by omega,by unfold maxLen;omega,?_⟩
        intro gc hgc
        intros
        have F:=an (ad (ad (ad (ad F (show ¬gc=gr by assumption)) (show ¬gc=gp by assumption)) (show ¬gc=ga by assumption)) (show ¬gc=gb by assumption)) (show bl gc=none by assumption)
        refine Dq 16 true ?_
        simp[F]
        refine Dq 17 true ?_
        simp[F]
        refine Dd ?_
        rw[aH]
        exact leaf _ _ ga gb gc hga hgb hgc (by simp[F]) rfl (by simp[S]) (by intro x y hx;simp only[B,aA] at hx ⊢;grind)
   ·simp[F]
    refine⟨by omega,by unfold maxLen;omega,?_⟩
    intro gc hgc
    intros
    have F:=an (ad (ad (ad F (show ¬gc=gr by assumption)) (show ¬gc=gp by assumption)) (show ¬gc=ga by assumption)) (show bl gc=none by assumption)
    refine⟨by simp[F],?_⟩
    refine Dw 8 12 false true ?_ ?_
    ·simp[F]
     refine⟨by omega,by unfold maxLen;omega,?_⟩
     intro gb hgb
     intros
     have F:=an (ad (ad (ad (ad F (show ¬gb=gr by assumption)) (show ¬gb=gp by assumption)) (show ¬gb=ga by assumption)) (show ¬gb=gc by assumption)) (show bl gb=none by assumption)
     refine⟨by simp[F],?_⟩
     refine Dq 12 true ?_
     simp[F]
     refine Dq 13 true ?_
     simp[F]
     refine Dq 14 true ?_
     simp[F]
     refine Dq 15 true ?_
     simp[F]
     refine Dq 16 true ?_
     simp[F]
     refine Dq 17 true ?_
     simp[F]
     refine Dd ?_
     rw[aH]
     exact leaf _ _ ga gb gc hga hgb hgc (by simp[F]) rfl (by simp[S]) (by intro x y hx;simp only[B,aA] at hx ⊢;grind)
    ·simp[F]
     refine Dw 8 13 true true ?_ ?_
     ·simp[F]
      refine⟨by omega,by unfold maxLen;omega,?_⟩
      intro gb hgb
      intros
      have F:=an (ad (ad (ad (ad F (show ¬gb=gr by assumption)) (show ¬gb=gp by assumption)) (show ¬gb=ga by assumption)) (show ¬gb=gc by assumption)) (show bl gb=none by assumption)
      refine Dq 13 true ?_
      simp[F]
      refine Dq 14 true ?_
      simp[F]
      refine Dq 15 true ?_
      simp[F]
      refine Dq 16 true ?_
      simp[F]
      refine Dq 17 true ?_
      simp[F]
      refine Dd ?_
      rw[aH]
      exact leaf _ _ ga gb gc hga hgb hgc (by simp[F]) rfl (by simp[S]) (by intro x y hx;simp only[B,aA] at hx ⊢;grind)
     ·simp[F]
      refine Dq 8 true ?_
      simp[F]
      refine⟨by omega,by unfold maxLen;omega,?_⟩
      intro gb hgb
      intros
      have F:=an (ad (ad (ad (ad F (show ¬gb=gr by assumption)) (show ¬gb=gp by assumption)) (show ¬gb=ga by assumption)) (show ¬gb=gc by assumption)) (show bl gb=none by assumption)
      refine Dq 14 true ?_
      simp[F]
      refine Dq 15 true ?_
      simp[F]
      refine Dq 16 true ?_
      simp[F]
      refine Dq 17 true ?_
      simp[F]
      refine Dd ?_
      rw[aH]
      exact leaf _ _ ga gb gc hga hgb hgc (by simp[F]) rfl (by simp[S]) (by intro x y hx;simp only[B,aA] at hx ⊢;grind)
   ·simp[F]
    refine uE (i:=8) (j:=11) (m:=13) true true true (by kernel_rfl) rfl rfl (by kernel_rfl) rfl rfl (by kernel_rfl) rfl rfl (by kernel_rfl) ?_ ?_ ?_
    ·simp[F]
     refine⟨by omega,by unfold maxLen;omega,?_⟩
     intro gb hgb
     intros
     have F:=an (ad (ad (ad F (show ¬gb=gr by assumption)) (show ¬gb=gp by assumption)) (show ¬gb=ga by assumption)) (show bl gb=none by assumption)
     refine Dw 11 13 true true ?_ ?_
     ·simp[F]
      refine⟨by omega,by unfold maxLen;omega,?_⟩
      intro gc hgc
      intros
      have F:=an (ad (ad (ad (ad F (show ¬gc=gr by assumption)) (show ¬gc=gp by assumption)) (show ¬gc=ga by assumption)) (show ¬gc=gb by assumption)) (show bl gc=none by assumption)
      refine Dq 13 true ?_
      simp[F]
      refine Dq 14 true ?_
      simp[F]
      refine Dq 15 true ?_
      simp[F]
      refine Dq 16 true ?_
      simp[F]
      refine Dq 17 true ?_
      simp[F]
      refine Dd ?_
      rw[aH]
      exact leaf _ _ ga gb gc hga hgb hgc (by simp[F]) rfl (by simp[S]) (by intro x y hx;simp only[B,aA] at hx ⊢;grind)
     ·simp[F]
      refine Dw 11 14 true true ?_ ?_
      ·simp[F]
       refine⟨by omega,by unfold maxLen;omega,?_⟩
       intro gc hgc
       intros
       have F:=an (ad (ad (ad (ad F (show ¬gc=gr by assumption)) (show ¬gc=gp by assumption)) (show ¬gc=ga by assumption)) (show ¬gc=gb by assumption)) (show bl gc=none by assumption)
       refine Dq 14 true ?_
       simp[F]
       refine Dq 15 true ?_
       simp[F]
       refine Dq 16 true ?_
       simp[F]
       refine Dq 17 true ?_
       simp[F]
       refine Dd ?_
       rw[aH]
       exact leaf _ _ ga gb gc hga hgb hgc (by simp[F]) rfl (by simp[S]) (by intro x y hx;simp only[B,aA] at hx ⊢;grind)
      ·simp[F]
       refine Dw 11 15 true true ?_ ?_
       ·simp[F]
        refine⟨by omega,by unfold maxLen;omega,?_⟩
        intro gc hgc
        intros
        have F:=an (ad (ad (ad (ad F (show ¬gc=gr by assumption)) (show ¬gc=gp by assumption)) (show ¬gc=ga by assumption)) (show ¬gc=gb by assumption)) (show bl gc=none by assumption)
        refine Dq 15 true ?_
        simp[F]
        refine Dq 16 true ?_
        simp[F]
        refine Dq 17 true ?_
        simp[F]
        refine Dd ?_
        rw[aH]
        exact leaf _ _ ga gb gc hga hgb hgc (by simp[F]) rfl (by simp[S]) (by intro x y hx;simp only[B,aA] at hx ⊢;grind)
       ·simp[F]
        refine Dq 11 true ?_
        simp[F]
        refine⟨by omega,by unfold maxLen;omega,?_⟩
        intro gc hgc
        intros
        have F:=an (ad (ad (ad (ad F (show ¬gc=gr by assumption)) (show ¬gc=gp by assumption)) (show ¬gc=ga by assumption)) (show ¬gc=gb by assumption)) (show bl gc=none by assumption)
        refine Dq 16 true ?_
        simp[F]
        refine Dq 17 true ?_
        simp[F]
        refine Dd ?_
        rw[aH]
        exact leaf _ _ ga gb gc hga hgb hgc (by simp[F]) rfl (by simp[S]) (by intro x y hx;simp only[B,aA] at hx ⊢;grind)
    ·simp[F]
     refine⟨by omega,by unfold maxLen;omega,?_⟩
     intro gc hgc
     intros
     have F:=an (ad (ad (ad F (show ¬gc=gr by assumption)) (show ¬gc=gp by assumption)) (show ¬gc=ga by assumption)) (show bl gc=none by assumption)
     refine Dw 8 13 true true ?_ ?_
     ·simp[F]
      refine⟨by omega,by unfold maxLen;omega,?_⟩
      intro gb hgb
      intros
      have F:=an (ad (ad (ad (ad F (show ¬gb=gr by assumption)) (show ¬gb=gp by assumption)) (show ¬gb=ga by assumption)) (show ¬gb=gc by assumption)) (show bl gb=none by assumption)
      refine Dq 13 true ?_
      simp[F]
      refine Dq 14 true ?_
      simp[F]
      refine Dq 15 true ?_
      simp[F]
      refine Dq 16 true ?_
      simp[F]
      refine Dq 17 true ?_
      simp[F]
      refine Dd ?_
      rw[aH]
      exact leaf _ _ ga gb gc hga hgb hgc (by simp[F]) rfl (by simp[S]) (by intro x y hx;simp only[B,aA] at hx ⊢;grind)
     ·simp[F]
      refine Dq 8 true ?_
      simp[F]
      refine⟨by omega,by unfold maxLen;omega,?_⟩
      intro gb hgb
      intros
      have F:=an (ad (ad (ad (ad F (show ¬gb=gr by assumption)) (show ¬gb=gp by assumption)) (show ¬gb=ga by assumption)) (show ¬gb=gc by assumption)) (show bl gb=none by assumption)
      refine Dq 14 true ?_
      simp[F]
      refine Dq 15 true ?_
      simp[F]
      refine Dq 16 true ?_
      simp[F]
      refine Dq 17 true ?_
      simp[F]
      refine Dd ?_
      rw[aH]
      exact leaf _ _ ga gb gc hga hgb hgc (by simp[F]) rfl (by simp[S]) (by intro x y hx;simp only[B,aA] at hx ⊢;grind)
    ·simp[F]
     refine Dw 8 11 true true ?_ ?_
     ·simp[F]
      refine⟨by omega,by unfold maxLen;omega,?_⟩
      intro gb hgb
      intros
      have F:=an (ad (ad (ad F (show ¬gb=gr by assumption)) (show ¬gb=gp by assumption)) (show ¬gb=ga by assumption)) (show bl gb=none by assumption)
      refine Dw 11 14 true true ?_ ?_
      ·simp[F]
       refine⟨by omega,by unfold maxLen;omega,?_⟩
       intro gc hgc
       intros
       have F:=an (ad (ad (ad (ad F (show ¬gc=gr by assumption)) (show ¬gc=gp by assumption)) (show ¬gc=ga by assumption)) (show ¬gc=gb by assumption)) (show bl gc=none by assumption)
       refine Dq 14 true ?_
       simp[F]
       refine Dq 15 true ?_
       simp[F]
       refine Dq 16 true ?_
       simp[F]
       refine Dq 17 true ?_
       simp[F]
       refine Dd ?_
       rw[aH]
       exact leaf _ _ ga gb gc hga hgb hgc (by simp[F]) rfl (by simp[S]) (by intro x y hx;simp only[B,aA] at hx ⊢;grind)
      ·simp[F]
       refine Dw 11 15 true true ?_ ?_
       ·simp[F]
        refine⟨by omega,by unfold maxLen;omega,?_⟩
        intro gc hgc
        intros
        have F:=an (ad (ad (ad (ad F (show ¬gc=gr by assumption)) (show ¬gc=gp by assumption)) (show ¬gc=ga by assumption)) (show ¬gc=gb by assumption)) (show bl gc=none by assumption)
        refine Dq 15 true ?_
        simp[F]
        refine Dq 16 true ?_
        simp[F]
        refine Dq 17 true ?_
        simp[F]
        refine Dd ?_
        rw[aH]
        exact leaf _ _ ga gb gc hga hgb hgc (by simp[F]) rfl (by simp[S]) (by intro x y hx;simp only[B,aA] at hx ⊢;grind)
       ·simp[F]
        refine Dq 11 true ?_
        simp[F]
        refine⟨by omega,by unfold maxLen;omega,?_⟩
        intro gc hgc
        intros
        have F:=an (ad (ad (ad (ad F (show ¬gc=gr by assumption)) (show ¬gc=gp by assumption)) (show ¬gc=ga by assumption)) (show ¬gc=gb by assumption)) (show bl gc=none by assumption)
        refine Dq 16 true ?_
        simp[F]
        refine Dq 17 true ?_
        simp[F]
        refine Dd ?_
        rw[aH]
        exact leaf _ _ ga gb gc hga hgb hgc (by simp[F]) rfl (by simp[S]) (by intro x y hx;simp only[B,aA] at hx ⊢;grind)
     ·simp[F]
      refine⟨by omega,by unfold maxLen;omega,?_⟩
      intro gc hgc
      intros
      have F:=an (ad (ad (ad F (show ¬gc=gr by assumption)) (show ¬gc=gp by assumption)) (show ¬gc=ga by assumption)) (show bl gc=none by assumption)
      refine Dq 8 true ?_
      simp[F]
      refine⟨by omega,by unfold maxLen;omega,?_⟩
      intro gb hgb
      intros
      have F:=an (ad (ad (ad (ad F (show ¬gb=gr by assumption)) (show ¬gb=gp by assumption)) (show ¬gb=ga by assumption)) (show ¬gb=gc by assumption)) (show bl gb=none by assumption)
      refine Dq 14 true ?_
      simp[F]
      refine Dq 15 true ?_
      simp[F]
      refine Dq 16 true ?_
      simp[F]
      refine Dq 17 true ?_
      simp[F]
      refine Dd ?_
      rw[aH]
      exact leaf _ _ ga gb gc hga hgb hgc (by simp[F]) rfl (by simp[S]) (by intro x y hx;simp only[B,aA] at hx ⊢;grind)
  ·simp[F]
   refine⟨by omega,by unfold maxLen;omega,?_⟩
   intro gb hgb
   intros
   have F:=an (ad (ad F (show ¬gb=gr by assumption)) (show ¬gb=gp by assumption)) (show bl gb=none by assumption)
   refine⟨by simp[F],?_⟩
   refine Dw 5 11 false false ?_ ?_
   ·simp[F]
    refine⟨by omega,by unfold maxLen;omega,?_⟩
    intro ga hga
    intros
    have F:=an (ad (ad (ad F (show ¬ga=gr by assumption)) (show ¬ga=gp by assumption)) (show ¬ga=gb by assumption)) (show bl ga=none by assumption)
    refine⟨by simp[F],?_⟩
    refine Dw 11 12 false true ?_ ?_
    ·simp[F]
     refine⟨by omega,by unfold maxLen;omega,?_⟩
     intro gc hgc
     intros
     have F:=an (ad (ad (ad (ad F (show ¬gc=gr by assumption)) (show ¬gc=gp by assumption)) (show ¬gc=gb by assumption)) (show ¬gc=ga by assumption)) (show bl gc=none by assumption)
     refine⟨by simp[F],?_⟩
     refine Dq 12 true ?_
     simp[F]
     refine Dq 13 true ?_
     simp[F]
     refine Dq 14 true ?_
     simp[F]
     refine Dq 15 true ?_
     simp[F]
     refine Dq 16 true ?_
     simp[F]
     refine Dq 17 true ?_
     simp[F]
     refine Dd ?_
     rw[aH]
     exact leaf _ _ ga gb gc hga hgb hgc (by simp[F]) rfl (by simp[S]) (by intro x y hx;simp only[B,aA] at hx ⊢;grind)
    ·simp[F]
     refine Dw 11 13 true true ?_ ?_
     ·simp[F]
      refine⟨by omega,by unfold maxLen;omega,?_⟩
      intro gc hgc
      intros
      have F:=an (ad (ad (ad (ad F (show ¬gc=gr by assumption)) (show ¬gc=gp by assumption)) (show ¬gc=gb by assumption)) (show ¬gc=ga by assumption)) (show bl gc=none by assumption)
      refine Dq 13 true ?_
      simp[F]
      refine Dq 14 true ?_
      simp[F]
      refine Dq 15 true ?_
      simp[F]
      refine Dq 16 true ?_
      simp[F]
      refine Dq 17 true ?_
      simp[F]
      refine Dd ?_
      rw[aH]
      exact leaf _ _ ga gb gc hga hgb hgc (by simp[F]) rfl (by simp[S]) (by intro x y hx;simp only[B,aA] at hx ⊢;grind)
     ·simp[F]
      refine Dw 11 14 true true ?_ ?_
      ·simp[F]
       refine⟨by omega,by unfold maxLen;omega,?_⟩
       intro gc hgc
       intros
       have F:=an (ad (ad (ad (ad F (show ¬gc=gr by assumption)) (show ¬gc=gp by assumption)) (show ¬gc=gb by assumption)) (show ¬gc=ga by assumption)) (show bl gc=none by assumption)
       refine Dq 14 true ?_
       simp[F]
       refine Dq 15 true ?_
       simp[F]
       refine Dq 16 true ?_
       simp[F]
       refine Dq 17 true ?_
       simp[F]
       refine Dd ?_
       rw[aH]
       exact leaf _ _ ga gb gc hga hgb hgc (by simp[F]) rfl (by simp[S]) (by intro x y hx;simp only[B,aA] at hx ⊢;grind)
      ·simp[F]
       refine Dw 11 15 true true ?_ ?_
       ·simp[F]
        refine⟨by omega,by unfold maxLen;omega,?_⟩
        intro gc hgc
        intros
        have F:=an (ad (ad (ad (ad F (show ¬gc=gr by assumption)) (show ¬gc=gp by assumption)) (show ¬gc=gb by assumption)) (show ¬gc=ga by assumption)) (show bl gc=none by assumption)
        refine Dq 15 true ?_
        simp[F]
        refine Dq 16 true ?_
        simp[F]
        refine Dq 17 true ?_
        simp[F]
        refine Dd ?_
        rw[aH]
        exact leaf _ _ ga gb gc hga hgb hgc (by simp[F]) rfl (by simp[S]) (by intro x y hx;simp only[B,aA] at hx ⊢;grind)
       ·simp[F]
        refine Dq 11 true ?_
        simp[F]
        refine⟨by omega,by unfold maxLen;omega,?_⟩
        intro gc hgc
        intros
        have F:=an (ad (ad (ad (ad F (show ¬gc=gr by assumption)) (show ¬gc=gp by assumption)) (show ¬gc=gb by assumption)) (show ¬gc=ga by assumption)) (show bl gc=none by assumption)
        refine Dq 16 true ?_
        simp[F]
        refine Dq 17 true ?_
        simp[F]
        refine Dd ?_
        rw[aH]
        exact leaf _ _ ga gb gc hga hgb hgc (by simp[F]) rfl (by simp[S]) (by intro x y hx;simp only[B,aA] at hx ⊢;grind)
   ·simp[F]
    refine⟨by omega,by unfold maxLen;omega,?_⟩
    intro gc hgc
    intros
    have F:=an (ad (ad (ad F (show ¬gc=gr by assumption)) (show ¬gc=gp by assumption)) (show ¬gc=gb by assumption)) (show bl gc=none by assumption)
    refine⟨by simp[F],?_⟩
    refine Dq 5 false ?_
    simp[F]
    refine⟨by omega,by unfold maxLen;omega,?_⟩
    intro ga hga
    intros
    have F:=an (ad (ad (ad (ad F (show ¬ga=gr by assumption)) (show ¬ga=gp by assumption)) (show ¬ga=gb by assumption)) (show ¬ga=gc by assumption)) (show bl ga=none by assumption)
    refine⟨by simp[F],?_⟩
    refine Dq 12 true ?_
    simp[F]
    refine Dq 13 true ?_
    simp[F]
    refine Dq 14 true ?_
    simp[F]
    refine Dq 15 true ?_
    simp[F]
    refine Dq 16 true ?_
    simp[F]
    refine Dq 17 true ?_
    simp[F]
    refine Dd ?_
    rw[aH]
    exact leaf _ _ ga gb gc hga hgb hgc (by simp[F]) rfl (by simp[S]) (by intro x y hx;simp only[B,aA] at hx ⊢;grind)
  ·simp[F]
   refine⟨by omega,by unfold maxLen;omega,?_⟩
   intro gc hgc
   intros
   have F:=an (ad (ad F (show ¬gc=gr by assumption)) (show ¬gc=gp by assumption)) (show bl gc=none by assumption)
   refine⟨by simp[F],?_⟩
   refine Dw 5 8 false false ?_ ?_
   ·simp[F]
    refine⟨by omega,by unfold maxLen;omega,?_⟩
    intro ga hga
    intros
    have F:=an (ad (ad (ad F (show ¬ga=gr by assumption)) (show ¬ga=gp by assumption)) (show ¬ga=gc by assumption)) (show bl ga=none by assumption)
    refine⟨by simp[F],?_⟩
    refine Dw 8 12 false true ?_ ?_
    ·simp[F]
     refine⟨by omega,by unfold maxLen;omega,?_⟩
     intro gb hgb
     intros
     have F:=an (ad (ad (ad (ad F (show ¬gb=gr by assumption)) (show ¬gb=gp by assumption)) (show ¬gb=gc by assumption)) (show ¬gb=ga by assumption)) (show bl gb=none by assumption)
     refine⟨by simp[F],?_⟩
     refine Dq 12 true ?_
     simp[F]
     refine Dq 13 true ?_
     simp[F]
     refine Dq 14 true ?_
     simp[F]
     refine Dq 15 true ?_
     simp[F]
     refine Dq 16 true ?_
     simp[F]
     refine Dq 17 true ?_
     simp[F]
     refine Dd ?_
     rw[aH]
     exact leaf _ _ ga gb gc hga hgb hgc (by simp[F]) rfl (by simp[S]) (by intro x y hx;simp only[B,aA] at hx ⊢;grind)
    ·simp[F]
     refine Dw 8 13 true true ?_ ?_
     ·simp[F]
      refine⟨by omega,by unfold maxLen;omega,?_⟩
      intro gb hgb
      intros
      have F:=an (ad (ad (ad (ad F (show ¬gb=gr by assumption)) (show ¬gb=gp by assumption)) (show ¬gb=gc by assumption)) (show ¬gb=ga by assumption)) (show bl gb=none by assumption)
      refine Dq 13 true ?_
      simp[F]
      refine Dq 14 true ?_
      simp[F]
      refine Dq 15 true ?_
      simp[F]
      refine Dq 16 true ?_
      simp[F]
      refine Dq 17 true ?_
      simp[F]
      refine Dd ?_
      rw[aH]
      exact leaf _ _ ga gb gc hga hgb hgc (by simp[F]) rfl (by simp[S]) (by intro x y hx;simp only[B,aA] at hx ⊢;grind)
     ·simp[F]
      refine Dq 8 true ?_
      simp[F]
      refine⟨by omega,by unfold maxLen;omega,?_⟩
      intro gb hgb
      intros
      have F:=an (ad (ad (ad (ad F (show ¬gb=gr by assumption)) (show ¬gb=gp by assumption)) (show ¬gb=gc by assumption)) (show ¬gb=ga by assumption)) (show bl gb=none by assumption)
      refine Dq 14 true ?_
      simp[F]
      refine Dq 15 true ?_
      simp[F]
      refine Dq 16 true ?_
      simp[F]
      refine Dq 17 true ?_
      simp[F]
      refine Dd ?_
      rw[aH]
      exact leaf _ _ ga gb gc hga hgb hgc (by simp[F]) rfl (by simp[S]) (by intro x y hx;simp only[B,aA] at hx ⊢;grind)
   ·simp[F]
    refine⟨by omega,by unfold maxLen;omega,?_⟩
    intro gb hgb
    intros
    have F:=an (ad (ad (ad F (show ¬gb=gr by assumption)) (show ¬gb=gp by assumption)) (show ¬gb=gc by assumption)) (show bl gb=none by assumption)
    refine⟨by simp[F],?_⟩
    refine Dq 5 false ?_
    simp[F]
    refine⟨by omega,by unfold maxLen;omega,?_⟩
    intro ga hga
    intros
    have F:=an (ad (ad (ad (ad F (show ¬ga=gr by assumption)) (show ¬ga=gp by assumption)) (show ¬ga=gc by assumption)) (show ¬ga=gb by assumption)) (show bl ga=none by assumption)
    refine⟨by simp[F],?_⟩
    refine Dq 12 true ?_
    simp[F]
    refine Dq 13 true ?_
    simp[F]
    refine Dq 14 true ?_
    simp[F]
    refine Dq 15 true ?_
    simp[F]
    refine Dq 16 true ?_
    simp[F]
    refine Dq 17 true ?_
    simp[F]
    refine Dd ?_
    rw[aH]
    exact leaf _ _ ga gb gc hga hgb hgc (by simp[F]) rfl (by simp[S]) (by intro x y hx;simp only[B,aA] at hx ⊢;grind)
 rintro⟨ga,gb,gc⟩ ⟨a0,b0,c0,ba,ca,cb,ar,ap,br,bp,cr,cp,fa,fb,fc⟩
 simp only at a0 b0 c0 ba ca cb ar ap br bp cr cp fa fb fc
 simp only[S,B]
 clear leaf S B
 obtain⟨BB,hBB⟩: ∃BB:List (List V)→List (List V)→Int→Option Blk,BB=fun ea eb=>upd (upd (upd (upd (upd bl gr (some ⟨5,[[.int .i64 0,.int .i64 0,.nils,.nils,.nils]]⟩)) gp (some ⟨5,[[.int .i64 (nR s),.int .i64 (nC s),.lsl ga 1 0 nA,.lsl gb 1 0 (nR s),.lsl gc 1 0 (nC s)]]⟩)) ga (some ⟨1,ea⟩)) gb (some ⟨1,eb⟩)) gc (some ⟨1,List.replicate (nC s) [.int .i64 0]⟩):=⟨_,rfl⟩
 have hBr: ∀ea eb,BB ea eb gr=some ⟨5,[[.int .i64 0,.int .i64 0,.nils,.nils,.nils]]⟩:=fun ea eb=>by rw[hBB];simp[hpr,Ne.symm hpr,ar,br,cr,Ne.symm ar,Ne.symm br,Ne.symm cr]
 have hBp: ∀ea eb,BB ea eb gp=some ⟨5,[[.int .i64 (nR s),.int .i64 (nC s),.lsl ga 1 0 nA,.lsl gb 1 0 (nR s),.lsl gc 1 0 (nC s)]]⟩:=fun ea eb=>by rw[hBB];simp[ap,bp,cp,Ne.symm ap,Ne.symm bp,Ne.symm cp]
 have hBa: ∀ea eb,BB ea eb ga=some ⟨1,ea⟩:=fun ea eb=>by rw[hBB];simp[ba,ca,Ne.symm ba,Ne.symm ca]
 have hBb: ∀ea eb,BB ea eb gb=some ⟨1,eb⟩:=fun ea eb=>by rw[hBB];simp[cb,Ne.symm cb]
 have hBc: ∀ea eb,BB ea eb gc=some ⟨1,List.replicate (nC s) [.int .i64 0]⟩:=fun ea eb=>by rw[hBB];simp
 have hBs: ∀ea eb,Sub bl (BB ea eb):=fun ea eb=>by rw[hBB];simp[hbr,hbp,fa,fb,fc]
 have aN3: ∀ea eb e,upd (BB ea eb) ga (some ⟨1,e⟩)=BB e eb:=fun ea eb e=>by
  rw[hBB];funext x;simp only[aA];grind
 have aJL: ∀ea eb e,upd (BB ea eb) gb (some ⟨1,e⟩)=BB ea e:=fun ea eb e=>by
  rw[hBB];funext x;simp only[aA];grind
 have hB0:upd (upd (upd (upd (upd bl gr (some ⟨5,[[.int .i64 0,.int .i64 0,.nils,.nils,.nils]]⟩)) gp (some ⟨5,[[.int .i64 (nR s),.int .i64 (nC s),.lsl ga 1 0 nA,.lsl gb 1 0 (nR s),.lsl gc 1 0 (nC s)]]⟩)) ga (some ⟨1,List.replicate nA [.int .i64 0]⟩)) gb (some ⟨1,List.replicate (nR s) [.int .i64 0]⟩)) gc (some ⟨1,List.replicate (nC s) [.int .i64 0]⟩)=BB (part (iv (aTo s nA)) [.int .i64 0] 0) (part (iv (right s l)) [.int .i64 0] 0):=by
  rw[hBB];simp[eJ]
 rw[hB0]
 clear hB0 hBB
 refine aC ?_
 simp[er]
 refine aI (fun i:Nat=> [(0,.ptr s.c),(1,.sl (iv l)),(8,.loc gr 5 0 0),(10,.sl (cv (aP s.ms))),(11,.loc gp 5 0 0),(46,.sl (ivv (dF s))),(47,.int .i64 (nR s)),(48,.int .i64 i)]) (fun i=>BB (part (iv (aTo s nA)) [.int .i64 0] (i*nC s)) (part (iv (right s l)) [.int .i64 0] 0)) (fun i=>i≤nR s) (fun i=>nR s - i) 113 0 (Nat.zero_le _) ⟨rfl,by simp,sub_eq (by simp)⟩ ?_
 intro i hi
 refine aC ?_
 simp
 refine⟨fun h=> ?_,fun h=> ?_⟩
 ·have hie:i<(dF s).length:=by omega
  simp[hie]
  obtain⟨row,Lv⟩: ∃r,(dF s)[i]=r:=⟨_,rfl⟩
  have aYO:row.length=s.ms.length:=mK s row (Lv▸List.getElem_mem hie)
  rw[Lv]
  refine aI (fun c:Nat=> [(0,.ptr s.c),(1,.sl (iv l)),(8,.loc gr 5 0 0),(10,.sl (cv (aP s.ms))),(11,.loc gp 5 0 0),(12,.int .i64 i),(13,.sl (iv row)),(46,.sl (ivv (dF s))),(47,.int .i64 (nR s)),(48,.int .i64 i),(53,.sl (cv (aP s.ms))),(54,.int .i64 (nC s)),(55,.int .i64 c)]) (fun c=>BB (part (iv (aTo s nA)) [.int .i64 0] (i*nC s+c)) (part (iv (right s l)) [.int .i64 0] 0)) (fun c=>c≤nC s) (fun c=>nC s - c) 113 0 (Nat.zero_le _) ⟨rfl,by simp[ec],sub_eq (by simp)⟩ ?_
  intro c hc
  refine aC ?_
  simp
  refine⟨fun hcl=> ?_,fun hcl=> ?_⟩
  ·have hcc:c<(aP s.ms).length:=hcl
   obtain⟨⟨k0,k1⟩,k2⟩:=rL s c hcl
   have qc:(cv (aP s.ms))[c]? =some [.int .i64 (fL s c).1,.int .i64 (fL s c).2]:=by simp[cv,fL,hcc]
   simp[qc]
   intro g1 hg1 hb1
   have n1p:g1≠gp:=fun e=>by rw[e,hBp] at hb1;cases hb1
   have n1a:g1≠ga:=fun e=>by rw[e,hBa] at hb1;cases hb1
   have f1:=aR (hBs _ _) hb1
   obtain⟨⟨k,sg⟩,hk⟩: ∃k,fL s c=k:=⟨_,rfl⟩
   rw[hk] at k0 k1 k2 ⊢
   simp only at k0 k1 k2 ⊢
   have en:ent s i c=sg*lat row k.toNat:=by
    unfold ent
    rw[hk,tR,A3 _ (mK s) i k.toNat hie (by omega),Lv]
   have bd: -100≤lat row k.toNat∧lat row k.toNat≤100:=by
    rw[←Lv,←A3 _ (mK s) i k.toNat hie (by omega),←tR];exact vU hs _
   have qr:(iv row)[k.toNat]? =some [.int .i64 (lat row k.toNat)]:=yQ (by omega)
   have w6:IntKind.i64.wrap (sg*lat row k.toNat)=ent s i c:=by
    rw[en];rcases k2 with rfl | rfl<;>exact i64_in (by omega) (by omega)
   have mc:(i+1)*nC s≤nA:=by rw[hA];exact Nat.mul_le_mul_right _ h
   rw[Nat.add_mul] at mc
   have mi:((i*nC s:Nat):Int)=(i:Int)*nC s:=by simp
   have w4:IntKind.i64.wrap ((i:Int)*nC s)=(i:Int)*nC s:=i64_in (by omega) (by omega)
   have w5:IntKind.i64.wrap ((i:Int)*nC s+c)=(i:Int)*nC s+c:=i64_in (by omega) (by omega)
   have w7:IntKind.i64.wrap ((c:Int)+1)=c+1:=i64_in (by omega) (by omega)
   have e1:((i:Int)*nC s+c).toNat=i*nC s+c:=by omega
   have p1:0≤(i:Int)*nC s+c:=by omega
   have p2:(i:Int)*nC s+c<nA:=by omega
   have p3:k<row.length:=by omega
   have hlt:i*nC s+c<(iv (aTo s nA)).length:=by simp;omega
   have ps:=cX (iv (aTo s nA)) [.int .i64 0] (i*nC s+c) hlt [.int .i64 (ent s i c)] (by
    rw[aEB s nA _ (by omega),Nat.mul_comm i,Nat.mul_add_div (by omega),Nat.mul_add_mod,Nat.div_eq_of_lt hcl,Nat.mod_eq_of_lt hcl,Nat.add_zero])
   have hK:Sub (upd (upd bl gp (some ⟨5,[[.int .i64 (nR s),.int .i64 (nC s),.lsl ga 1 0 nA,.lsl gb 1 0 (nR s),.lsl gc 1 0 (nC s)]]⟩)) g1 (some ⟨2,[[.int .i64 k,.int .i64 sg]]⟩)) (upd (BB (part (iv (aTo s nA)) [.int .i64 0] (i*nC s+c)) (List.replicate (right s l).length [.int .i64 0])) g1 (some ⟨2,[[.int .i64 k,.int .i64 sg]]⟩)):=by
    refine Ac fun x y hx=> ?_
    rw[aA] at hx
    split at hx
    ·rename_i e;rw[e,hBp];exact hx
    ·exact hBs _ _ x y hx
   have hkr:k.toNat<row.length:=by omega
   have er2:row[k.toNat]'hkr=lat row k.toNat:=by simp[lat,hkr]
   refine aY aL _ hK [0,1,2,3,4,5,6,7,8,9,10,11,12,13,14,15,16] 1 (by kernel_rfl) ?_
   simp[-eC,n1p,Ne.symm n1p,w4,w5,w6,qr,k0,p1,p2,p3,er2]
   refine Dz 17 ?_
   have pg:=fE (iv (aTo s nA)) [.int .i64 0] (i*nC s+c) hlt
   simp[n1a,Ne.symm n1a,hBa,e1,pg,ps,er2,w6]
   have hK2: ∀z,Sub (upd (upd bl gp (some ⟨5,[[.int .i64 (nR s),.int .i64 (nC s),.lsl ga 1 0 nA,.lsl gb 1 0 (nR s),.lsl gc 1 0 (nC s)]]⟩)) g1 (some ⟨2,[[.int .i64 k,.int .i64 sg]]⟩)) (upd (upd (BB (part (iv (aTo s nA)) [.int .i64 0] (i*nC s+c)) (List.replicate (right s l).length [.int .i64 0])) g1 (some ⟨2,[[.int .i64 k,.int .i64 sg]]⟩)) ga z):=by
    intro z x y hx
    have hxa:x≠ga:=fun e=>by
     rw[e,aA,if_neg (Ne.symm n1a),aA,if_neg ap,fa] at hx;cases hx
    rw[aA,if_neg hxa]
    exact hK x y hx
   refine⟨hK2 _,Dy ?_⟩
   simp[w7,aB]
   refine⟨c+1,by omega,by omega,rfl,by simp,?_⟩
   intro x y hx
   show upd (upd (BB _ _) g1 _) ga _ x=some y
   rw[aA,aA]
   split
   ·rename_i e;rw[e,hBa] at hx;exact hx
   ·rename_i e
    rw[if_neg (fun e=>by rw[e] at hx;rw[←aN3 (part (iv (aTo s nA)) [.int .i64 0] (i*nC s+c)),aA,if_neg n1a,hb1] at hx;cases hx)]
    rw[←aN3 (part (iv (aTo s nA)) [.int .i64 0] (i*nC s+c)),aA,if_neg e] at hx
    exact hx
  ·have:c=nC s:=by omega
   subst this
   have w7:IntKind.i64.wrap ((i:Int)+1)=i+1:=i64_in (by omega) (by omega)
   simp[w7,aB]
   exact⟨i+1,by omega,by omega,rfl,by simp,sub_eq (by rw[Nat.add_mul,Nat.one_mul])⟩
 ·have:i=nR s:=by omega
  subst this
  rw[←hA,gH _ _ _ (by simp)]
  refine aD (sX s (by omega)) ?_
  simp
  refine aI (fun i:Nat=> [(1,.sl (iv l)),(8,.loc gr 5 0 0),(11,.loc gp 5 0 0),(80,.sl (iv (aQ s.js))),(81,.int .i64 (aQ s.js).length),(82,.int .i64 i)]) (fun i=>BB (iv (aTo s nA)) (part (iv (right s l)) [.int .i64 0] (2*i))) (fun i=>i≤(aQ s.js).length) (fun i=>(aQ s.js).length - i) 113 0 (Nat.zero_le _) ⟨rfl,by simp,sub_eq (by simp)⟩ ?_
  intro i hi
  refine aC ?_
  simp
  refine⟨fun h=> ?_,fun h=> ?_⟩
  ·obtain⟨r1,r2⟩:=xS (List.getElem_mem h)
   have ra:=Aa s l (aQ s.js) i h
   simp[h]
   obtain⟨j,hj⟩: ∃j,(aQ s.js)[i]=j:=⟨_,rfl⟩
   rw[hj] at r1 r2 ra ⊢
   change lat (right s l) (2*i)=_∧lat (right s l) (2*i+1)=_ at ra
   have a1:(2*j).toNat<l.length:=by rw[hL.n];omega
   have a2:(2*j+1).toNat<l.length:=by rw[hL.n];omega
   have b1:=hL.f _ a1
   have b2:=hL.f _ a2
   have q1:=yQ a1
   have q2:=yQ a2
   have w1:IntKind.i64.wrap (2*j)=2*j:=i64_in (by omega) (by omega)
   have w2:IntKind.i64.wrap (2*j+1)=2*j+1:=i64_in (by omega) (by omega)
   have w3:IntKind.i64.wrap (-lat l (2*j).toNat)=lat (right s l) (2*i):=by rw[ra.1];exact i64_in (by omega) (by omega)
   have w4:IntKind.i64.wrap (-lat l (2*j+1).toNat)=lat (right s l) (2*i+1):=by rw[ra.2];exact i64_in (by omega) (by omega)
   have w5:IntKind.i64.wrap ((i:Int)+1)=i+1:=i64_in (by omega) (by omega)
   have w6:IntKind.i64.wrap (2*(i:Int))=2*i:=i64_in (by omega) (by omega)
   have w7:IntKind.i64.wrap (2*(i:Int)+1)=2*i+1:=i64_in (by omega) (by omega)
   have p1:0≤2*j:=by omega
   have p2:0≤2*j+1:=by omega
   have p3:2*(i:Int)<nR s:=by unfold nR;omega
   have p4:2*(i:Int)+1<nR s:=by unfold nR;omega
   have t1:(2*(i:Int)).toNat=2*i:=by omega
   have t2:(2*(i:Int)+1).toNat=2*i+1:=by omega
   have hl1:2*i<(iv (right s l)).length:=by rw[kK,eJ];omega
   have hl2:2*i+1<(iv (right s l)).length:=by rw[kK,eJ];omega
   have hK:Sub (upd bl gp (some ⟨5,[[.int .i64 (nR s),.int .i64 (nC s),.lsl ga 1 0 nA,.lsl gb 1 0 (nR s),.lsl gc 1 0 (nC s)]]⟩)) (BB (iv (aTo s nA)) (part (iv (right s l)) [.int .i64 0] (2*i))):=by
    intro x y hx
    rw[aA] at hx
    split at hx
    ·rename_i e;rw[e,hBp];exact hx
    ·exact hBs _ _ x y hx
   have hK2: ∀e,Sub (upd bl gp (some ⟨5,[[.int .i64 (nR s),.int .i64 (nC s),.lsl ga 1 0 nA,.lsl gb 1 0 (nR s),.lsl gc 1 0 (nC s)]]⟩)) (BB (iv (aTo s nA)) e):=by
    intro e x y hx
    rw[aA] at hx
    split at hx
    ·rename_i e;rw[e,hBp];exact hx
    ·exact hBs _ _ x y hx
   have g1:=fE (iv (right s l)) [.int .i64 0] (2*i) hl1
   have g2:=fE (iv (right s l)) [.int .i64 0] (2*i+1) hl2
   have s1:=cX (iv (right s l)) [.int .i64 0] (2*i) hl1 [.int .i64 (lat (right s l) (2*i))] (by
    have:=yQ (l:=right s l) (i:=2*i) (by simpa using hl1);rw[List.getElem?_eq_getElem hl1] at this;exact(Option.some.inj this).symm)
   have s2:=cX (iv (right s l)) [.int .i64 0] (2*i+1) hl2 [.int .i64 (lat (right s l) (2*i+1))] (by
    have:=yQ (l:=right s l) (i:=2*i+1) (by simpa using hl2);rw[List.getElem?_eq_getElem hl2] at this;exact(Option.some.inj this).symm)
   refine aY aL _ hK [0,1,2,3,4,5,6,7,8,9,10,11,12,13,14,15,16,17,18,19,20,21,22] 3 (by kernel_rfl) ?_
   have p5:0≤2*(i:Int):=by omega
   have p6:0≤2*(i:Int)+1:=by omega
   simp[-eC,w1,w2,w3,w4,w6,w7,q1,q2,p1,p2,p3,p4,p5,p6]
   refine vL (i:=23) (by kernel_rfl) (by rfl) (by rfl) ?_
   simp[hBb,t1,g1,s1,aJL]
   refine⟨hK2 _,vL (i:=24) (by kernel_rfl) (by rfl) (by rfl) ?_⟩
   simp[p4,p6]
   refine⟨hK2 _,vL (i:=25) (by kernel_rfl) (by rfl) (by rfl) ?_⟩
   simp[hBb,t2,g2,s2,aJL]
   refine⟨hK2 _,Dy ?_⟩
   simp[w5,aB]
   exact⟨i+1,by omega,by omega,rfl,by simp,sub_eq (by rw[Nat.mul_add])⟩
  ·have:i=(aQ s.js).length:=by omega
   subst this
   have bH:part (iv (right s l)) [.int .i64 0] (2*(aQ s.js).length)=iv (right s l):=by
    have e:(iv (right s l)).length=2*(aQ s.js).length:=by rw[kK,eJ];rfl
    rw[←e];exact gH _ _ _ (Nat.le_refl _)
   rw[bH]
   simp[hBp,hBr]
   refine dI [.agg [.int .i64 (nR s),.int .i64 (nC s),.lsl ga 1 0 nA,.lsl gb 1 0 (nR s),.lsl gc 1 0 (nC s)]] [ga,gb,gc] (by simp) ?_ (by simp[fa,fb,fc]) ?_
   ·show OwnD _ (.a _) (.agg _) _
    rw[OwnD]
    refine⟨_,rfl,jB (zU _) (jB (zU _) (jB (g1:= [ga]) (dP.2 (.inr ⟨ga,by simp[dA,hA],rfl,?_,by omega⟩)) (jB (g1:= [gb]) (dP.2 (.inr ⟨gb,by simp[dA,eJ],rfl,?_,by omega⟩)) (jB (g1:= [gc]) (dP.2 (.inr ⟨gc,by simp[dA],rfl,?_,by omega⟩)) Vx (by simp)) (by simp[Ne.symm cb])) (by simp[Ne.symm ba,Ne.symm ca])) (by simp)) (by simp)⟩
    ·simp[ar,hBa,dA,hA]
    ·simp[br,hBb,dA]
    ·simp[cr,hBc,dA,iv]
   ·intro x y hx
    have hxr:x≠gr:=fun e=>by rw[e,hbr] at hx;cases hx
    simp[hxr]
    exact hBs _ _ x y hx

theorem tP {bl:Int→Option Blk} {p:Pg} {v:V} {gs:List Int} :OwnD bl (dPg p) v gs ↔ ∃va vb vc ga gb gc,v= .agg [.int .i64 p.rows,.int .i64 p.aP,va,vb,vc]∧gs=ga++(gb++gc)∧(∀g,g∈ga→g∉gb++gc)∧(∀g,g∈gb→g∉gc)∧
  OwnD bl (fl 1 (iv p.a)) va ga∧OwnD bl (fl 1 (iv p.b)) vb gb∧OwnD bl (fl 1 (iv p.c)) vc gc:=by
 unfold dPg
 rw[OwnD]
 constructor
 ·rintro⟨vs,rfl,h⟩
  rw[OwnL] at h
  obtain⟨v1,vs1,g1,r1,rfl,rfl,_,h1,h⟩:=h
  rw[OwnD] at h1
  obtain⟨rfl,_,rfl⟩:=h1
  rw[OwnL] at h
  obtain⟨v2,vs2,g2,r2,rfl,rfl,_,h2,h⟩:=h
  rw[OwnD] at h2
  obtain⟨rfl,_,rfl⟩:=h2
  rw[OwnL] at h
  obtain⟨va,vs3,ga,r3,rfl,rfl,ha,h3,h⟩:=h
  obtain⟨vb,vc,gb,gc,rfl,rfl,hd,h4,h5⟩:=iF.1 h
  exact⟨va,vb,vc,ga,gb,gc,rfl,rfl,ha,hd,h3,h4,h5⟩
 ·rintro⟨va,vb,vc,ga,gb,gc,rfl,rfl,ha,hb,h1,h2,h3⟩
  refine⟨_,rfl,?_⟩
  show OwnL bl [_,_,_,_,_] [_,_,_,_,_] ([]++([]++(ga++(gb++gc))))
  exact jB (zU _) (jB (zU _) (jB h1 (iF.2 ⟨vb,vc,gb,gc,rfl,rfl,hb,h2,h3⟩) ha) (fun x hx=>by cases hx)) (fun x hx=>by cases hx)
def aUQ :Pg:=⟨0,0,[],[],[]⟩
def aYT (s:Str) (l:List Int):Pg:=if lOk s l=true then dA s l else aUQ
def aXX (p q:Pg):Bool:=decide (p.rows=q.rows)&& (decide (p.aP=q.aP)&& (decide (p.a=q.a)&& (decide (p.b=q.b)&& decide (p.c=q.c))))
def mkP (k:Nat) (p:Pg):Pg:=⟨p.rows,p.aP,marks k p.a.length,marks (k+p.a.length:Nat) p.b.length,marks (k+p.a.length+p.b.length:Nat) p.c.length⟩
def aX2 (k:Nat) (p:Pg):Nat:=k+p.a.length+p.b.length+p.c.length
end Go.Proofs.YticmgmemnpcbbaaGreat.Vm

namespace Go.Proofs.YticmgmemnpcbbaaGreat.Vm
set_option linter.unusedSimpArgs false
set_option linter.unusedVariables false
def LB :Nat:=1000000000
theorem iQ :0<LB:=by decide
def lim (n:Nat):List Int:=if h:n=0 then [] else((n % LB:Nat):Int)::lim (n / LB)
termination_by n
decreasing_by exact Nat.div_lt_self (Nat.pos_of_ne_zero h) (by decide)
def val :List Int→Nat
 | [] => 0
 | d :: ds => d.toNat + LB * val ds
def Dig (l:List Int):Prop:= ∀d,d∈l→0≤d∧d<1000000000
theorem aW :lim 0= []:=by rw[lim,dif_pos rfl]
theorem oV {n:Nat} (h:n≠0):lim n=((n % LB:Nat):Int)::lim (n / LB):=by rw[lim,dif_neg h]
@[simp] theorem fG (n : Nat) : val (lim n) = n := by
 induction n using Nat.strongRecOn with
 | _ n ih =>
   by_cases h:n=0
   ·subst h;rw[aW];rfl
   ·rw[oV h,val,ih _ (Nat.div_lt_self (Nat.pos_of_ne_zero h) (by decide)),Int.toNat_natCast,Nat.mod_add_div]
theorem gY (n:Nat):Dig (lim n):=by
 induction n using Nat.strongRecOn with
 | _ n ih =>
   by_cases h:n=0
   ·subst h;rw[aW];intro d hd;cases hd
   ·rw[oV h]
    intro d hd
    rcases List.mem_cons.1 hd with rfl | hd
    ·have:n % LB<1000000000:=Nat.mod_lt _ iQ
     omega
    ·exact ih _ (Nat.div_lt_self (Nat.pos_of_ne_zero h) (by decide)) d hd
theorem Jk {a b:Nat} (h:lim a=lim b):a=b:=by rw[←fG a,←fG b,h]
@[simp] theorem aCK {a b : Nat} : lim a = lim b ↔ a = b := ⟨Jk, fun h => by rw [h]⟩
theorem eV {n:Nat} :lim n= [] ↔ n=0:=by rw[←aW,aCK]
theorem Dig.tail {d:Int} {l:List Int} (h:Dig (d::l)):Dig l:=fun x hx=>h x (List.mem_cons_of_mem _ hx)
theorem Dig.append {a b:List Int} :Dig (a++b) ↔ Dig a∧Dig b:=by
 constructor
 ·intro h;exact⟨fun d hd=>h d (List.mem_append_left _ hd),fun d hd=>h d (List.mem_append_right _ hd)⟩
 ·rintro⟨h1,h2⟩ d hd
  rcases List.mem_append.1 hd with hd | hd
  ·exact h1 d hd
  ·exact h2 d hd
theorem jM (a b:List Int):val (a++b)=val a+LB^a.length*val b:=by
 induction a with
 | nil => simp [val]
 | cons d a ih => rw [List.cons_append, val, ih, val, List.length_cons, Nat.pow_succ, Nat.mul_add, Nat.add_assoc, Nat.mul_comm (LB ^ a.length) LB, Nat.mul_assoc]
theorem C4 {l:List Int} (h:Dig l):val l<LB^l.length:=by
 induction l with
 | nil => simp [val]
 | cons d l ih =>
   have h1:=h d List.mem_cons_self
   have h2:=ih h.tail
   rw[val,List.length_cons,Nat.pow_succ]
   have:LB*(val l+1)≤LB*LB^l.length:=Nat.mul_le_mul_left _ h2
   have h3:d.toNat<LB:=by unfold LB;omega
   rw[Nat.mul_comm (LB^l.length)]
   rw[Nat.mul_add] at this
   omega
theorem S9 {l:List Int} (h:Dig l) (hz: ∀d,l.getLast? =some d→d≠0):lim (val l)=l:=by
 induction l with
 | nil => exact aW
 | cons d l ih =>
   have h1:=h d List.mem_cons_self
   have hd:d.toNat<LB:=by unfold LB;omega
   have e1:(d.toNat+LB*val l) % LB=d.toNat:=by rw[Nat.add_mul_mod_self_left,Nat.mod_eq_of_lt hd]
   have e2:(d.toNat+LB*val l) / LB=val l:=by rw[Nat.add_mul_div_left _ _ iQ,Nat.div_eq_of_lt hd,Nat.zero_add]
   have hl:lim (val l)=l:=ih h.tail fun x hx=>hz x (by
    cases l with
    | nil => cases hx
    | cons y l => rw [List.getLast?_cons_cons]; exact hx)
   have hne:d.toNat+LB*val l≠0:=by
    intro h0
    have hv:val l=0:=by
     have:LB*val l=0:=by omega
     rcases Nat.mul_eq_zero.1 this with h | h
     ·exact absurd h (by decide)
     ·exact h
    rw[hv,aW] at hl
    subst hl
    have:d=0:=by omega
    exact hz d rfl this
   rw[val,oV hne,e1,e2,hl]
   congr 1
   omega
theorem Bj (n:Nat) (d:Int) (h:(lim n).getLast? =some d):d≠0:=by
 induction n using Nat.strongRecOn generalizing d with
 | _ n ih =>
   by_cases h0:n=0
   ·subst h0;rw[aW] at h;cases h
   ·rw[oV h0] at h
    have hlt:=Nat.div_lt_self (Nat.pos_of_ne_zero h0) (show 1<LB by decide)
    cases hq:lim (n / LB) with
    | nil =>
      rw[hq] at h
      simp at h
      subst h
      have hq0:=eV.1 hq
      have:=Nat.mod_add_div n LB
      rw[hq0] at this
      omega
    | cons y l =>
      rw[hq,List.getLast?_cons_cons,←hq] at h
      exact ih _ hlt d h
theorem aM {n k:Nat} :(lim n).length≤k ↔ n<LB^k:=by
 constructor
 ·intro h
  have h1:=C4 (gY n)
  rw[fG] at h1
  exact Nat.lt_of_lt_of_le h1 (Nat.pow_le_pow_right iQ h)
 ·intro h
  induction k generalizing n with
  | zero => have : n = 0 := by simpa using h
            subst this;rw[aW];simp
  | succ k ih =>
    by_cases h0:n=0
    ·subst h0;rw[aW];simp
    ·rw[oV h0,List.length_cons]
     have:n / LB<LB^k:=by
      rw[Nat.div_lt_iff_lt_mul iQ,←Nat.pow_succ];exact h
     have:=ih this
     omega
theorem nV {a b:Nat} (h:(lim a).length<(lim b).length):a<b:=by
 have h1:a<LB^(lim a).length:=aM.1 (Nat.le_refl _)
 have h2: ¬ b<LB^(lim a).length:=fun hh=>by have:=aM.2 hh;omega
 omega
theorem cJ {a b:Nat} (h:a≤b):(lim a).length≤(lim b).length:=by
 rcases Nat.lt_or_ge (lim b).length (lim a).length with hh | hh
 ·have:=nV hh;omega
 ·exact hh
theorem sN {l:List Int} {n:Nat} (h: ∀i (hi:i<l.length),n≤i→l[i]=0):val (l.take n)=val l:=by
 induction l generalizing n with
 | nil => simp
 | cons d l ih =>
   cases n with
   | zero=>
     have hd:d=0:=by have:=h 0 (by simp) (Nat.le_refl _);simpa using this
     have:=ih (n:=0) fun i hi _=>by have:=h (i+1) (by simpa using hi) (by omega);simpa using this
     simp[val] at this ⊢
     subst hd;rw[←this];simp
   | succ n=>
     rw[List.take_succ_cons,val,val,ih fun i hi hn=>by have:=h (i+1) (by simpa using hi) (by omega);simpa using this]
theorem D5 {l:List Int} (h:Dig l) (n:Nat):Dig (l.take n):=fun d hd=>h d (List.mem_of_mem_take hd)
theorem H9 {l:List Int} {n:Nat} (h:Dig l) (hn:n≤l.length) (hz: ∀i (hi:i<l.length),n≤i→l[i]=0) (hl: ∀i (hi:i<l.length),n=i+1→l[i]≠0):l.take n=lim (val l):=by
 rw[←sN hz,S9 (D5 h n)]
 intro d hd
 rw[List.getLast?_eq_getElem?] at hd
 have hlen:(l.take n).length=n:=by simp;omega
 rw[hlen] at hd
 obtain⟨h1,h2⟩:=List.getElem?_eq_some_iff.1 hd
 rw[hlen] at h1
 rw[List.getElem_take] at h2
 rw[←h2]
 exact hl (n - 1) (by omega) (by omega)
end Go.Proofs.YticmgmemnpcbbaaGreat.Vm
