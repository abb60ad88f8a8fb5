import Derived.Test.YticmgmemnpcbbaaGreatQCFnExactExtremeOf3

namespace Go.Proofs.YticmgmemnpcbbaaGreat.Vm
open Go Go.Proofs
set_option linter.unusedSimpArgs false
set_option linter.unusedVariables false
def nW (ys xs:List (List V)) (i:Nat):List (List V):=ys.take i++xs.drop i
@[simp] theorem aEY (ys xs : List (List V)) : nW ys xs 0 = xs := by simp [nW]
theorem kP (ys xs:List (List V)) (i:Nat) (hl:ys.length=xs.length):(nW ys xs i).length=xs.length:=by simp[nW];omega
theorem F6 (ys xs:List (List V)) (i:Nat) (hl:ys.length=xs.length) (hi:xs.length≤i):nW ys xs i=ys:=by
 simp[nW,List.take_of_length_le (show ys.length≤i by omega),List.drop_of_length_le hi]
theorem uF (ys xs:List (List V)) (i:Nat) (hl:ys.length=xs.length) (hi:i<xs.length):(nW ys xs i)[i]? =some xs[i]:=by
 unfold nW
 rw[List.getElem?_append_right (by simp;omega),List.length_take,Nat.min_eq_left (by omega),Nat.sub_self,List.getElem?_drop]
 simp[hi]
theorem N3 (ys xs:List (List V)) (i:Nat) (hl:ys.length=xs.length) (hi:i<xs.length):(nW ys xs i)[i]'(by rw[kP ys xs i hl];exact hi)=xs[i]:=by
 have:=uF ys xs i hl hi
 rw[List.getElem?_eq_getElem (by rw[kP ys xs i hl];exact hi)] at this
 exact Option.some.inj this
theorem G2 (ys xs:List (List V)) (i:Nat) (hl:ys.length=xs.length) (hi:i<ys.length) (x:List V) (hx:x=ys[i]):(nW ys xs i).set i x=nW ys xs (i+1):=by
 subst hx
 apply List.ext_getElem?
 intro j
 have hz: ∀k,k≤ys.length→ ∀j,(nW ys xs k)[j]? =if j<k then ys[j]? else xs[j]? :=by
  intro k hk j
  unfold nW
  by_cases hj:j<k
  ·rw[if_pos hj,List.getElem?_append_left (by simp;omega),List.getElem?_take_of_lt hj]
  ·rw[if_neg hj,List.getElem?_append_right (by simp;omega),List.length_take,Nat.min_eq_left hk,List.getElem?_drop]
   congr 1;omega
 rw[List.getElem?_set,hz i (by omega),hz (i+1) (by omega),kP _ _ _ hl]
 by_cases hij:i=j
 ·subst hij;simp[hi];omega
 ·rw[if_neg hij]
  by_cases h1:j<i
  ·simp[h1,show j<i+1 by omega]
  ·simp[h1,show ¬ j<i+1 by omega]
def marks (k:Int) (n:Nat):List Int:=(List.range n).map fun(i:Nat)=>k+i
@[simp] theorem Ur (k : Int) (n : Nat) : (marks k n).length = n := by simp [marks]
@[simp] theorem aCR (k : Int) (n i : Nat) (h : i < (marks k n).length) : (marks k n)[i] = k + i := by simp [marks]
theorem qK {bl:Int→Option Blk} {K:V→(Int→Option Blk)→Prop} (xs:List Int) (k:Int) (v:V) (gs:List Int) (h:OwnD bl (fl 1 (iv xs)) v gs) (hk: -1≤k∧k+xs.length≤4611686018427387904)
  (hK: ∀bl',OwnD bl' (fl 1 (iv (marks k xs.length))) v gs→(∀g,g∉gs→bl' g=bl g)→K (.int .i64 (k+xs.length)) bl'):bU Tryz.prog 57 [v,.int .i64 k] bl K:=by
 refine cA Tryz.func57 rfl rfl (by rw[Tryz.ntmps57];simp) ?_
 rw[Tryz.ntmps57,Tryz.results57]
 refine aC ?_
 rcases dI.1 h with ⟨rfl,rfl,rfl⟩| ⟨g,rfl,rfl,hb,hg0⟩
 ·simp
  refine aJ (fun _:Unit=> [(0,.nils),(1,.int .i64 k),(5,.int .i64 0)]) (fun _=>bl) (fun _=>True) (fun _=>0) _ () trivial ⟨rfl,by simp,Sub.refl _⟩ ?_
  intro _ _
  refine aC ?_
  simp
  rw[bV]
  refine⟨[.int .i64 k],by simp,?_⟩
  have:=hK bl (dI.2 (.inl ⟨rfl,rfl,rfl⟩)) (fun _ _=>rfl)
  simpa using this
 ·simp
  refine aJ (fun i:Nat=> [(0,.lsl g 1 0 xs.length),(1,.int .i64 (k+i)),(5,.int .i64 i)]) (fun i=>upd bl g (some ⟨1,nW (iv (marks k xs.length)) (iv xs) i⟩)) (fun i=>i≤xs.length) (fun i=>xs.length - i) _ 0 (Nat.zero_le _) ⟨rfl,by simp,sub_eq ?_⟩ ?_
  ·funext x
   simp only[aA]
   split
   ·rename_i hx;subst hx;simp[hb]
   ·rfl
  intro i hi
  refine aC ?_
  simp
  refine⟨fun h1=> ?_,fun h1=> ?_⟩
  ·have h2:i<(iv xs).length:=by simpa using h1
   have hge:0≤g:=by
    rcases Int.lt_or_le g 0 with hlt | hge
    ·have:=hg0 hlt;subst this;simp at h1
    ·exact hge
   have hgi:=uF (iv (marks k xs.length)) (iv xs) i (by simp) h2
   simp (disch:=omega) [h1,hgi,i64_in,aB]
   refine⟨i+1,by omega,by omega,rfl,by simp;omega,sub_eq ?_⟩
   rw[G2 _ _ _ (by simp) (by simpa using h1) _ (by simp[marks])]
  ·have hi':i=xs.length:=by omega
   subst hi'
   rw[bV]
   refine⟨[.int .i64 (k+xs.length)],by simp,?_⟩
   refine hK _ (dI.2 (.inr ⟨g,by simp,rfl,?_,fun h=>by have:=hg0 h;subst this;rfl⟩)) (fun g' hg'=> ?_)
   ·simp;rw[F6 _ _ _ (by simp) (by simp)]
   ·simp at hg';simp[hg']
theorem yE (n:Nat) (k:Int) (hk: -1≤k∧k+n≤4611686018427387904):RO Tryz.prog 136 [.sl (iv (marks k n)),.int .i64 k] (.int .i64 (k+n)):=by
 refine aI Tryz.func136 rfl rfl (by rw[Tryz.ntmps136];simp) fun bl=> ?_
 rw[Tryz.ntmps136,Tryz.results136]
 refine aC ?_
 simp
 refine aJ (fun i:Nat=> [(0,.sl (iv (marks k n))),(1,.int .i64 (k+i)),(5,.int .i64 i)]) (fun _=>bl) (fun i=>i≤n) (fun i=>n - i) _ 0 (Nat.zero_le _) ⟨rfl,by simp,Sub.refl _⟩ ?_
 intro i hi
 refine aC ?_
 simp
 refine⟨fun h1=> ?_,fun h1=> ?_⟩
 ·have h2:i<(iv (marks k n)).length:=by simpa using h1
  simp (disch:=omega) [h1,i64_in,aB]
  refine⟨i+1,by omega,by omega,rfl,by simp;omega,Sub.refl _⟩
 ·have hi':i=n:=by omega
  subst hi'
  exact aP (by simp) rfl rfl
theorem Lj (a:List Int) (ha:a.length≤1048576):NW Tryz.prog 49 [.sl (iv a)] (fl 1 (iv a)):=by
 refine iD Tryz.func49 rfl rfl (by rw[Tryz.ntmps49];simp) fun bl=> ?_
 rw[Tryz.ntmps49,Tryz.results49]
 refine aC ?_
 simp
 refine⟨by omega,by unfold maxLen;omega,fun g hg0 hg=> ?_⟩
 refine aJ (fun i:Nat=> [(0,.sl (iv a)),(3,.lsl g 1 0 a.length),(4,.int .i64 i)]) (fun i=>upd bl g (some ⟨1,part (iv a) [.int .i64 0] i⟩)) (fun i=>i≤a.length) (fun i=>a.length - i) _ 0 (Nat.zero_le _) ⟨rfl,by simp,sub_eq (by simp)⟩ ?_
 intro i hi
 refine aC ?_
 simp
 refine⟨fun h=> ?_,fun h=> ?_⟩
 ·have hi':i<(iv a).length:=by simpa using h
  simp (disch:=omega) [h,dW _ _ _ hi',i64_in,aB]
  refine⟨i+1,by omega,by omega,rfl,by simp,sub_eq ?_⟩
  simp only[jS]
  rw[cI _ _ _ hi']
  simp
 ·refine fH [.lsl g 1 0 a.length] [g] (by simp) ?_ (by simpa using hg) (by simp[hg])
  rw[fD _ _ _ (by simpa using h)]
  exact dI.2 (.inr ⟨g,rfl,rfl,by simp,by omega⟩)

theorem Vy (ns:List J): ∀r,r∈jv ns→r.length=4:=by
 intro r hr
 obtain⟨n,_,rfl⟩:=List.mem_map.1 hr
 rfl
theorem Uf (ns:List Mb): ∀r,r∈mv ns→r.length=3:=by
 intro r hr
 obtain⟨n,_,rfl⟩:=List.mem_map.1 hr
 rfl
theorem S4 {bl:Int→Option Blk} {ns:List J} {v:V} {gs:List Int} :OwnD bl (fl 4 (jv ns)) v gs ↔ (ns= []∧v= .nils∧gs= [])∨ ∃g,v= .lsl g 4 0 ns.length∧gs= [g]∧bl g=some ⟨4,jv ns⟩∧(g<0→ns= []):=by
 rw[tG (Zj ns) (Vy ns)]
 simp[jv]
theorem T8 {bl:Int→Option Blk} {ns:List Mb} {v:V} {gs:List Int} :OwnD bl (fl 3 (mv ns)) v gs ↔ (ns= []∧v= .nils∧gs= [])∨ ∃g,v= .lsl g 3 0 ns.length∧gs= [g]∧bl g=some ⟨3,mv ns⟩∧(g<0→ns= []):=by
 rw[tG (Xw ns) (Uf ns)]
 simp[mv]
theorem Cd (a:List J) (ha:a.length≤1048576):NW Tryz.prog 118 [.sl (jv a)] (fl 4 (jv a)):=by
 refine iD Tryz.func118 rfl rfl (by rw[Tryz.ntmps118];simp) fun bl=> ?_
 rw[Tryz.ntmps118,Tryz.results118]
 refine aC ?_
 simp
 refine⟨by omega,by unfold maxLen;omega,fun g hg0 hg=> ?_⟩
 refine aJ (fun i:Nat=> [(0,.sl (jv a)),(3,.lsl g 4 0 a.length),(4,.int .i64 i)]) (fun i=>upd bl g (some ⟨4,part (jv a) [.str { data:= #[] },.int .i64 0,.int .i64 0,.bool false] i⟩)) (fun i=>i≤a.length) (fun i=>a.length - i) _ 0 (Nat.zero_le _) ⟨rfl,by simp,sub_eq (by simp)⟩ ?_
 intro i hi
 refine aC ?_
 simp
 refine⟨fun h=> ?_,fun h=> ?_⟩
 ·have hi':i<(jv a).length:=by simpa using h
  simp[h]
  refine aD (F4 a[i]) ?_
  simp (disch:=omega) [h,dW _ _ _ hi',i64_in,aB,J.c]
  refine⟨i+1,by omega,by omega,rfl,by simp,sub_eq ?_⟩
  simp only[jS]
  rw[cI _ _ _ hi']
  simp[J.c]
 ·refine fH [.lsl g 4 0 a.length] [g] (by simp) ?_ (by simpa using hg) (by simp[hg])
  rw[fD _ _ _ (by simpa using h)]
  exact S4.2 (.inr ⟨g,rfl,rfl,by simp,by omega⟩)
theorem P4 (a:List Mb) (ha:a.length≤1048576):NW Tryz.prog 119 [.sl (mv a)] (fl 3 (mv a)):=by
 refine iD Tryz.func119 rfl rfl (by rw[Tryz.ntmps119];simp) fun bl=> ?_
 rw[Tryz.ntmps119,Tryz.results119]
 refine aC ?_
 simp
 refine⟨by omega,by unfold maxLen;omega,fun g hg0 hg=> ?_⟩
 refine aJ (fun i:Nat=> [(0,.sl (mv a)),(3,.lsl g 3 0 a.length),(4,.int .i64 i)]) (fun i=>upd bl g (some ⟨3,part (mv a) [.int .i64 0,.int .i64 0,.int .i64 0] i⟩)) (fun i=>i≤a.length) (fun i=>a.length - i) _ 0 (Nat.zero_le _) ⟨rfl,by simp,sub_eq (by simp)⟩ ?_
 intro i hi
 refine aC ?_
 simp
 refine⟨fun h=> ?_,fun h=> ?_⟩
 ·have hi':i<(mv a).length:=by simpa using h
  simp[h]
  refine aD (xW a[i]) ?_
  simp (disch:=omega) [h,dW _ _ _ hi',i64_in,aB,Mb.c]
  refine⟨i+1,by omega,by omega,rfl,by simp,sub_eq ?_⟩
  simp only[jS]
  rw[cI _ _ _ hi']
  simp[Mb.c]
 ·refine fH [.lsl g 3 0 a.length] [g] (by simp) ?_ (by simpa using hg) (by simp[hg])
  rw[fD _ _ _ (by simpa using h)]
  exact T8.2 (.inr ⟨g,rfl,rfl,by simp,by omega⟩)
def H5 (s:Str):List D:= [fl 4 (jv s.js),fl 3 (mv s.ms)]
theorem zP (s:Str) (hj:s.js.length≤1048576) (hm:s.ms.length≤1048576):NW Tryz.prog 48 [.agg s.c] (.a (H5 s)):=by
 refine iD Tryz.func48 rfl rfl (by rw[Tryz.ntmps48];simp) fun bl=> ?_
 rw[Tryz.ntmps48,Tryz.results48]
 refine aC ?_
 simp[Str.c]
 intro g1 hg1 hb1 g2 hg2 h21 hb2
 intro g3 hg3 h32 h31 hb3
 simp[h21,h31,h32,Ne.symm h21,Ne.symm h31,Ne.symm h32]
 refine cQ (Cd _ hj) fun v1 gs1 b1 o1 f1 fr1=> ?_
 obtain⟨c1,c2⟩:=o1.one
 have e1: ∀g,g∈gs1→g≠g1∧g≠g2∧g≠g3∧bl g=none:=fun g hg=>by have:=f1 g hg;simp[aA] at this;grind
 have n1:b1 g1=_:=fr1 g1 fun h=>(e1 g1 h).1 rfl
 have n2:b1 g2=_:=fr1 g2 fun h=>(e1 g2 h).2.1 rfl
 have n3:b1 g3=_:=fr1 g3 fun h=>(e1 g3 h).2.2.1 rfl
 simp[h21,h31,h32,Ne.symm h21,Ne.symm h31,Ne.symm h32] at n1 n2 n3
 simp[h21,h31,h32,Ne.symm h21,Ne.symm h31,Ne.symm h32,n1,n2,n3,c1,c2]
 refine cQ (P4 _ hm) fun v2 gs2 b2 o2 f2 fr2=> ?_
 obtain⟨d1,d2⟩:=o2.one
 have e2: ∀g,g∈gs2→g≠g3∧b1 g=none:=fun g hg=>by have:=f2 g hg;simp[aA] at this;exact this
 have e3: ∀g,g∈gs2→g∉gs1:=fun g hg hg1=>by
  obtain⟨b,hb⟩:=o1.has g hg1
  rw[(e2 g hg).2] at hb;cases hb
 have e4: ∀g,g∈gs2→g≠g2:=fun g hg h=>by have:=(e2 g hg).2;rw[h,n2] at this;cases this
 have m1:b2 g1=_:=fr2 g1 fun h=>by have:=(e2 g1 h).2;rw[n1] at this;cases this
 have m2:b2 g2=_:=fr2 g2 fun h=>by have:=(e2 g2 h).2;rw[n2] at this;cases this
 have m3:b2 g3=_:=fr2 g3 fun h=>(e2 g3 h).1 rfl
 simp[h21,h31,h32,Ne.symm h21,Ne.symm h31,Ne.symm h32,n1,n2] at m1 m2 m3
 simp[h21,h31,h32,Ne.symm h21,Ne.symm h31,Ne.symm h32,m1,m2,m3,d1,d2,c1]
 have k1:OwnD b2 (fl 4 (jv s.js)) v1 gs1:=o1.frame fun g hg=>by
  rw[fr2 g (fun h=>e3 g h hg)]
  simp[aA,(e1 g hg).2.2.1]
 have jR:Sub bl b2:=fun g b hb=>by
  have z1:g≠g1:=fun h=>by rw[h,hb1] at hb;cases hb
  have z2:g≠g2:=fun h=>by rw[h,hb2] at hb;cases hb
  have z3:g≠g3:=fun h=>by rw[h,hb3] at hb;cases hb
  have hn1:g∉gs1:=fun h=>by rw[(e1 g h).2.2.2] at hb;cases hb
  have hb1:b1 g=some b:=by rw[fr1 g hn1];simp[aA,z1,z2,z3,hb]
  have hn2:g∉gs2:=fun h=>by rw[(e2 g h).2] at hb1;cases hb1
  rw[fr2 g hn2]
  simp[aA,z3,hb1]
 refine fH [.agg [v1,v2]] (gs1++gs2) ?_ ?_ ?_ ?_
 ·simp[h21,h31,h32,Ne.symm h21,Ne.symm h31,Ne.symm h32,m1,m2,m3]
 ·show OwnD _ (.a (H5 s)) (.agg [v1,v2]) (gs1++gs2)
  rw[OwnD]
  refine⟨_,rfl,gS.2 ⟨v1,v2,gs1,gs2,rfl,rfl,fun g h1 h2=>e3 g h2 h1,?_,?_⟩⟩
  ·exact k1.frame fun g hg=>by simp[aA,(e1 g hg).2.1,(e1 g hg).2.2.1]
  ·exact o2.frame fun g hg=>by simp[aA,(e2 g hg).1,e4 g hg]
 ·intro g hg
  rcases List.mem_append.1 hg with hg | hg
  ·exact(e1 g hg).2.2.2
  ·have h2:=(e2 g hg).2
   rw[fr1 g (e3 g hg)] at h2
   simp[aA] at h2
   grind
 ·simp[hb2,hb3];exact jR
structure Str.sz (s : Str) : Prop where
 js:s.js.length≤140737488351232
 ms:s.ms.length≤140737488351232
 nm: ∀j,j∈s.js→j.name.size≤140737488351232
theorem Hy {bl:Int→Option Blk} {s:Str} {vs:List V} {gs:List Int} (h:OwnL bl (H5 s) vs gs) (n:Nat):frz bl (n+2) (.agg vs)=some (.agg s.c):=by
 have h1:OwnD bl (.a (H5 s)) (.agg vs) gs:=by rw[OwnD];exact⟨vs,rfl,h⟩
 rw[h1.frz (n:=n+2) (by rw[D.dep];refine⟨by omega,?_⟩;simp[H5,D.depL,kV])]
 simp[D.fz,H5,D.fzL,Str.c]
theorem Wz {bl:Int→Option Blk} {s:Str} {v:V} {gs:List Int} (h:OwnD bl (.a (H5 s)) v gs): ∃v1 v2,v= .agg [v1,v2]∧OwnL bl (H5 s) [v1,v2] gs∧v1.one=true∧v1.cells= [v1]∧v2.one=true∧v2.cells= [v2]:=by
 rw[OwnD] at h
 obtain⟨vs,rfl,o⟩:=h
 obtain⟨v1,v2,ga,gb,rfl,rfl,hd,o1,o2⟩:=gS.1 o
 exact⟨v1,v2,rfl,o,o1.one.1,o1.one.2,o2.one.1,o2.one.2⟩

def Q9 (k:Nat) (out:ByteArray):ByteArray:=if h:k=0 then out else Q9 (k / 10) (oG [IntKind.u8.wrap (IntKind.i64.wrap (48+(k:Int).tmod 10))]++out)
termination_by k
decreasing_by omega
def Bw (k:Nat):ByteArray:=if k=0 then { data:= #[109,48] } else({ data:= #[109] } :ByteArray)++Q9 k { data:= #[] }
theorem Ka {k:Nat} (h:k≠0) (out:ByteArray):Q9 k out=Q9 (k / 10) (oG [IntKind.u8.wrap (IntKind.i64.wrap (48+(k:Int).tmod 10))]++out):=by
 rw[Q9,dif_neg h]
theorem Mn (out:ByteArray):Q9 0 out=out:=by rw[Q9,dif_pos rfl]
theorem Cr (k:Nat) (hk:k≤4611686018427387904):RO Tryz.prog 208 [.int .i64 k] (.str (Bw k)):=by
 refine aI Tryz.func208 rfl rfl (by rw[Tryz.ntmps208];simp) fun bl=> ?_
 rw[Tryz.ntmps208,Tryz.results208]
 refine aC ?_
 simp
 refine⟨fun h=> ?_,fun h=> ?_⟩
 ·exact aP (by simp[Bw,h]) rfl rfl
 refine aJ (fun p:Nat×ByteArray=> [(0,.int .i64 p.1),(3,.str p.2)]) (fun _=>bl) (fun p=>p.1+p.2.size≤k∧Q9 p.1 p.2=Q9 k { data:= #[] }) (fun p=>p.1) _ (k, { data:= #[] }) ⟨by simp[ByteArray.size],rfl⟩ ⟨rfl,by simp,Sub.refl _⟩ ?_
 rintro⟨n,out⟩ ⟨hn,hd⟩
 simp only at hn hd
 refine aC ?_
 simp
 refine⟨fun h1=> ?_,fun h1=> ?_⟩
 ·intro g hg0 hg
  have hsz: ∀x,(oG [x]).size=1:=fun x=>rfl
  simp[cvtV,cvtS,elsV,Int.not_lt.2 hg0,bytesOf]
  have h2:=hsz (IntKind.u8.wrap (IntKind.i64.wrap (48+(n:Int).tmod 10)))
  refine⟨by omega,?_⟩
  simp[aB]
  refine⟨n / 10,oG [IntKind.u8.wrap (IntKind.i64.wrap (48+(n:Int).tmod 10))]++out,⟨?_,?_⟩,by omega,rfl,?_,?_⟩
  ·rw[ByteArray.size_append,h2];omega
  ·rw[←hd];exact(Ka (by omega) out).symm
  ·simp
   exact i64_in (by omega) (by omega)
  ·simp[hg]
 ·have:n=0:=by omega
  subst this
  rw[Mn] at hd
  subst hd
  have h2:({ data:= #[109] } :ByteArray).size=1:=rfl
  simp only[h2]
  refine⟨by omega,?_⟩
  exact aP (by simp[Bw,h]) rfl rfl
def mkJ (k n:Nat):List J:=(List.range n).map fun i=>⟨Bw (k+4*i),(k+4*i+1:Nat),(k+4*i+2:Nat),((k+4*i+3:Nat):Int).tmod 3==0⟩
@[simp] theorem aAL (k n : Nat) : (mkJ k n).length = n := by simp [mkJ]
@[simp] theorem aLV (k n i : Nat) (h : i < (mkJ k n).length) : (mkJ k n)[i] = ⟨Bw (k + 4 * i), (k + 4 * i + 1 : Nat), (k + 4 * i + 2 : Nat), ((k + 4 * i + 3 : Nat) : Int).tmod 3 == 0⟩ := by simp [mkJ]
def mkM (k n:Nat):List Mb:=(List.range n).map fun i=>⟨(k+3*i:Nat),(k+3*i+1:Nat),(k+3*i+2:Nat)⟩
@[simp] theorem aCY (k n : Nat) : (mkM k n).length = n := by simp [mkM]
@[simp] theorem aML (k n i : Nat) (h : i < (mkM k n).length) : (mkM k n)[i] = ⟨(k + 3 * i : Nat), (k + 3 * i + 1 : Nat), (k + 3 * i + 2 : Nat)⟩ := by simp [mkM]
theorem X1 {α β:Type} [DecidableEq α] (f:α→β) (a:α) (b:β) (h:f a=b):upd f a b=f:=by
 funext x
 simp only[aA]
 split
 ·rename_i hx;subst hx;exact h.symm
 ·rfl
theorem J4 {bl:Int→Option Blk} {K:V→(Int→Option Blk)→Prop} (xs:List J) (k:Nat) (v:V) (gs:List Int) (h:OwnD bl (fl 4 (jv xs)) v gs) (hk:k+4*xs.length≤4611686018427387000)
  (hK: ∀bl',OwnD bl' (fl 4 (jv (mkJ k xs.length))) v gs→(∀g,g∉gs→bl' g=bl g)→K (.int .i64 (k+4*xs.length:Nat)) bl'):bU Tryz.prog 131 [v,.int .i64 k] bl K:=by
 refine cA Tryz.func131 rfl rfl (by rw[Tryz.ntmps131];simp) ?_
 rw[Tryz.ntmps131,Tryz.results131]
 refine aC ?_
 rcases S4.1 h with ⟨rfl,rfl,rfl⟩| ⟨g,rfl,rfl,hb,hg0⟩
 ·simp
  refine aJ (fun _:Unit=> [(0,.nils),(1,.int .i64 k),(5,.int .i64 0)]) (fun _=>bl) (fun _=>True) (fun _=>0) _ () trivial ⟨rfl,by simp,Sub.refl _⟩ ?_
  intro _ _
  refine aC ?_
  simp
  rw[bV]
  refine⟨[.int .i64 k],by simp,?_⟩
  have:=hK bl (S4.2 (.inl ⟨rfl,rfl,rfl⟩)) (fun _ _=>rfl)
  simpa using this
 ·simp
  refine aJ (fun i:Nat=> [(0,.lsl g 4 0 xs.length),(1,.int .i64 (k+4*i:Nat)),(5,.int .i64 i)]) (fun i=>upd bl g (some ⟨4,nW (jv (mkJ k xs.length)) (jv xs) i⟩)) (fun i=>i≤xs.length) (fun i=>xs.length - i) _ 0 (Nat.zero_le _) ⟨rfl,by simp,sub_eq ?_⟩ ?_
  ·exact(X1 _ _ _ (by simpa using hb)).symm
  intro i hi
  refine aC ?_
  simp
  refine⟨fun h1=> ?_,fun h1=> ?_⟩
  ·have h2:i<(jv xs).length:=by simpa using h1
   have hge:0≤g:=by
    rcases Int.lt_or_le g 0 with hlt | hge
    ·have:=hg0 hlt;subst this;simp at h1
    ·exact hge
   have hgi:=uF (jv (mkJ k xs.length)) (jv xs) i (by simp) h2
   have hgE:=N3 (jv (mkJ k xs.length)) (jv xs) i (by simp) h2
   have hol:i<(nW (jv (mkJ k xs.length)) (jv xs) i).length:=by rw[kP _ _ _ (by simp)];exact h2
   have hm:=Cr (k+4*i) (by omega)
   simp at hm
   simp[h1]
   refine aD hm ?_
   simp (disch:=omega) [h1,hgi,i64_in,J.c,hol,List.getElem?_set_self,List.set_set]
   simp only[aB]
   refine⟨i+1,by omega,by omega,rfl,by simp;omega,sub_eq ?_⟩
   simp only[jS]
   rw[G2 _ _ _ (by simp) (by simpa using h1) _ (by simp[hgE,J.c,Int.add_assoc])]
  ·have hi':i=xs.length:=by omega
   subst hi'
   rw[bV]
   refine⟨[.int .i64 (k+4*xs.length:Nat)],by simp,?_⟩
   refine hK _ (S4.2 (.inr ⟨g,by simp,rfl,?_,fun h=>by have:=hg0 h;subst this;rfl⟩)) (fun g' hg'=> ?_)
   ·simp;rw[F6 _ _ _ (by simp) (by simp)]
   ·simp at hg';simp[hg']
theorem qO {bl:Int→Option Blk} {K:V→(Int→Option Blk)→Prop} (xs:List Mb) (k:Nat) (v:V) (gs:List Int) (h:OwnD bl (fl 3 (mv xs)) v gs) (hk:k+3*xs.length≤4611686018427387000)
  (hK: ∀bl',OwnD bl' (fl 3 (mv (mkM k xs.length))) v gs→(∀g,g∉gs→bl' g=bl g)→K (.int .i64 (k+3*xs.length:Nat)) bl'):bU Tryz.prog 132 [v,.int .i64 k] bl K:=by
 refine cA Tryz.func132 rfl rfl (by rw[Tryz.ntmps132];simp) ?_
 rw[Tryz.ntmps132,Tryz.results132]
 refine aC ?_
 rcases T8.1 h with ⟨rfl,rfl,rfl⟩| ⟨g,rfl,rfl,hb,hg0⟩
 ·simp
  refine aJ (fun _:Unit=> [(0,.nils),(1,.int .i64 k),(5,.int .i64 0)]) (fun _=>bl) (fun _=>True) (fun _=>0) _ () trivial ⟨rfl,by simp,Sub.refl _⟩ ?_
  intro _ _
  refine aC ?_
  simp
  rw[bV]
  refine⟨[.int .i64 k],by simp,?_⟩
  have:=hK bl (T8.2 (.inl ⟨rfl,rfl,rfl⟩)) (fun _ _=>rfl)
  simpa using this
 ·simp
  refine aJ (fun i:Nat=> [(0,.lsl g 3 0 xs.length),(1,.int .i64 (k+3*i:Nat)),(5,.int .i64 i)]) (fun i=>upd bl g (some ⟨3,nW (mv (mkM k xs.length)) (mv xs) i⟩)) (fun i=>i≤xs.length) (fun i=>xs.length - i) _ 0 (Nat.zero_le _) ⟨rfl,by simp,sub_eq ?_⟩ ?_
  ·exact(X1 _ _ _ (by simpa using hb)).symm
  intro i hi
  refine aC ?_
  simp
  refine⟨fun h1=> ?_,fun h1=> ?_⟩
  ·have h2:i<(mv xs).length:=by simpa using h1
   have hge:0≤g:=by
    rcases Int.lt_or_le g 0 with hlt | hge
    ·have:=hg0 hlt;subst this;simp at h1
    ·exact hge
   have hgi:=uF (mv (mkM k xs.length)) (mv xs) i (by simp) h2
   have hgE:=N3 (mv (mkM k xs.length)) (mv xs) i (by simp) h2
   have hol:i<(nW (mv (mkM k xs.length)) (mv xs) i).length:=by rw[kP _ _ _ (by simp)];exact h2
   simp (disch:=omega) [h1,hgi,i64_in,Mb.c,hol,List.getElem?_set_self,List.set_set]
   simp only[aB]
   refine⟨i+1,by omega,by omega,rfl,by simp;omega,sub_eq ?_⟩
   simp only[jS]
   rw[G2 _ _ _ (by simp) (by simpa using h1) _ (by simp[hgE,Mb.c,Int.add_assoc])]
  ·have hi':i=xs.length:=by omega
   subst hi'
   rw[bV]
   refine⟨[.int .i64 (k+3*xs.length:Nat)],by simp,?_⟩
   refine hK _ (T8.2 (.inr ⟨g,by simp,rfl,?_,fun h=>by have:=hg0 h;subst this;rfl⟩)) (fun g' hg'=> ?_)
   ·simp;rw[F6 _ _ _ (by simp) (by simp)]
   ·simp at hg';simp[hg']
def mkS (k:Nat) (s:Str):Str:=⟨mkJ k s.js.length,mkM (k+4*s.js.length) s.ms.length⟩
def mkN (k:Nat) (s:Str):Nat:=k+4*s.js.length+3*s.ms.length
theorem wU {bl:Int→Option Blk} {K:V→(Int→Option Blk)→Prop} (s:Str) (k:Nat) (vs:List V) (gs:List Int) (h:OwnL bl (H5 s) vs gs) (hk:mkN k s≤4611686018427387000)
  (hK: ∀bl',OwnL bl' (H5 (mkS k s)) vs gs→(∀g,g∉gs→ ∀b,bl g=some b→bl' g=some b)→K (.int .i64 (mkN k s:Nat)) bl'):bU Tryz.prog 56 [.agg vs,.int .i64 k] bl K:=by
 obtain⟨v,w,g1,g2,rfl,rfl,hd,o1,o2⟩:=gS.1 h
 obtain⟨c1,c2⟩:=o1.one
 obtain⟨d1,d2⟩:=o2.one
 unfold mkN at hk
 refine cA Tryz.func56 rfl rfl (by rw[Tryz.ntmps56];simp) ?_
 rw[Tryz.ntmps56,Tryz.results56]
 refine aC ?_
 simp[c1,d1]
 intro g hg0 hg
 have f1: ∀x,x∈g1→x≠g:=fun x hx h=>by obtain⟨b,hb⟩:=o1.has x hx;rw[h,hg] at hb;cases hb
 have f2: ∀x,x∈g2→x≠g:=fun x hx h=>by obtain⟨b,hb⟩:=o2.has x hx;rw[h,hg] at hb;cases hb
 refine J4 s.js k v g1 (o1.frame fun x hx=>by simp[f1 x hx]) (by omega) fun b1 p1 q1=> ?_
 have n1:b1 g=some ⟨2,[[v,w]]⟩:=by rw[q1 g (fun h=>f1 g h rfl)];simp
 have p2:OwnD b1 (fl 3 (mv s.ms)) w g2:=o2.frame fun x hx=>by rw[q1 x (fun h=>hd x h hx)];simp[f2 x hx]
 simp[n1]
 have:=qO (bl:=b1) (K:=K) s.ms (k+4*s.js.length) w g2 p2 (by omega)
 refine qO s.ms (k+4*s.js.length) w g2 p2 (by omega) fun b2 p3 q3=> ?_
 simp
 rw[bV]
 refine⟨[_],by simp;rfl,?_⟩
 have:=hK b2 (gS.2 ⟨v,w,g1,g2,rfl,rfl,hd,p1.frame fun x hx=>q3 x (hd x hx),p3⟩) (fun x hx b hb=> ?_)
 ·simpa [mkN] using this
 ·simp at hx
  rw[q3 x hx.2,q1 x hx.1]
  simp only[aA]
  rw[if_neg (fun e=>by subst e;rw[hg] at hb;cases hb)];exact hb

end Go.Proofs.YticmgmemnpcbbaaGreat.Vm

namespace Go.Proofs.YticmgmemnpcbbaaGreat.Vm
open Go Go.Proofs
set_option linter.unusedSimpArgs false
set_option linter.unusedVariables false
def aVU (s:Str):List Int:=if sOk s=true then List.replicate (2*s.js.length) 0 else []

def aWG (s:Str):List Int:=if sOk s=true then aQ s.js else []
theorem sH (s:Str) (hj:s.js.length≤1048576):RO Tryz.prog 74 [.ptr s.c] (.sl (iv (aQ s.js))):=by
 have:=jA 1 (J8 s hj) (kV _ _ 0)
 simpa using this
theorem Ej (s:Str) (hj:s.js.length≤1048576):NW Tryz.prog 93 [.agg s.c] (fl 1 (iv (aQ s.js))):=by
 refine iD Tryz.func93 rfl rfl (by rw[Tryz.ntmps93];simp) fun bl=> ?_
 rw[Tryz.ntmps93,Tryz.results93]
 refine aC ?_
 simp[Str.c]
 intro gs aAK hgs g00 sZ aJT aB1
 simp[aJT,Ne.symm aJT]
 refine aJ (fun p:Nat×Int=> [(3,.lsl p.2 1 0 (bZ s.js p.1).length),(8,.sl (jv s.js)),(9,.int .i64 s.js.length),(10,.int .i64 p.1)]) (fun p=>upd bl p.2 (some ⟨1,iv (bZ s.js p.1)⟩)) (fun p=>p.1≤s.js.length∧bl p.2=none∧(p.2<0→bZ s.js p.1= [])) (fun p=>s.js.length - p.1) _ (0,g00) ⟨Nat.zero_le _,aB1,fun _=>rfl⟩ (by refine⟨rfl,by simp[bZ],?_⟩;exact dE (by simp[bZ,iv]) (by simp[hgs])) ?_
 rintro⟨i,g⟩ ⟨hi,hg,h0⟩
 simp only at hi hg h0
 have hl:=jB s.js i
 refine aC ?_
 simp
 refine⟨fun h=> ?_,fun h=> ?_⟩
 ·simp[h,J.c]
  intro g1 hg1 h1g hb1
  refine⟨fun hf=> ?_,fun hf=> ?_⟩
  ·intro g2 hg2 h21 h2g hb2
   simp[h1g,h21,h2g,Ne.symm h1g,Ne.symm h21,Ne.symm h2g,appV,elsV,Int.not_lt.2 hg2]
   refine⟨by omega,fun g3 hg3 hb3=> ?_⟩
   have fZ:bl g3=none:=by grind
   simp (disch:=omega) [i64_in,aB]
   have hjf:(s.js.getD i default).fixed=false:=by simpa [h] using hf
   have hs1:bZ s.js (i+1)=bZ s.js i++ [(i:Int)]:=by rw[lJ,hjf];rfl
   refine⟨i+1,g3,⟨by omega,fZ,by omega⟩,by omega,rfl,by simp[hs1],?_⟩
   rw[hs1,aX]
   exact dE (by rw[dP];rfl) (by simp[hg,hb1,hb2,h1g,h21,h2g])
  ·simp (disch:=omega) [i64_in,aB]
   have hjf:(s.js.getD i default).fixed=true:=by simpa [h] using hf
   have hs1:bZ s.js (i+1)=bZ s.js i:=by rw[lJ,hjf];simp
   refine⟨i+1,g,⟨by omega,hg,by rw[hs1];exact h0⟩,by omega,rfl,by simp[hs1],?_⟩
   rw[hs1]
   simp[hb1,h1g]
 ·have hi:i=s.js.length:=by omega
  subst hi
  refine fH [.lsl g 1 0 (bZ s.js s.js.length).length] [g] (by simp) ?_ (by simpa using hg) (by simp[hg])
  refine dI.2 (.inr ⟨g,rfl,rfl,by simp[aQ],h0⟩)
theorem tB (s:Str) (hj:s.js.length≤1048576):RO Tryz.prog 93 [.agg s.c] (.sl (iv (aQ s.js))):=by
 have:=jA 1 (Ej s hj) (kV _ _ 0)
 simpa using this
def aV6 (s:Str):Int:=if sOk s=true then s.ms.length - 2*(aQ s.js).length else 0

def aXV (s:Str) (k:Int):Int:=IntKind.i64.wrap (IntKind.i64.wrap (aMX s k*aMX s k)+IntKind.i64.wrap (aJS s k*aJS s k))

def lat (l:List Int) (i:Nat):Int:=l.getD i 0
theorem xJ {l:List Int} {i:Nat} (h:i<l.length):(iv l)[i]? =some [.int .i64 (lat l i)]:=by simp[lat,h]
structure LOk (s : Str) (l : List Int) : Prop where
 sok:SOk s
 n:l.length=2*s.js.length
 f: ∀i,i<l.length→ -100≤lat l i∧lat l i≤100
theorem Nn {js:List J} {l:List Int} (h:mR js l=true):l.length=2*js.length∧ ∀i,i<l.length→ -100≤lat l i∧lat l i≤100:=by
 unfold mR at h
 simp only[Bool.and_eq_true,decide_eq_true_eq] at h
 refine⟨h.1,fun i hi=> ?_⟩
 have:=List.all_eq_true.1 h.2 l[i] (List.getElem_mem hi)
 simp[fK] at this
 simpa [lat,hi] using this
theorem El {s:Str} {l:List Int} (h:lOk s l=true):LOk s l:=by
 unfold lOk at h
 simp only[Bool.and_eq_true] at h
 obtain⟨h1,h2⟩:=Nn h.2
 exact⟨R1 h.1,h1,h2⟩
def sumX (l:List Int):Nat→Int
 | 0 => 0
 | n + 1 => sumX l n + lat l (2 * n)
def aLF (l:List Int):Nat→Int
 | 0 => 0
 | n + 1 => aLF l n + lat l (2 * n + 1)
def aW0 (s:Str) (l:List Int):Int:=if lOk s l=true then sumX l s.js.length else 0
def aW2 (s:Str) (l:List Int):Int:=if lOk s l=true then aLF l s.js.length else 0
def Yy (s:Str) (l:List Int) (x y:Int):Nat→Int
 | 0 => 0
 | n + 1 => Yy s l x y n + ((jat s.js n).x - x) * lat l (2 * n + 1) - ((jat s.js n).y - y) * lat l (2 * n)
def aJW (s:Str) (l:List Int) (x y:Int):Bool:=lOk s l && (decide (-1000≤x)&& decide (x≤1000))&& (decide (-1000≤y)&& decide (y≤1000))
def aWL (s:Str) (l:List Int) (x y:Int):Int:=if aJW s l x y=true then Yy s l x y s.js.length else 0

theorem nK (a:List Int) (ha:a.length≤1048576):NW Tryz.prog 174 [.sl (iv a)] (fl 1 (iv a)):=by
 cases a with
 | nil =>
   intro bl
   refine A0 ?_ ?_
   ·refine sX ?_
    refine cA Tryz.func174 rfl rfl (by rw[Tryz.ntmps174];simp) ?_
    rw[Tryz.ntmps174,Tryz.results174]
    refine aC ?_
    simp
    exact fH [.nils] [] rfl (dI.2 (.inl ⟨rfl,rfl,rfl⟩)) (by simp) (Sub.refl _)
   ·refine sX ?_
    refine cA Tryz.func174 rfl rfl (by rw[Tryz.ntmps174];simp) ?_
    rw[Tryz.ntmps174,Tryz.results174]
    refine aC ?_
    simp
    intro g hg0 hg
    simp[appV,elsV]
    intro g' hb'
    refine fH [.lsl g' 1 0 0] [g'] (by simp) (dI.2 (.inr ⟨g',rfl,rfl,by simp[iv],fun _=>rfl⟩)) ?_ ?_
    ·simp;grind
    ·have:bl g'=none:=by grind
     simp[hg,this]
 | cons x a =>
   simp only[List.length_cons] at ha
   refine iD Tryz.func174 rfl rfl (by rw[Tryz.ntmps174];simp) fun bl=> ?_
   rw[Tryz.ntmps174,Tryz.results174]
   refine aC ?_
   simp[iv]
   intro g hg0 hg
   simp[appV,elsV]
   refine⟨by omega,fun g' hg' hb'=> ?_⟩
   have hbn:bl g'=none:=by grind
   refine fH [.lsl g' 1 0 (a.length+1)] [g'] (by simp) ?_ (by simpa using hbn) (by simp[hg,hbn])
   exact(dI (ns:=x::a)).2 (.inr ⟨g',by simp,rfl,by simp[iv],by omega⟩)
theorem J0 (a:List Int) (ha:a.length≤1048576):RO Tryz.prog 174 [.sl (iv a)] (.sl (iv a)):=by
 have:=jA 1 (nK a ha) (kV _ _ 0)
 simpa using this

theorem I5 (l:List Int) (k:Int) (hl:l.length≤140737488351232):RO Tryz.prog 281 [.sl (iv l),.int .i64 k] (.int .i64 (ixf (fun x=>decide (k=x)) l)):=by
 refine aI Tryz.func281 rfl rfl (by rw[Tryz.ntmps281];simp) fun bl=> ?_
 rw[Tryz.ntmps281,Tryz.results281]
 refine aC ?_
 simp
 refine aJ (fun i:Nat=> [(0,.sl (iv l)),(1,.int .i64 k),(7,.int .i64 l.length),(8,.int .i64 i)]) (fun _=>bl) (fun i=>i≤l.length∧ ∀j (h1:j<l.length),j<i→decide (k=l[j])=false) (fun i=>l.length - i) _ 0 ⟨Nat.zero_le _,fun j _ h0=>by omega⟩ ⟨rfl,by simp,Sub.refl _⟩ ?_
 intro i ⟨hi,hc⟩
 refine aC ?_
 simp
 refine⟨fun h1=> ?_,fun h1=> ?_⟩
 ·simp[h1]
  refine⟨fun h2=> ?_,fun h2=> ?_⟩
  ·exact aP (by rw[qH (p:=fun x=>decide (k=x)) h1 hc (by simpa using h2)];simp) rfl rfl
  ·simp (disch:=omega) [i64_in,aB]
   refine⟨i+1,⟨by omega,fun j hj1 hji=> ?_⟩,by omega,rfl,by simp,Sub.refl _⟩
   rcases Nat.lt_or_ge j i with hlt | hge
   ·simpa using hc j hj1 hlt
   ·obtain rfl:j=i:=by omega
    simpa using h2
 ·exact aP (by rw[qE (p:=fun x=>decide (k=x)) fun j hj=>hc j hj (by omega)];simp) rfl rfl
theorem any_eq (l:List Int) (k:Int):(l.any fun x=>decide (k=x))=decide (k∈l):=by
 rw[Bool.eq_iff_iff];simp
theorem vI (l:List Int) (k:Int) (hl:l.length≤140737488351232):RO Tryz.prog 255 [.sl (iv l),.int .i64 k] (.bool (decide (k∈l))):=by
 refine aI Tryz.func255 rfl rfl (by rw[Tryz.ntmps255];simp) fun bl=> ?_
 rw[Tryz.ntmps255,Tryz.results255]
 refine aC ?_
 simp
 refine aD (I5 l k hl) ?_
 simp
 exact aP (by simp[Fk,any_eq]) rfl rfl

def aED (ms:List Mb) (l:List Int) (n:Nat):List Mb:=((List.range n).filter fun(i:Nat)=> !decide ((i:Int)∈l)).map fun(i:Nat)=>ms.getD i default
def aQH (s:Str) (l:List Int):Str:=⟨s.js,aED s.ms l s.ms.length⟩

end Go.Proofs.YticmgmemnpcbbaaGreat.Vm

namespace Go.Proofs.YticmgmemnpcbbaaGreat.Vm
open Go Go.Proofs
set_option linter.unusedSimpArgs false
set_option linter.unusedVariables false
def ivv (ws:List (List Int)):List (List V):=ws.map fun w=> [.sl (iv w)]
def dII (ws:List (List Int)):D:= .s 1 (ws.map fun w=> [fl 1 (iv w)])
@[simp] theorem aCZ (ws : List (List Int)) : (ivv ws).length = ws.length := by simp [ivv]
@[simp] theorem aN5 (ws : List (List Int)) (i : Nat) (h : i < (ivv ws).length) : (ivv ws)[i] = [.sl (iv (ws[i]'(by simpa using h)))] := by simp [ivv]
theorem aD3 (ws:List (List Int)):(dII ws).fz= .sl (ivv ws):=by
 unfold dII ivv
 rw[D.fz,yZ,List.map_map]
 congr 1
 exact List.map_congr_left fun w _=>by simp
theorem Ut (ws:List (List Int)):(dII ws).dep 2:=by
 unfold dII
 rw[D.dep]
 refine⟨by omega,?_⟩
 induction ws with
 | nil => simp [D.depR]
 | cons w ws ih => simp [D.depR, D.depL, kV] at ih ⊢; exact ih

def eE (s:Str) (j:Int):List Int:=s.ms.map (eqX s j)
def eO (s:Str) (j:Int):List Int:=s.ms.map (eqY s j)
def gJ (s:Str):List (List Int):=(aQ s.js).flatMap fun j=> [eE s j,eO s j]
def zV (s:Str) (n:Nat):List (List Int):=((aQ s.js).take n).flatMap fun j=> [eE s j,eO s j]
theorem M4 (s:Str) (n:Nat) (h:n<(aQ s.js).length):zV s (n+1)=zV s n++ [eE s (aQ s.js)[n],eO s (aQ s.js)[n]]:=by
 unfold zV
 rw[List.take_add_one,List.getElem?_eq_getElem h,List.flatMap_append]
 simp
theorem qR (s:Str): ∀n,n≤(aQ s.js).length→(zV s n).length=2*n
 | 0, _ => by simp [zV]
 | n + 1, h => by
   rw[M4 s n (by omega),List.length_append,qR s n (by omega)]
   simp;omega
@[simp] theorem mW (s : Str) (j : Int) : (eE s j).length = s.ms.length := by simp [eE]
@[simp] theorem mN (s : Str) (j : Int) : (eO s j).length = s.ms.length := by simp [eO]
theorem zK {s:Str} {k:Nat} (h:k<s.ms.length):mat s k=s.ms[k]:=by simp[mat,h]
theorem Kv {s:Str} (hs:SOk s) {m:Mb} (hm:m∈s.ms):(-100≤vx s m∧vx s m≤100)∧(-100≤vy s m∧vy s m≤100):=by
 obtain⟨⟨a1,a2⟩,⟨b1,b2⟩⟩:=hs.ix _ hm
 have ca:=hs.at a1 a2
 have cb:=hs.at b1 b2
 unfold vx vy
 omega
structure Zp where
 i:Nat
 g:Int
 els:List (List V)
 gs:List Int
 b:Int→Option Blk
theorem lR (xs:List (List V)) (z:List V) (i:Nat) (h:i<xs.length) (hz:xs[i]=z):part xs z i=part xs z (i+1):=by
 rw[←cI xs z i h z hz.symm]
 have:=dW xs z i h
 apply List.ext_getElem?
 intro j
 rw[List.getElem?_set]
 split
 ·rename_i e;subst e;rw[if_pos (by rw[xE];exact h)];exact this
 ·rfl
def Rn (bl:Int→Option Blk) (s:Str) (p:Zp):Prop:=
 p.i≤(aQ s.js).length∧p.b p.g=some ⟨1,p.els⟩∧p.els.length=2*p.i∧OwnR p.b 1 ((zV s p.i).map fun w=> [fl 1 (iv w)]) p.els p.gs∧p.g∉p.gs∧bl p.g=none∧(∀x,x∈p.gs→bl x=none)∧Sub bl p.b∧(p.g<0→p.els= [])
theorem tH {bl:Int→Option Blk} {s:Str} {i:Nat} {g:Int} {els:List (List V)} {gs:List Int} {b:Int→Option Blk} (H:Rn bl s ⟨i,g,els,gs,b⟩) (h:i<(aQ s.js).length)
  {ga gb gp gn:Int} (hga:0≤ga) (hba:b ga=none) (hgb:0≤gb) (hab: ¬gb=ga) (hbb:b gb=none) (hpa: ¬gp=ga) (hpb: ¬gp=gb) (hbp:b gp=none) (hgn:0≤gn)
  (hbn: ¬gn=g→ ¬gn=gp∧ ¬gn=gb∧ ¬gn=ga∧b gn=none):
  Rn bl s ⟨i+1,gn,els++ [[.lsl ga 1 0 s.ms.length]]++ [[.lsl gb 1 0 s.ms.length]],gs++ [ga]++ [gb],
   upd (rem (upd (upd (upd b ga (some ⟨1,iv (eE s (aQ s.js)[i])⟩)) gb (some ⟨1,iv (eO s (aQ s.js)[i])⟩)) gp (some ⟨1,[[.lsl ga 1 0 s.ms.length],[.lsl gb 1 0 s.ms.length]]⟩)) g) gn
    (some ⟨1,els.take (2*i)++ [[.lsl ga 1 0 s.ms.length],[.lsl gb 1 0 s.ms.length]]⟩)⟩:=by
 obtain⟨hi,hb,hel,ho,hn,hg,hf,hsb,cK⟩:=H
 simp only at hi hb hel ho hn hg hf hsb cK
 have nga:ga≠g:=fun e=>by rw[e,hb] at hba;cases hba
 have ngb:gb≠g:=fun e=>by rw[e,hb] at hbb;cases hbb
 have ngp:gp≠g:=fun e=>by rw[e,hb] at hbp;cases hbp
 have fa:=aR hsb hba
 have fb:=aR hsb hbb
 have fp:=aR hsb hbp
 have na:gn≠ga:=fun e=>by
  by_cases c:gn=g
  ·exact nga (e.symm.trans c)
  ·exact(hbn c).2.2.1 e
 have nb:gn≠gb:=fun e=>by
  by_cases c:gn=g
  ·exact ngb (e.symm.trans c)
  ·exact(hbn c).2.1 e
 have fn:bl gn=none:=by
  by_cases c:gn=g
  ·rw[c];exact hg
  ·exact aR hsb (hbn c).2.2.2
 have nn:gn∉gs:=by
  by_cases c:gn=g
  ·rw[c];exact hn
  ·exact ho.not (hbn c).2.2.2
 have key: ∀(B:Int→Option Blk) (u v w z:Option Blk),B=upd (rem (upd (upd (upd b ga u) gb v) gp w) g) gn z→ ∀x y,x≠g→x≠gn→b x=some y→B x=some y:=by
  intro B u v w z hB x y c1 c2 hx
  have c3:x≠ga:=fun e=>by rw[e,hba] at hx;cases hx
  have c4:x≠gb:=fun e=>by rw[e,hbb] at hx;cases hx
  have c5:x≠gp:=fun e=>by rw[e,hbp] at hx;cases hx
  rw[hB];simp[c1,c2,c3,c4,c5,hx]
 have vx1: ∀xs:List Int,(iv xs).all (fun r=>r.all V.cl)=true:=fun xs=>by simp[iv,V.cl]
 have vx2: ∀(xs:List Int) r,r∈iv xs→r.length=1:=fun xs r hr=>by
  simp[iv] at hr
  obtain⟨_,_,rfl⟩:=hr;rfl
 have et:els.take (2*i)=els:=List.take_of_length_le (by omega)
 refine⟨by simp only;omega,by simp[et],by simp[hel];omega,?_,?_,fn,?_,?_,fun e=>by simp only at e;omega⟩
 ·simp only
  rw[M4 s i h,List.map_append,show(∀(A:List (List D)) (x y:List Int),A++ [x,y].map (fun w=> [fl 1 (iv w)])=A++ [[fl 1 (iv x)]]++ [[fl 1 (iv y)]]) from fun A x y=>by simp]
  generalize hB:upd (rem (upd (upd (upd b ga (some ⟨1,iv (eE s (aQ s.js)[i])⟩)) gb (some ⟨1,iv (eO s (aQ s.js)[i])⟩)) gp (some ⟨1,[[.lsl ga 1 0 s.ms.length],[.lsl gb 1 0 s.ms.length]]⟩)) g) gn
    (some ⟨1,els.take (2*i)++ [[.lsl ga 1 0 s.ms.length],[.lsl gb 1 0 s.ms.length]]⟩)=B
  have o0:=ho.cU fun x hx y hy=>key _ _ _ _ _ hB.symm x y (fun e=>hn (e▸hx)) (fun e=>nn (e▸hx)) hy
  have oa:OwnD B (fl 1 (iv (eE s (aQ s.js)[i]))) (.lsl ga 1 0 s.ms.length) [ga]:=(tG (vx1 _) (vx2 _)).2 (.inr ⟨ga,by simp,rfl,by rw[←hB];simp[Ne.symm na,Ne.symm hpa,Ne.symm hab,nga],by omega⟩)
  have ob:OwnD B (fl 1 (iv (eO s (aQ s.js)[i]))) (.lsl gb 1 0 s.ms.length) [gb]:=(tG (vx1 _) (vx2 _)).2 (.inr ⟨gb,by simp,rfl,by rw[←hB];simp[Ne.symm nb,Ne.symm hpb,ngb],by omega⟩)
  refine OwnR.snoc (oL.2 ob) rfl (by simp) (OwnR.snoc (oL.2 oa) rfl (by simp) o0 ?_) ?_
  ·intro x hx hx2
   rw[List.mem_singleton] at hx2
   exact ho.not hba (hx2▸hx)
  ·intro x hx hx2
   rw[List.mem_singleton] at hx2
   subst hx2
   rcases List.mem_append.1 hx with hx | hx
   ·exact ho.not hbb hx
   ·rw[List.mem_singleton] at hx;exact hab hx
 ·simp[nn,na,nb]
 ·intro x hx
  simp at hx
  rcases hx with hx | hx | hx
  ·exact hf x hx
  ·rw[hx];exact fa
  ·rw[hx];exact fb
 ·intro x y hx
  exact key _ _ _ _ _ rfl x y (fun e=>by rw[e,hg] at hx;cases hx) (fun e=>by rw[e,fn] at hx;cases hx) (hsb x y hx)
set_option maxHeartbeats 2000000 in
theorem G5 (s:Str) (hs:SOk s):NW Tryz.prog 148 [.ptr s.c] (dII (gJ s)):=by
 have h6:=hs.nj
 have h8:=hs.nm
 have hfr:=jB s.js s.js.length
 change(aQ s.js).length≤s.js.length at hfr
 refine iD Tryz.func148 rfl rfl (by rw[Tryz.ntmps148];simp) fun bl=> ?_
 rw[Tryz.ntmps148,Tryz.results148]
 refine aC ?_
 simp
 refine aD (sH s (by omega)) ?_
 simp
 refine uQ 3 1 (by simp) fun g00 sZ=> ?_
 simp at sZ
 refine aJ (fun p:Zp=> [(0,.ptr s.c),(3,.lsl p.g 1 0 (2*p.i)),(13,.sl (iv (aQ s.js))),(14,.int .i64 (aQ s.js).length),(15,.int .i64 p.i)]) (fun p=>p.b)
  (Rn bl s)
  (fun p=>(aQ s.js).length - p.i) 82 ⟨0,g00,[],[],upd bl g00 (some ⟨1,[]⟩)⟩ ⟨Nat.zero_le _,by simp,rfl,by simp[zV,OwnR],by simp,sZ,by simp,by simp[sZ],fun _=>rfl⟩ ⟨rfl,by simp,by simp⟩ ?_
 rintro⟨i,g,els,gs,b⟩ ⟨hi,hb,hel,ho,hn,hg,hf,hsb,cK⟩
 simp only at hi hb hel ho hn hg hf hsb cK
 refine aC ?_
 simp
 refine⟨fun h=> ?_,fun h=> ?_⟩
 ·have q:=eK (aQ s.js) i h
  simp[h]
  obtain⟨j,hj⟩: ∃j,(aQ s.js)[i]=j:=⟨_,rfl⟩
  rw[hj]
  refine qT aM [0,1,2,3,4,6,7,8,9,10] 4 (by kernel_rfl) ?_
  simp[Str.c]
  refine jL (i:=5) (j:=11) (by kernel_rfl) rfl rfl rfl rfl ?_ ?_
  ·simp
   refine⟨by omega,by unfold maxLen;omega,fun ga hga hba=>⟨by simp[hba],?_⟩⟩
   refine jL (i:=11) (j:=12) (by kernel_rfl) rfl rfl rfl rfl ?_ ?_
   ·simp
    refine⟨by omega,by unfold maxLen;omega,fun gb hgb hab hbb=>⟨by simp[hba,hbb,hab],?_⟩⟩
    refine Dz 12 ?_
    simp
    refine⟨by simp[hba,hbb,hab],Dz 13 ?_⟩
    simp
    refine⟨by simp[hba,hbb,hab],Dy ?_⟩
    simp[Str.c]
    have nga:ga≠g:=fun e=>by rw[e,hb] at hba;cases hba
    have ngb:gb≠g:=fun e=>by rw[e,hb] at hbb;cases hbb
    have fa:=aR hsb hba
    have fb:=aR hsb hbb
    have er:List.replicate s.ms.length [V.int IntKind.i64 0]=part (iv (eE s j)) [.int .i64 0] 0:=by simp
    have er':List.replicate s.ms.length [V.int IntKind.i64 0]=part (iv (eO s j)) [.int .i64 0] 0:=by simp
    refine aJ (fun k:Nat=> [(0,.ptr s.c),(3,.lsl g 1 0 (2*i)),(5,.int .i64 j),(6,.lsl ga 1 0 s.ms.length),(7,.lsl gb 1 0 s.ms.length),(13,.sl (iv (aQ s.js))),(14,.int .i64 (aQ s.js).length),(15,.int .i64 i),(34,.sl (mv s.ms)),(35,.int .i64 s.ms.length),(36,.int .i64 k)])
     (fun k=>upd (upd b ga (some ⟨1,part (iv (eE s j)) [.int .i64 0] k⟩)) gb (some ⟨1,part (iv (eO s j)) [.int .i64 0] k⟩)) (fun k=>k≤s.ms.length) (fun k=>s.ms.length - k) 82 0 (Nat.zero_le _) ⟨rfl,by simp[Str.c],?_⟩ ?_
    ·intro x y hx
     simp only[aA,vN,jZ,mW,mN] at hx ⊢
     grind
    intro k hk
    refine aC ?_
    simp
    refine⟨fun hkl=> ?_,fun hkl=> ?_⟩
    ·have hv:=Kv hs (List.getElem_mem hkl)
     have hm:mat s (k:Int)=s.ms[k]:=zK hkl
     have B0:=vJ s k hs (by omega) (by omega)
     rw[hm] at B0
     have hx:k<(iv (eE s j)).length:=by simpa using hkl
     have hy:k<(iv (eO s j)).length:=by simpa using hkl
     have w1:IntKind.i64.wrap ((k:Int)+1)=k+1:=i64_in (by omega) (by omega)
     have nx:IntKind.i64.wrap (-vx s s.ms[k])= -vx s s.ms[k]:=i64_in (by omega) (by omega)
     have ny:IntKind.i64.wrap (-vy s s.ms[k])= -vy s s.ms[k]:=i64_in (by omega) (by omega)
     have px:=dW (iv (eE s j)) [.int .i64 0] k hx
     have py:=dW (iv (eO s j)) [.int .i64 0] k hy
     simp[hkl,Mb.c]
     intro g9 hg9 h9b h9a hb9
     refine aD B0 ?_
     simp
     refine⟨fun e1=> ?_,fun e1=> ?_⟩
     ·simp[hab,Ne.symm hab,h9a,h9b,Ne.symm h9a,Ne.symm h9b,hkl,px,py,w1,aB]
      have sx:=cI (iv (eE s j)) [.int .i64 0] k hx [.int .i64 (vx s s.ms[k])] (by simp[eE,eqX,e1])
      have sy:=cI (iv (eO s j)) [.int .i64 0] k hy [.int .i64 (vy s s.ms[k])] (by simp[eO,eqY,e1])
      refine⟨k+1,by omega,by omega,rfl,by simp,?_⟩
      intro x y hx'
      rw[←sx,←sy] at hx'
      simp only[aA] at hx' ⊢
      grind
     ·simp[hab,Ne.symm hab,h9a,h9b,Ne.symm h9a,Ne.symm h9b,hkl,px,py,w1,nx,ny,aB]
      refine⟨fun e2=> ?_,fun e2=> ?_⟩
      ·have fx:eqX s j s.ms[k]= -vx s s.ms[k]:=by rw[eqX,if_neg e1,if_pos e2]
       have fy:eqY s j s.ms[k]= -vy s s.ms[k]:=by rw[eqY,if_neg e1,if_pos e2]
       have sx:=cI (iv (eE s j)) [.int .i64 0] k hx [.int .i64 (-vx s s.ms[k])] (by simp[eE,fx])
       have sy:=cI (iv (eO s j)) [.int .i64 0] k hy [.int .i64 (-vy s s.ms[k])] (by simp[eO,fy])
       refine⟨k+1,by omega,by omega,rfl,by simp,?_⟩
       intro x y hx'
       rw[←sx,←sy] at hx'
       simp only[aA] at hx' ⊢
       grind
      ·have sx:=lR (iv (eE s j)) [.int .i64 0] k hx (by simp[eE,eqX,e1,e2])
       have sy:=lR (iv (eO s j)) [.int .i64 0] k hy (by simp[eO,eqY,e1,e2])
       refine⟨k+1,by omega,by omega,rfl,by simp,?_⟩
       intro x y hx'
       rw[←sx,←sy] at hx'
       simp only[aA] at hx' ⊢
       grind
    ·have:k=s.ms.length:=by omega
     subst this
     rw[fD _ _ _ (by simp),fD _ _ _ (by simp)]
     intro gp hgp hpb hpa hbp
     have npg:gp≠g:=fun e=>by rw[e,hb] at hbp;cases hbp
     have er2:List.range 2= [0,1]:=rfl
     simp[er2,appV,elsV,Int.not_lt.2 hgp,hpb,hpa,Ne.symm hpb,Ne.symm hpa,nga,ngb,Ne.symm nga,Ne.symm ngb,npg,Ne.symm npg,hb,hel]
     refine⟨by omega,fun gn hgn hbn=> ?_⟩
     have w9:IntKind.i64.wrap ((i:Int)+1)=i+1:=i64_in (by omega) (by omega)
     rw[aB]
     subst hj
     have nx:=tH ⟨hi,hb,hel,ho,hn,hg,hf,hsb,cK⟩ h hga hba hgb hab hbb hpa hpb hbp hgn hbn
     refine⟨_,nx,by simp only;omega,rfl,?_,sub_eq rfl⟩
     simp[w9];exact⟨rfl,by omega⟩
   ·simp
    refine⟨by simp[hba],Dz 11 ?_⟩
    simp
    refine⟨by omega,by unfold maxLen;omega,fun gb hgb hab hbb=>⟨by simp[hba,hbb,hab],?_⟩⟩
    refine Dz 13 ?_
    simp
    refine⟨by simp[hba,hbb,hab],Dy ?_⟩
    simp[Str.c]
    have nga:ga≠g:=fun e=>by rw[e,hb] at hba;cases hba
    have ngb:gb≠g:=fun e=>by rw[e,hb] at hbb;cases hbb
    have fa:=aR hsb hba
    have fb:=aR hsb hbb
    have er:List.replicate s.ms.length [V.int IntKind.i64 0]=part (iv (eE s j)) [.int .i64 0] 0:=by simp
    have er':List.replicate s.ms.length [V.int IntKind.i64 0]=part (iv (eO s j)) [.int .i64 0] 0:=by simp
    refine aJ (fun k:Nat=> [(0,.ptr s.c),(3,.lsl g 1 0 (2*i)),(5,.int .i64 j),(6,.lsl ga 1 0 s.ms.length),(7,.lsl gb 1 0 s.ms.length),(13,.sl (iv (aQ s.js))),(14,.int .i64 (aQ s.js).length),(15,.int .i64 i),(34,.sl (mv s.ms)),(35,.int .i64 s.ms.length),(36,.int .i64 k)])
     (fun k=>upd (upd b ga (some ⟨1,part (iv (eE s j)) [.int .i64 0] k⟩)) gb (some ⟨1,part (iv (eO s j)) [.int .i64 0] k⟩)) (fun k=>k≤s.ms.length) (fun k=>s.ms.length - k) 82 0 (Nat.zero_le _) ⟨rfl,by simp[Str.c],?_⟩ ?_
    ·intro x y hx
     simp only[aA,vN,jZ,mW,mN] at hx ⊢
     grind
    intro k hk
    refine aC ?_
    simp
    refine⟨fun hkl=> ?_,fun hkl=> ?_⟩
    ·have hv:=Kv hs (List.getElem_mem hkl)
     have hm:mat s (k:Int)=s.ms[k]:=zK hkl
     have B0:=vJ s k hs (by omega) (by omega)
     rw[hm] at B0
     have hx:k<(iv (eE s j)).length:=by simpa using hkl
     have hy:k<(iv (eO s j)).length:=by simpa using hkl
     have w1:IntKind.i64.wrap ((k:Int)+1)=k+1:=i64_in (by omega) (by omega)
     have nx:IntKind.i64.wrap (-vx s s.ms[k])= -vx s s.ms[k]:=i64_in (by omega) (by omega)
     have ny:IntKind.i64.wrap (-vy s s.ms[k])= -vy s s.ms[k]:=i64_in (by omega) (by omega)
     have px:=dW (iv (eE s j)) [.int .i64 0] k hx
     have py:=dW (iv (eO s j)) [.int .i64 0] k hy
     simp[hkl,Mb.c]
     intro g9 hg9 h9b h9a hb9
     refine aD B0 ?_
     simp
     refine⟨fun e1=> ?_,fun e1=> ?_⟩
     ·simp[hab,Ne.symm hab,h9a,h9b,Ne.symm h9a,Ne.symm h9b,hkl,px,py,w1,aB]
      have sx:=cI (iv (eE s j)) [.int .i64 0] k hx [.int .i64 (vx s s.ms[k])] (by simp[eE,eqX,e1])
      have sy:=cI (iv (eO s j)) [.int .i64 0] k hy [.int .i64 (vy s s.ms[k])] (by simp[eO,eqY,e1])
      refine⟨k+1,by omega,by omega,rfl,by simp,?_⟩
      intro x y hx'
      rw[←sx,←sy] at hx'
      simp only[aA] at hx' ⊢
      grind
     ·simp[hab,Ne.symm hab,h9a,h9b,Ne.symm h9a,Ne.symm h9b,hkl,px,py,w1,nx,ny,aB]
      refine⟨fun e2=> ?_,fun e2=> ?_⟩
      ·have fx:eqX s j s.ms[k]= -vx s s.ms[k]:=by rw[eqX,if_neg e1,if_pos e2]
       have fy:eqY s j s.ms[k]= -vy s s.ms[k]:=by rw[eqY,if_neg e1,if_pos e2]
       have sx:=cI (iv (eE s j)) [.int .i64 0] k hx [.int .i64 (-vx s s.ms[k])] (by simp[eE,fx])
       have sy:=cI (iv (eO s j)) [.int .i64 0] k hy [.int .i64 (-vy s s.ms[k])] (by simp[eO,fy])
       refine⟨k+1,by omega,by omega,rfl,by simp,?_⟩
       intro x y hx'
       rw[←sx,←sy] at hx'
       simp only[aA] at hx' ⊢
       grind
      ·have sx:=lR (iv (eE s j)) [.int .i64 0] k hx (by simp[eE,eqX,e1,e2])
       have sy:=lR (iv (eO s j)) [.int .i64 0] k hy (by simp[eO,eqY,e1,e2])
       refine⟨k+1,by omega,by omega,rfl,by simp,?_⟩
       intro x y hx'
       rw[←sx,←sy] at hx'
       simp only[aA] at hx' ⊢
       grind
    ·have:k=s.ms.length:=by omega
     subst this
     rw[fD _ _ _ (by simp),fD _ _ _ (by simp)]
     intro gp hgp hpb hpa hbp
     have npg:gp≠g:=fun e=>by rw[e,hb] at hbp;cases hbp
     have er2:List.range 2= [0,1]:=rfl
     simp[er2,appV,elsV,Int.not_lt.2 hgp,hpb,hpa,Ne.symm hpb,Ne.symm hpa,nga,ngb,Ne.symm nga,Ne.symm ngb,npg,Ne.symm npg,hb,hel]
     refine⟨by omega,fun gn hgn hbn=> ?_⟩
     have w9:IntKind.i64.wrap ((i:Int)+1)=i+1:=i64_in (by omega) (by omega)
     rw[aB]
     subst hj
     have nx:=tH ⟨hi,hb,hel,ho,hn,hg,hf,hsb,cK⟩ h hga hba hgb hab hbb hpa hpb hbp hgn hbn
     refine⟨_,nx,by simp only;omega,rfl,?_,sub_eq rfl⟩
     simp[w9];exact⟨rfl,by omega⟩
  ·simp
   refine⟨by omega,by unfold maxLen;omega,fun gb hgb hbb=>⟨by simp[hbb],?_⟩⟩
   refine Dz 5 ?_
   simp
   refine⟨by omega,by unfold maxLen;omega,fun ga hga hab hba=>⟨by simp[hba,hbb,hab],?_⟩⟩
   refine Dz 12 ?_
   simp
   refine⟨by simp[hba,hbb,hab],Dz 13 ?_⟩
   simp
   refine⟨by simp[hba,hbb,hab],Dy ?_⟩
   simp[Str.c]
   have nga:ga≠g:=fun e=>by rw[e,hb] at hba;cases hba
   have ngb:gb≠g:=fun e=>by rw[e,hb] at hbb;cases hbb
   have fa:=aR hsb hba
   have fb:=aR hsb hbb
   have er:List.replicate s.ms.length [V.int IntKind.i64 0]=part (iv (eE s j)) [.int .i64 0] 0:=by simp
   have er':List.replicate s.ms.length [V.int IntKind.i64 0]=part (iv (eO s j)) [.int .i64 0] 0:=by simp
   refine aJ (fun k:Nat=> [(0,.ptr s.c),(3,.lsl g 1 0 (2*i)),(5,.int .i64 j),(6,.lsl ga 1 0 s.ms.length),(7,.lsl gb 1 0 s.ms.length),(13,.sl (iv (aQ s.js))),(14,.int .i64 (aQ s.js).length),(15,.int .i64 i),(34,.sl (mv s.ms)),(35,.int .i64 s.ms.length),(36,.int .i64 k)])
    (fun k=>upd (upd b ga (some ⟨1,part (iv (eE s j)) [.int .i64 0] k⟩)) gb (some ⟨1,part (iv (eO s j)) [.int .i64 0] k⟩)) (fun k=>k≤s.ms.length) (fun k=>s.ms.length - k) 82 0 (Nat.zero_le _) ⟨rfl,by simp[Str.c],?_⟩ ?_
   ·intro x y hx
    simp only[aA,vN,jZ,mW,mN] at hx ⊢
    grind
   intro k hk
   refine aC ?_
   simp
   refine⟨fun hkl=> ?_,fun hkl=> ?_⟩
   ·have hv:=Kv hs (List.getElem_mem hkl)
    have hm:mat s (k:Int)=s.ms[k]:=zK hkl
    have B0:=vJ s k hs (by omega) (by omega)
    rw[hm] at B0
    have hx:k<(iv (eE s j)).length:=by simpa using hkl
    have hy:k<(iv (eO s j)).length:=by simpa using hkl
    have w1:IntKind.i64.wrap ((k:Int)+1)=k+1:=i64_in (by omega) (by omega)
    have nx:IntKind.i64.wrap (-vx s s.ms[k])= -vx s s.ms[k]:=i64_in (by omega) (by omega)
    have ny:IntKind.i64.wrap (-vy s s.ms[k])= -vy s s.ms[k]:=i64_in (by omega) (by omega)
    have px:=dW (iv (eE s j)) [.int .i64 0] k hx
    have py:=dW (iv (eO s j)) [.int .i64 0] k hy
    simp[hkl,Mb.c]
    intro g9 hg9 h9b h9a hb9
    refine aD B0 ?_
    simp
    refine⟨fun e1=> ?_,fun e1=> ?_⟩
    ·simp[hab,Ne.symm hab,h9a,h9b,Ne.symm h9a,Ne.symm h9b,hkl,px,py,w1,aB]
     have sx:=cI (iv (eE s j)) [.int .i64 0] k hx [.int .i64 (vx s s.ms[k])] (by simp[eE,eqX,e1])
     have sy:=cI (iv (eO s j)) [.int .i64 0] k hy [.int .i64 (vy s s.ms[k])] (by simp[eO,eqY,e1])
     refine⟨k+1,by omega,by omega,rfl,by simp,?_⟩
     intro x y hx'
     rw[←sx,←sy] at hx'
     simp only[aA] at hx' ⊢
     grind
    ·simp[hab,Ne.symm hab,h9a,h9b,Ne.symm h9a,Ne.symm h9b,hkl,px,py,w1,nx,ny,aB]
     refine⟨fun e2=> ?_,fun e2=> ?_⟩
     ·have fx:eqX s j s.ms[k]= -vx s s.ms[k]:=by rw[eqX,if_neg e1,if_pos e2]
      have fy:eqY s j s.ms[k]= -vy s s.ms[k]:=by rw[eqY,if_neg e1,if_pos e2]
      have sx:=cI (iv (eE s j)) [.int .i64 0] k hx [.int .i64 (-vx s s.ms[k])] (by simp[eE,fx])
      have sy:=cI (iv (eO s j)) [.int .i64 0] k hy [.int .i64 (-vy s s.ms[k])] (by simp[eO,fy])
      refine⟨k+1,by omega,by omega,rfl,by simp,?_⟩
      intro x y hx'
      rw[←sx,←sy] at hx'
      simp only[aA] at hx' ⊢
      grind
     ·have sx:=lR (iv (eE s j)) [.int .i64 0] k hx (by simp[eE,eqX,e1,e2])
      have sy:=lR (iv (eO s j)) [.int .i64 0] k hy (by simp[eO,eqY,e1,e2])
      refine⟨k+1,by omega,by omega,rfl,by simp,?_⟩
      intro x y hx'
      rw[←sx,←sy] at hx'
      simp only[aA] at hx' ⊢
      grind
   ·have:k=s.ms.length:=by omega
    subst this
    rw[fD _ _ _ (by simp),fD _ _ _ (by simp)]
    intro gp hgp hpb hpa hbp
    have npg:gp≠g:=fun e=>by rw[e,hb] at hbp;cases hbp
    have er2:List.range 2= [0,1]:=rfl
    simp[er2,appV,elsV,Int.not_lt.2 hgp,hpb,hpa,Ne.symm hpb,Ne.symm hpa,nga,ngb,Ne.symm nga,Ne.symm ngb,npg,Ne.symm npg,hb,hel]
    refine⟨by omega,fun gn hgn hbn=> ?_⟩
    have w9:IntKind.i64.wrap ((i:Int)+1)=i+1:=i64_in (by omega) (by omega)
    rw[aB]
    subst hj
    have nx:=tH ⟨hi,hb,hel,ho,hn,hg,hf,hsb,cK⟩ h hga hba hgb (Ne.symm hab) hbb hpa hpb hbp hgn hbn
    refine⟨_,nx,by simp only;omega,rfl,?_,sub_eq rfl⟩
    simp[w9];exact⟨rfl,by omega⟩
 ·have:i=(aQ s.js).length:=by omega
  subst this
  refine fH [.lsl g 1 0 (2*(aQ s.js).length)] (g::gs) (by simp) ?_ ?_ hsb
  ·unfold dII
   rw[OwnD]
   have e:gJ s=zV s (aQ s.js).length:=by simp[zV,gJ]
   refine .inr ⟨g,els,gs,by rw[e,List.length_map,qR s _ (Nat.le_refl _)];rfl,rfl,hn,hb,cK,?_⟩
   rw[e];exact ho
  ·intro x hx
   rcases List.mem_cons.1 hx with rfl | hx
   ·exact hg
   ·exact hf x hx

def oC (m:Mb) (k:Nat):List (Int×Int):=(if m.kind=2 then [] else [((k:Int),1)])++(if m.kind=1 then [] else [((k:Int), -1)])
def aT (ms:List Mb) (n:Nat):List (Int×Int):=(List.range n).flatMap fun k=>oC (ms.getD k default) k
def aS (ms:List Mb):List (Int×Int):=aT ms ms.length
def cv (cs:List (Int×Int)):List (List V):=cs.map fun p=> [.int .i64 p.1,.int .i64 p.2]
theorem jI (ms:List Mb) (n:Nat):aT ms (n+1)=aT ms n++oC (ms.getD n default) n:=by
 unfold aT
 rw[List.range_succ,List.flatMap_append];simp
theorem Uu (m:Mb) (k:Nat):(oC m k).length≤2:=by
 unfold oC;split<;>split<;>simp
theorem jJ (ms:List Mb): ∀n,(aT ms n).length≤2*n
 | 0 => by simp [aT]
 | n + 1 => by
   rw[jI,List.length_append]
   have:=jJ ms n
   have:=Uu (ms.getD n default) n
   omega
theorem rG (a b:List (Int×Int)):cv (a++b)=cv a++cv b:=by simp[cv]
@[simp] theorem Iy (a : List (Int × Int)) : (cv a).length = a.length := by simp [cv]
theorem tE (a:List (Int×Int)):(cv a).take a.length=cv a:=by rw[←Iy a,List.take_length]
theorem aIW (a:List (Int×Int)):(cv a).all (fun e=>e.all V.cl)=true:=by simp[cv,V.cl]
theorem Xs (a:List (Int×Int)): ∀r,r∈cv a→r.length=2:=by
 intro r hr
 obtain⟨n,_,rfl⟩:=List.mem_map.1 hr
 rfl
theorem aD7 {bl:Int→Option Blk} {ns:List (Int×Int)} {v:V} {gs:List Int} :OwnD bl (fl 2 (cv ns)) v gs ↔ (ns= []∧v= .nils∧gs= [])∨ ∃g,v= .lsl g 2 0 ns.length∧gs= [g]∧bl g=some ⟨2,cv ns⟩∧(g<0→ns= []):=by
 rw[tG (aIW ns) (Xs ns)]
 simp[cv]
theorem Dg (s:Str) (hm:s.ms.length≤8):NW Tryz.prog 146 [.ptr s.c] (fl 2 (cv (aS s.ms))):=by
 refine iD Tryz.func146 rfl rfl (by rw[Tryz.ntmps146];simp) fun bl=> ?_
 rw[Tryz.ntmps146,Tryz.results146]
 refine aC ?_
 simp[Str.c]
 refine uQ 3 2 (by simp) fun g00 sZ=> ?_
 refine aJ (fun p:Nat×Int=> [(3,.lsl p.2 2 0 (aT s.ms p.1).length),(9,.sl (mv s.ms)),(10,.int .i64 s.ms.length),(11,.int .i64 p.1)]) (fun p=>upd bl p.2 (some ⟨2,cv (aT s.ms p.1)⟩)) (fun p=>p.1≤s.ms.length∧bl p.2=none∧(p.2<0→aT s.ms p.1= [])) (fun p=>s.ms.length - p.1) _ (0,g00) ⟨Nat.zero_le _,sZ,fun _=>rfl⟩ ⟨rfl,by simp[aT],sub_eq (by simp[aT,cv])⟩ ?_
 rintro⟨i,g⟩ ⟨hi,hg,h0⟩
 simp only at hi hg h0
 have hl:=jJ s.ms i
 refine aC ?_
 simp
 refine⟨fun h=> ?_,fun h=> ?_⟩
 ·have w1:IntKind.i64.wrap ((i:Int)+1)=i+1:=i64_in (by omega) (by omega)
  have hsc:=jI s.ms i
  rw[gY _ _ _ h] at hsc
  simp[h,Mb.c]
  intro g1 hg1 h1g hb1
  refine⟨fun hf=> ?_,fun hf=> ?_⟩
  ·intro g2 hg2 h21 h2g hb2
   simp[h1g,h21,h2g,Ne.symm h1g,Ne.symm h21,Ne.symm h2g,appV,elsV,Int.not_lt.2 hg2]
   refine⟨by omega,fun g3 hg3 hb3=> ?_⟩
   have h31:g3≠g1:=by grind
   have fZ:bl g3=none:=by grind
   simp[h31,Ne.symm h31,h1g,h21,Ne.symm h1g,Ne.symm h21]
   refine⟨fun hf2=> ?_,fun hf2=> ?_⟩
   ·intro g4 hg4 h43 h42
    simp[h43,Ne.symm h43,h31,Ne.symm h31,appV,elsV,Int.not_lt.2 hg4]
    refine⟨by omega,fun g5 hg5 hb5=> ?_⟩
    have aUY:bl g5=none:=by grind
    have hb4:bl g4=none:=by grind
    have hs1:aT s.ms (i+1)=aT s.ms i++ [((i:Int),1)]++ [((i:Int), -1)]:=by rw[hsc,oC,if_neg hf,if_neg hf2,List.append_assoc]
    simp[w1,aB]
    refine⟨i+1,g5,⟨by omega,aUY,by omega⟩,by omega,rfl,by simp[hs1],?_⟩
    rw[hs1,rG,rG]
    exact dE (by rw[tE,List.take_of_length_le (by simp)];rfl) (by simp[hg,hb1,hb2,fZ,hb4,h1g,h21,h2g])
   ·have hs1:aT s.ms (i+1)=aT s.ms i++ [((i:Int),1)]:=by rw[hsc,oC,if_neg hf,if_pos hf2,List.append_nil]
    simp[w1,aB]
    refine⟨i+1,g3,⟨by omega,fZ,by omega⟩,by omega,rfl,by simp[hs1],?_⟩
    rw[hs1,rG]
    exact dE (by rw[tE];rfl) (by simp[hg,hb1,hb2,h1g,h21,h2g])
  ·refine⟨fun hf2=> ?_,fun hf2=> ?_⟩
   ·intro g2 hg2 h21 h2g hb2
    simp[h1g,h21,h2g,Ne.symm h1g,Ne.symm h21,Ne.symm h2g,appV,elsV,Int.not_lt.2 hg2]
    refine⟨by omega,fun g3 hg3 hb3=> ?_⟩
    have fZ:bl g3=none:=by grind
    have hs1:aT s.ms (i+1)=aT s.ms i++ [((i:Int), -1)]:=by rw[hsc,oC,if_pos hf,if_neg hf2,List.nil_append]
    simp[w1,aB]
    refine⟨i+1,g3,⟨by omega,fZ,by omega⟩,by omega,rfl,by simp[hs1],?_⟩
    rw[hs1,rG]
    exact dE (by rw[tE];rfl) (by simp[hg,hb1,hb2,h1g,h21,h2g])
   ·omega
 ·have hi:i=s.ms.length:=by omega
  subst hi
  refine fH [.lsl g 2 0 (aT s.ms s.ms.length).length] [g] (by simp) ?_ (by simpa using hg) (by simp[hg])
  refine aD7.2 (.inr ⟨g,rfl,rfl,by simp[aS],h0⟩)
theorem vP (a b:Int):iv [a,b]= [[.int .i64 a],[.int .i64 b]]:=rfl
theorem kJ (a:Int):iv [a]= [[.int .i64 a]]:=rfl
def who (s:Str):List Int:=(aS s.ms).map (·.1)
def sgn (s:Str):List Int:=(aS s.ms).map (·.2)
def dWS (s:Str):D:= .t [fl 1 (iv (who s)),fl 1 (iv (sgn s))]
structure Two where
 i:Nat
 g:Int
 h:Int
 b:Int→Option Blk
def Od (bl:Int→Option Blk) (A B:Nat→List Int) (n:Nat) (p:Two):Prop:=
 p.i≤n∧p.g≠p.h∧p.b p.g=some ⟨1,iv (A p.i)⟩∧p.b p.h=some ⟨1,iv (B p.i)⟩∧bl p.g=none∧bl p.h=none∧Sub bl p.b∧(p.g<0→A p.i= [])∧(p.h<0→B p.i= [])
set_option maxHeartbeats 1000000 in
theorem H6 (s:Str) (hm:s.ms.length≤8):NW Tryz.prog 192 [.agg s.c] (dWS s):=by
 refine iD Tryz.func192 rfl rfl (by rw[Tryz.ntmps192];simp) fun bl=> ?_
 rw[Tryz.ntmps192,Tryz.results192]
 refine aC ?_
 simp[Str.c]
 intro gs aAK hgs ga aL3 J3 Gp gb aX3 Vt aKV aNY
 simp[J3,Ne.symm J3,Vt,Ne.symm Vt,aKV,Ne.symm aKV]
 refine aJ (fun p:Two=> [(4,.lsl p.g 1 0 (aT s.ms p.i).length),(5,.lsl p.h 1 0 (aT s.ms p.i).length),(11,.sl (mv s.ms)),(12,.int .i64 s.ms.length),(13,.int .i64 p.i)]) (fun p=>p.b) (Od bl (fun n=>(aT s.ms n).map (·.1)) (fun n=>(aT s.ms n).map (·.2)) s.ms.length) (fun p=>s.ms.length - p.i) 41 ⟨0,ga,gb,upd (upd (upd bl gs (some ⟨2,[[.sl (jv s.js),.sl (mv s.ms)]]⟩)) ga (some ⟨1,[]⟩)) gb (some ⟨1,[]⟩)⟩ ⟨Nat.zero_le _,Ne.symm Vt,by simp[Ne.symm Vt,aT,iv],by simp[aT,iv],Gp,aNY,by simp[hgs,Gp,aNY],fun _=>rfl,fun _=>rfl⟩ ⟨rfl,by simp[aT],sub_eq (by simp)⟩ ?_
 rintro⟨i,g,h',b⟩ ⟨hi,hgh,hbg,hbh,hg,hh,hsb,h0,h1⟩
 simp only at hi hgh hbg hbh hg hh hsb h0 h1
 have hl:=jJ s.ms i
 have fr: ∀x,b x=none→bl x=none:=fun x hx=>aR hsb hx
 refine aC ?_
 simp
 refine⟨fun h=> ?_,fun h=> ?_⟩
 ·have w1:IntKind.i64.wrap ((i:Int)+1)=i+1:=i64_in (by omega) (by omega)
  have hsc:=jI s.ms i
  rw[gY _ _ _ h] at hsc
  have tkA:List.take (aT s.ms i).length (iv ((aT s.ms i).map (·.1)))=iv ((aT s.ms i).map (·.1)):=List.take_of_length_le (by simp)
  have Me: ∀x:List V,List.take ((aT s.ms i).length+1) (iv ((aT s.ms i).map (·.1))++ [x])=iv ((aT s.ms i).map (·.1))++ [x]:=fun x=>List.take_of_length_le (by simp)
  have Kk: ∀x:List V,List.take ((aT s.ms i).length+1) (iv ((aT s.ms i).map (·.2))++ [x])=iv ((aT s.ms i).map (·.2))++ [x]:=fun x=>List.take_of_length_le (by simp)
  have tkB:List.take (aT s.ms i).length (iv ((aT s.ms i).map (·.2)))=iv ((aT s.ms i).map (·.2)):=List.take_of_length_le (by simp)
  simp[h,Mb.c]
  intro g1 hg1 hb1
  have n1g:g1≠g:=fun e=>by rw[e,hbg] at hb1;cases hb1
  have n1h:g1≠h':=fun e=>by rw[e,hbh] at hb1;cases hb1
  refine⟨fun hf=> ?_,fun hf=> ?_⟩
  ·intro g2 hg2 h21 hb2
   have n2g:g2≠g:=fun e=>by rw[e,hbg] at hb2;cases hb2
   have n2h:g2≠h':=fun e=>by rw[e,hbh] at hb2;cases hb2
   simp[hbg,n1g,h21,n2g,Ne.symm n1g,Ne.symm h21,Ne.symm n2g,appV,elsV,Int.not_lt.2 hg2]
   refine⟨by omega,fun g3 hg3 hb3=> ?_⟩
   have n31:g3≠g1:=by grind
   have n3h:g3≠h':=by grind
   simp[n31,Ne.symm n31,n3h,Ne.symm n3h]
   intro g4 hg4 h43 hb4
   have n41:g4≠g1:=by grind
   have n4h:g4≠h':=by grind
   simp[hgh,Ne.symm hgh,hbh,n1h,Ne.symm n1h,n2h,Ne.symm n2h,n31,Ne.symm n31,n3h,Ne.symm n3h,n41,Ne.symm n41,n4h,Ne.symm n4h,h43,Ne.symm h43,appV,elsV,Int.not_lt.2 hg4]
   refine⟨by omega,fun g5 hg5 hb5=> ?_⟩
   have n51:g5≠g1:=by grind
   have n53:g5≠g3:=by grind
   simp[hgh,Ne.symm hgh,n1h,Ne.symm n1h,n31,Ne.symm n31,n51,Ne.symm n51,n41,Ne.symm n41,h21,Ne.symm h21,n1g,Ne.symm n1g]
   refine⟨fun hf2=> ?_,fun hf2=> ?_⟩
   ·intro g6 hg6 n65 hb6
    have n61:g6≠g1:=by grind
    have n63:g6≠g3:=by grind
    simp[n3h,Ne.symm n3h,n1g,Ne.symm n1g,n31,Ne.symm n31,hgh,Ne.symm hgh,n65,Ne.symm n65,n61,Ne.symm n61,n63,Ne.symm n63,n53,Ne.symm n53,h43,Ne.symm h43,appV,elsV,Int.not_lt.2 hg6,tkA,tkB]
    refine⟨by omega,fun g7 hg7 hb7=> ?_⟩
    have n71:g7≠g1:=by grind
    have n75:g7≠g5:=by grind
    simp[n71,Ne.symm n71,n75,Ne.symm n75]
    intro g8 hg8 n87 hb8
    have n81:g8≠g1:=by grind
    have n85:g8≠g5:=by grind
    simp[n71,Ne.symm n71,n75,Ne.symm n75,n81,Ne.symm n81,n85,Ne.symm n85,n87,Ne.symm n87,n65,Ne.symm n65,n53,Ne.symm n53,appV,elsV,Int.not_lt.2 hg8,tkA,tkB]
    refine⟨by omega,fun g9 hg9 hb9=> ?_⟩
    have n91:g9≠g1:=by grind
    have n97:g9≠g7:=by grind
    have e1:aT s.ms (i+1)=aT s.ms i++ [((i:Int),1)]++ [((i:Int), -1)]:=by rw[hsc,oC,if_neg hf,if_neg hf2,List.append_assoc]
    simp[w1,aB]
    refine⟨⟨i+1,g7,g9,_⟩,⟨by simp only;omega,by simp only;grind,?_,?_,by simp only;grind,by simp only;grind,?_,fun e=>by simp only at e;omega,fun e=>by simp only at e;omega⟩,by simp only;omega,rfl,by simp[e1],sub_eq rfl⟩
    ·simp[hgh,Ne.symm hgh,n1h,Ne.symm n1h,n31,Ne.symm n31,n51,Ne.symm n51,n53,Ne.symm n53,n41,Ne.symm n41,h43,Ne.symm h43,n71,Ne.symm n71,n75,Ne.symm n75,n61,Ne.symm n61,n63,Ne.symm n63,n81,n87,n85,Ne.symm n81,Ne.symm n85,Ne.symm n87,n91,n97,Ne.symm n91,Ne.symm n97,n3h,Ne.symm n3h,n4h,Ne.symm n4h,e1,aX,kJ,vP,tkA,tkB,Me,Kk]
    ·simp[hgh,Ne.symm hgh,n1h,Ne.symm n1h,n31,Ne.symm n31,n51,Ne.symm n51,n53,Ne.symm n53,n41,Ne.symm n41,h43,Ne.symm h43,n71,Ne.symm n71,n75,Ne.symm n75,n61,Ne.symm n61,n63,Ne.symm n63,n81,n87,n85,Ne.symm n81,Ne.symm n85,Ne.symm n87,n91,n97,Ne.symm n91,Ne.symm n97,n3h,Ne.symm n3h,n4h,Ne.symm n4h,e1,aX,kJ,vP,tkA,tkB,Me,Kk]
    ·intro x y hx
     have hbx:=hsb x y hx
     have ng:x≠g:=fun e=>by rw[e,hg] at hx;cases hx
     have nh:x≠h':=fun e=>by rw[e,hh] at hx;cases hx
     simp[aA,aF]
     grind
   ·skip
    have e1:aT s.ms (i+1)=aT s.ms i++ [((i:Int),1)]:=by rw[hsc,oC,if_neg hf,if_pos hf2,List.append_nil]
    simp[w1,aB]
    refine⟨⟨i+1,g3,g5,_⟩,⟨by simp only;omega,by simp only;grind,?_,?_,by simp only;grind,by simp only;grind,?_,fun e=>by simp only at e;omega,fun e=>by simp only at e;omega⟩,by simp only;omega,rfl,by simp[e1],sub_eq rfl⟩
    ·simp[hgh,Ne.symm hgh,n1h,Ne.symm n1h,n31,Ne.symm n31,n51,Ne.symm n51,n53,Ne.symm n53,n41,Ne.symm n41,h43,Ne.symm h43,n3h,Ne.symm n3h,n4h,Ne.symm n4h,e1,aX,kJ,vP,tkA,tkB,Me,Kk]
    ·simp[hgh,Ne.symm hgh,n1h,Ne.symm n1h,n31,Ne.symm n31,n51,Ne.symm n51,n53,Ne.symm n53,n41,Ne.symm n41,h43,Ne.symm h43,n3h,Ne.symm n3h,n4h,Ne.symm n4h,e1,aX,kJ,vP,tkA,tkB,Me,Kk]
    ·intro x y hx
     have hbx:=hsb x y hx
     have ng:x≠g:=fun e=>by rw[e,hg] at hx;cases hx
     have nh:x≠h':=fun e=>by rw[e,hh] at hx;cases hx
     simp[aA,aF]
     grind
  ·refine⟨fun hf2=> ?_,fun hf2=> ?_⟩
   ·intro g2 hg2 h21 hb2
    have n2g:g2≠g:=fun e=>by rw[e,hbg] at hb2;cases hb2
    have n2h:g2≠h':=fun e=>by rw[e,hbh] at hb2;cases hb2
    simp[hbg,n1g,h21,n2g,Ne.symm n1g,Ne.symm h21,Ne.symm n2g,appV,elsV,Int.not_lt.2 hg2]
    refine⟨by omega,fun g3 hg3 hb3=> ?_⟩
    have n31:g3≠g1:=by grind
    have n3h:g3≠h':=by grind
    simp[n31,Ne.symm n31,n3h,Ne.symm n3h]
    intro g4 hg4 h43 hb4
    have n41:g4≠g1:=by grind
    have n4h:g4≠h':=by grind
    simp[hgh,Ne.symm hgh,hbh,n1h,Ne.symm n1h,n2h,Ne.symm n2h,n31,Ne.symm n31,n3h,Ne.symm n3h,n41,Ne.symm n41,n4h,Ne.symm n4h,h43,Ne.symm h43,appV,elsV,Int.not_lt.2 hg4]
    refine⟨by omega,fun g5 hg5 hb5=> ?_⟩
    have n51:g5≠g1:=by grind
    have n53:g5≠g3:=by grind
    have e1:aT s.ms (i+1)=aT s.ms i++ [((i:Int), -1)]:=by rw[hsc,oC,if_pos hf,if_neg hf2,List.nil_append]
    simp[w1,aB]
    refine⟨⟨i+1,g3,g5,_⟩,⟨by simp only;omega,by simp only;grind,?_,?_,by simp only;grind,by simp only;grind,?_,fun e=>by simp only at e;omega,fun e=>by simp only at e;omega⟩,by simp only;omega,rfl,by simp[e1],sub_eq rfl⟩
    ·simp[hgh,Ne.symm hgh,n1h,Ne.symm n1h,n31,Ne.symm n31,n51,Ne.symm n51,n53,Ne.symm n53,n41,Ne.symm n41,h43,Ne.symm h43,n3h,Ne.symm n3h,n4h,Ne.symm n4h,e1,aX,kJ,vP,tkA,tkB,Me,Kk]
    ·simp[hgh,Ne.symm hgh,n1h,Ne.symm n1h,n31,Ne.symm n31,n51,Ne.symm n51,n53,Ne.symm n53,n41,Ne.symm n41,h43,Ne.symm h43,n3h,Ne.symm n3h,n4h,Ne.symm n4h,e1,aX,kJ,vP,tkA,tkB,Me,Kk]
    ·intro x y hx
     have hbx:=hsb x y hx
     have ng:x≠g:=fun e=>by rw[e,hg] at hx;cases hx
     have nh:x≠h':=fun e=>by rw[e,hh] at hx;cases hx
     simp[aA,aF]
     grind
   ·omega
 ·have hi:i=s.ms.length:=by omega
  subst hi
  refine fH [.lsl g 1 0 (aT s.ms s.ms.length).length,.lsl h' 1 0 (aT s.ms s.ms.length).length] [g,h'] (by simp) ?_ (by simp[hg,hh]) hsb
  unfold dWS
  rw[OwnD]
  exact⟨_,rfl,gS.2 ⟨_,_,[g],[h'],rfl,rfl,by simpa using hgh,dI.2 (.inr ⟨g,by simp[who,aS],rfl,hbg,h0⟩),dI.2 (.inr ⟨h',by simp[sgn,aS],rfl,hbh,h1⟩)⟩⟩
theorem nD (s:Str) (hm:s.ms.length≤8):RO Tryz.prog 192 [.agg s.c] (.tup [.sl (iv (who s)),.sl (iv (sgn s))]):=by
 have:=jA 2 (H6 s hm) (by simp[dWS,D.dep,D.depL,kV])
 simpa [dWS,D.fz,D.fzL] using this
theorem pQ (s:Str) (hm:s.ms.length≤8):RO Tryz.prog 146 [.ptr s.c] (.sl (cv (aS s.ms))):=by
 have:=jA 1 (Dg s hm) (kV _ _ 0)
 simpa using this
end Go.Proofs.YticmgmemnpcbbaaGreat.Vm

namespace Go.Proofs.YticmgmemnpcbbaaGreat.Vm
open Go Go.RowKit
set_option linter.unusedVariables false
section
variable {P : Program} {ops : Array Oper} {w0 : World} {M F : Nat → Prop} {a : Act} {w : World}
def late (tl:Nat→Bool) (l:Array Bool) (i:Nat):Bool:=tl i || (List.range l.size).any fun k=>tl k && l.getD k false
def DL (P:Program) (ops:Array Oper) (blK:Int→Option Blk) (tl:Nat→Bool) (K:St→Prop):Nat→Array Bool→St→Prop
 | 0, l, σ => Region.ready .any ops l = [] ∧ K σ
 | fuel + 1, l, σ => (Region.ready .any ops l = [] → K σ) ∧ ∀ i ∈ Region.ready .any ops l, D1 P ops i (fun σ' => (late tl l i = false → Sub blK σ'.bl) ∧ DL P ops blK tl K fuel (l.setIfInBounds i true) σ') σ
theorem Ap {blK:Int→Option Blk} {tl:Nat→Bool} {K:St→Prop} {Q:Exit→Act→World→Prop} {F0:Nat→Prop} (hQ: ∀σ F a w,(∀b,F0 b→F b)→Sim w0 M F σ a w→K σ→Q .normal a w):
  ∀(fuel:Nat) (l:Array Bool) (σ:St) (F:Nat→Prop) (a:Act) (w:World),(∀b,F0 b→F b)→DL P ops blK tl K fuel l σ→Sim w0 M F σ a w→wpAny P .any ops Q fuel l a w
 | 0, l, σ, F, a, w, hF, h, hs => ⟨h.1, hQ σ F a w hF hs h.2⟩
 | fuel + 1, l, σ, F, a, w, hF, h, hs => ⟨fun h0 => hQ σ F a w hF hs (h.1 h0), fun i hi => Am (h.2 i hi) hs fun σ' F' a' w' hF' hs' hk => Ap hQ fuel _ σ' F' a' w' (fun b hb => hF' b (hF b hb)) hk.2 hs'⟩
theorem Cf {id:Nat} {K:Ex→St→Prop} {σ:St} (hm:P.follows .mixedOrders=true) (blK:Int→Option Blk) {tl:Nat→Bool} (h:DL P ops blK tl (K .normal) ops.size (Array.replicate ops.size false) σ):AW P (.region id ops true) K σ:=by
 intro w0 M F a w hs
 refine wp_region_any hm (Ap (F0:=F) (w0:=w0) (M:=M) (fun σ' F' a' w' hF' hs' hK=>⟨.normal,σ',F',rfl,hF',hs',hK⟩) _ _ σ F a _ (fun _ h=>h) h ?_)
 have hsh:fE w { w with drawn:=w.drawn+1 } :=fun b c t f hc=>⟨c,f,hc,rfl⟩
 refine⟨⟨hs.mem.os,hs.mem.tape,hs.mem.output,hs.mem.size,hs.mem.frame,hs.mem.jU,hs.mem.fr,hs.mem.fin,hs.mem.own,fun g b hb=> ?_⟩,hs.size,fun t ht=> ?_,hs.defers⟩
 ·have hh: ∀b,F b→({ w with drawn:=w.drawn+1 } :World).heap[b]? =w.heap[b]? :=fun _ _=>rfl
  have hg:0≤g→({ w with drawn:=w.drawn+1 } :World).heap[g.toNat]? =w.heap[g.toNat]? :=fun _=>rfl
  refine cV.mono (fun _ h=>h) (fun h0 hFg=> ?_) hh hsh hg (hs.mem.blk g b hb)
  have:=hs.mem.blk g b hb
  unfold cV at this
  rw[if_neg (by omega)] at this
  exact this.1 hFg
 ·have hh: ∀b,F b→({ w with drawn:=w.drawn+1 } :World).heap[b]? =w.heap[b]? :=fun _ _=>rfl
  exact Rep.mono (fun _ h=>h) hh hsh (hs.sl t ht)
theorem Ar {blK:Int→Option Blk} {tl:Nat→Bool} {K:St→Prop} {i:Nat} {oi:Oper} {v:V} (hi:ops[i]? =some oi) (hti:tl i=false) (hT: ∀j oj,tl j=true→ops[j]? =some oj→ ∃e∈oj.after,Region.binds .any e=true∧e.on=i): ∀(fuel:Nat) (l:Array Bool) (σ:St),
  (∀j oj,ops[j]? =some oj→j≠i→l.getD j true=false→(∀e∈oj.after,Region.binds .any e=true→e.on≠i)→oi.apart ops oj=true)→(∀k,tl k=true→l.getD k false=false)→
  i∈Region.ready .any ops l→Sub blK σ.bl→DY P ops blK oi σ v→DL P ops blK tl K fuel (l.setIfInBounds i true) (σ.put oi.dst v)→DL P ops blK tl K (fuel+1) l σ:=by
 have hbl: ∀(σ:St),(σ.put oi.dst v).bl=σ.bl:=fun σ=>by cases oi.dst<;>rfl
 intro fuel
 induction fuel with
 | zero =>
   intro l σ _ hN hr hs hy H
   refine⟨fun h=>(by rw[h] at hr;cases hr),fun j hj=> ?_⟩
   by_cases hji:j=i
   ·subst hji;exact hy.step hi hs ⟨fun _=>by rw[hbl];exact hs,H⟩
   ·have:=ready_mono hj hji
    rw[H.1] at this
    cases this
 | succ fuel ih =>
   intro l σ xU hN hr hs hy H
   refine⟨fun h=>(by rw[h] at hr;cases hr),fun j hj=> ?_⟩
   by_cases hji:j=i
   ·subst hji;exact hy.step hi hs ⟨fun _=>by rw[hbl];exact hs,H⟩
   ·have h1:=H.2 j (ready_mono hj hji)
    obtain⟨R7,oj,hoj,bI⟩:=mem_ready.1 hj
    have Fv: ∀e∈oj.after,Region.binds .any e=true→e.on≠i:=fun e he hb heq=>by
     have h1:=bI e he hb
     have h0:=(mem_ready.1 hr).1
     rw[heq] at h1
     rcases Nat.lt_or_ge i l.size with h' | h'
     ·simp[h'] at h0 h1;rw[h0] at h1;cases h1
     ·simp[Array.getElem?_eq_none h'] at h1
    have h2:=DY.put hoj (xU j oj hoj hji R7 Fv) hy h1
    have C0: ∀k ok,ops[k]? =some ok→k≠i→(l.setIfInBounds j true).getD k true=false→
      (∀e∈ok.after,Region.binds .any e=true→e.on≠i)→oi.apart ops ok=true:=fun k ok hk hki hun hno=>by
     refine xU k ok hk hki ?_ hno
     by_cases hjk:j=k
     ·subst hjk;exact R7
     ·rw[getD_set_ne true hjk] at hun;exact hun
    refine S9 h2 fun σ' ⟨h3,h4,h5⟩=> ?_
    have htj:tl j=false:=by
     cases htl:tl j with
     | false => rfl
     | true =>
       obtain⟨e,he,hb,hon⟩:=hT j oj htl hoj
       exact absurd hon (Fv e he hb)
    have aNG:late tl (l.setIfInBounds i true) j=false:=by
     unfold late
     rw[htj,Bool.false_or,List.any_eq_false]
     intro k _ hk
     simp only[Bool.and_eq_true] at hk
     by_cases hki:i=k
     ·subst hki;rw[hti] at hk;cases hk.1
     ·rw[getD_set_ne false hki,hN k hk.1] at hk;cases hk.2
    have hN': ∀k,tl k=true→(l.setIfInBounds j true).getD k false=false:=fun k hk=>by
     by_cases hkj:j=k
     ·subst hkj;rw[htj] at hk;cases hk
     ·rw[getD_set_ne false hkj];exact hN k hk
    have h4:=h4 aNG
    rw[hbl] at h4
    refine⟨fun _=>h4,ih (l.setIfInBounds j true) σ' C0 hN' (ready_mono hr (Ne.symm hji)) h4 h3 ?_⟩
    rw[Array.setIfInBounds_comm _ _ hji]
    exact h5
theorem Bj {blK:Int→Option Blk} {tl:Nat→Bool} {K:St→Prop} (fuel:Nat): ∀(is:List Nat) (l:Array Bool) (σ:St),(∀i,i∈is→tl i=false)→(∀k,tl k=true→l.getD k false=false)→(∀i,i∈is→ ∀j oj,tl j=true→ops[j]? =some oj→ ∃e∈oj.after,Region.binds .any e=true∧e.on=i)→hoistB ops is l=true→Sub blK σ.bl→
  Hoist P ops blK is (DL P ops blK tl K fuel (iL is l)) σ→DL P ops blK tl K (fuel+is.length) l σ
 | [], l, σ, _, _, _, _, _, h => h
 | i :: is, l, σ, hI, hN, hT, hB, hs, h => by
   simp only[hoistB,Bool.and_eq_true] at hB
   obtain⟨⟨hr,hf⟩,hB'⟩:=hB
   unfold Hoist at h
   split at h
   ·rename_i o ho
    obtain⟨v,hy,hK⟩:=h
    have:fuel+(i::is).length=(fuel+is.length)+1:=by simp;omega
    rw[this]
    refine Ar ho (hI i List.mem_cons_self) (hT i List.mem_cons_self) _ _ _ (Region.free_spec ho hf) hN (by simpa using hr) hs hy (Bj fuel is _ _ (fun i hi=>hI i (List.mem_cons_of_mem _ hi)) (fun k hk=> ?_) (fun i hi=>hT i (List.mem_cons_of_mem _ hi)) hB' ?_ hK)
    ·by_cases hki:i=k
     ·subst hki;rw[hI i List.mem_cons_self] at hk;cases hk
     ·rw[getD_set_ne false hki];exact hN k hk
    cases o.dst<;>exact hs
   ·exact h.elim
end
theorem Jn {P:Program} {id:Nat} {ops:Array Oper} {K:Ex→St→Prop} {σ:St} (hm:P.follows .mixedOrders=true) (blK:Int→Option Blk) (hs:Sub blK σ.bl) (is:List Nat) (fuel n:Nat) (hn:(ops.size==fuel+is.length && is.all (fun i=>decide (i<ops.size))&& hoistB ops is (Array.replicate ops.size false)&& N7 ops (fun j=>decide (n≤j)) is && is.all (fun i=>decide (i<n)))=true)
  (h:HoistF P (ops.toList.map (·.dst)) blK (is.filterMap fun i=>ops[i]?) (DL P ops blK (fun j=>decide (n≤j)) (K .normal) fuel (iL is (Array.replicate ops.size false))) σ):AW P (.region id ops true) K σ:=by
 simp only[Bool.and_eq_true,beq_iff_eq] at hn
 refine Cf hm blK (tl:=fun j=>decide (n≤j)) ?_
 have:=Bj (P:=P) (ops:=ops) (blK:=blK) (tl:=fun j=>decide (n≤j)) (K:=K .normal) fuel is (Array.replicate ops.size false) σ
  (fun i hi=>by have:=List.all_eq_true.1 hn.2 i hi;simp at this ⊢;exact this) (fun k _=>by
    rw[Array.getD_eq_getD_getElem?,Array.getElem?_replicate];split<;>rfl) (lY hn.1.2) hn.1.1.2 hs (gL _ is σ (filter_some is hn.1.1.1.2) h)
 rw[←hn.1.1.1.1] at this
 exact this
section
variable {P : Program} {ops : Array Oper} {blK : Int → Option Blk} {tl : Nat → Bool} {K : St → Prop} {fuel : Nat} {l : Array Bool} {σ : St}
theorem Xq (hr:Region.ready .any ops l= []) (h:K σ):DL P ops blK tl K fuel l σ:=by
 cases fuel with
 | zero => exact ⟨hr, h⟩
 | succ n => exact ⟨fun _ => h, fun i hi => by rw [hr] at hi; cases hi⟩
theorem L4 {i:Nat} {o:Oper} {e:Bool} (ho:ops[i]? =some o) (hg:o.guard=none) (he:late tl l i=e) (h:T P o (fun σ'=>(e=false→Sub blK σ'.bl)∧DL P ops blK tl K fuel (l.setIfInBounds i true) σ') σ):
  D1 P ops i (fun σ'=>(late tl l i=false→Sub blK σ'.bl)∧DL P ops blK tl K fuel (l.setIfInBounds i true) σ') σ:=by
 subst he;unfold D1;rw[ho];simp only[hg];exact h
theorem aBC {i:Nat} {o:Oper} (e:Bool) (hr:Region.ready .any ops l= [i]) (ho:ops[i]? =some o) (hg:o.guard=none) (he:late tl l i=e) (h:T P o (fun σ'=>(e=false→Sub blK σ'.bl)∧DL P ops blK tl K fuel (l.setIfInBounds i true) σ') σ):DL P ops blK tl K (fuel+1) l σ:=by
 refine⟨fun h0=>(by rw[hr] at h0;cases h0),fun k hk=> ?_⟩
 rw[hr] at hk
 obtain rfl:k=i:=by simpa using hk
 exact L4 ho hg he h
theorem aAF {i j:Nat} {o p:Oper} (e f:Bool) (hr:Region.ready .any ops l= [i,j]) (ho:ops[i]? =some o) (hg:o.guard=none) (he:late tl l i=e) (ho':ops[j]? =some p) (hg':p.guard=none) (he':late tl l j=f)
  (h:T P o (fun σ'=>(e=false→Sub blK σ'.bl)∧DL P ops blK tl K fuel (l.setIfInBounds i true) σ') σ)
  (h':T P p (fun σ'=>(f=false→Sub blK σ'.bl)∧DL P ops blK tl K fuel (l.setIfInBounds j true) σ') σ):DL P ops blK tl K (fuel+1) l σ:=by
 refine⟨fun h0=>(by rw[hr] at h0;cases h0),fun k hk=> ?_⟩
 rw[hr] at hk
 rcases List.mem_cons.1 hk with rfl | hk
 ·exact L4 ho hg he h
 ·obtain rfl:k=j:=by simpa using hk
  exact L4 ho' hg' he' h'
theorem uY {i j m:Nat} {o p q:Oper} (e f g:Bool) (hr:Region.ready .any ops l= [i,j,m]) (ho:ops[i]? =some o) (hg:o.guard=none) (he:late tl l i=e) (ho':ops[j]? =some p) (hg':p.guard=none) (he':late tl l j=f) (ho2:ops[m]? =some q) (hg2:q.guard=none) (he2:late tl l m=g)
  (h:T P o (fun σ'=>(e=false→Sub blK σ'.bl)∧DL P ops blK tl K fuel (l.setIfInBounds i true) σ') σ)
  (h':T P p (fun σ'=>(f=false→Sub blK σ'.bl)∧DL P ops blK tl K fuel (l.setIfInBounds j true) σ') σ)
  (h2:T P q (fun σ'=>(g=false→Sub blK σ'.bl)∧DL P ops blK tl K fuel (l.setIfInBounds m true) σ') σ):DL P ops blK tl K (fuel+1) l σ:=by
 refine⟨fun h0=>(by rw[hr] at h0;cases h0),fun k hk=> ?_⟩
 rw[hr] at hk
 rcases List.mem_cons.1 hk with rfl | hk
 ·exact L4 ho hg he h
 ·rcases List.mem_cons.1 hk with rfl | hk
  ·exact L4 ho' hg' he' h'
  ·obtain rfl:k=m:=by simpa using hk
   exact L4 ho2 hg2 he2 h2
end
def Vg (P:Program) (y:Code) (K:Ex→St→Prop) (e:Ex) (σ:St):Prop:=match e with | .normal=>AW P y K σ | .exit i=>K (.exit i) σ | .ret=>K .ret σ
@[simp] theorem Zx (P : Program) (y : Code) (K : Ex → St → Prop) (σ : St) : Vg P y K .normal σ = AW P y K σ := rfl
@[simp] theorem aGJ (P : Program) (y : Code) (K : Ex → St → Prop) (i : Nat) (σ : St) : Vg P y K (.exit i) σ = K (.exit i) σ := rfl
@[simp] theorem aOH (P : Program) (y : Code) (K : Ex → St → Prop) (σ : St) : Vg P y K .ret σ = K .ret σ := rfl
theorem aE {P:Program} {x y:Code} {K:Ex→St→Prop} {σ:St} (h:runC P x (Vg P y K) σ):AW P (.seq x y) K σ:=by
 refine aN ((aC h).mono fun e σ' h'=> ?_)
 cases e with
 | normal => exact h'
 | exit i => exact h'
 | ret => exact h'
def aBX {α:Type} (S:α→List (Nat×V)) (B:α→Int→Option Blk) (I:α→Prop) (n:Nat) (e:Ex) (σ:St):Prop:=e= .normal∧ ∃a,I a∧Fit (S a) n (B a) σ
theorem aH {α:Type} (S:α→List (Nat×V)) (B:α→Int→Option Blk) (I:α→Prop) (n:Nat) (σ:St):aBX S B I n .normal σ= ∃a,I a∧Fit (S a) n (B a) σ:=by simp[aBX]
theorem gH {α:Type} {P:Program} {x y:Code} {K:Ex→St→Prop} {σ:St} (S:α→List (Nat×V)) (B:α→Int→Option Blk) (I:α→Prop) (n:Nat) (h1:AW P x (aBX S B I n) σ)
  (h2: ∀a,I a→AW P y K ⟨n,hv (S a),B a⟩):AW P (.seq x y) K σ:=by
 refine aN (h1.mono fun e σ' ⟨he,a,hI,hf⟩=> ?_)
 subst he
 exact dH _ _ _ hf (h2 a hI)
section
variable (P : Program) (ds : List (Option Tmp)) (blK : Int → Option Blk) (rest : List Oper) (K : St → Prop) (σ : St) (d : Option Tmp) (ty : TypeId) (pos : String) (af : Array Edge)
@[simp high] theorem Ub (f : Operand) (args : Array Operand) (ats : Array TypeId) : HoistF P ds blK (⟨d, .call ⟨.value f, args, ats⟩, ty, pos, af, none⟩ :: rest) K σ = hcQ P ds blK rest K σ d (callV σ f args.toList) := (rfl)
@[simp high] theorem Wn (x : Operand) (t : TypeId) : HoistF P ds blK (⟨d, .call ⟨.builtin .len, #[x], #[t]⟩, ty, pos, af, none⟩ :: rest) K σ = hoQ P ds blK rest K σ d (lenV P t (σ.ev x)) := (rfl)
@[simp high] theorem Ud (c a b : Operand) : HoistF P ds blK (⟨d, .pick c a b, ty, pos, af, none⟩ :: rest) K σ = hoQ P ds blK rest K σ d (qval P blK σ (.pick c a b)) := (rfl)
@[simp high] theorem Ua (t : TypeId) (x : Operand) : HoistF P ds blK (⟨d, .load t x, ty, pos, af, none⟩ :: rest) K σ = hoQ P ds blK rest K σ d (qval P blK σ (.load t x)) := (rfl)
@[simp high] theorem Hm (x : Operand) : HoistF P ds blK (⟨d, .nilCheck x, ty, pos, af, none⟩ :: rest) K σ = hoQ P ds blK rest K σ d (Ff (σ.ev x)) := (rfl)
@[simp high] theorem Qr (op : BinOp) (t : TypeId) (x y : Operand) (t' : TypeId) : HoistF P ds blK (⟨d, .binOp op t x y t', ty, pos, af, none⟩ :: rest) K σ = hoQ P ds blK rest K σ d (binV P op t (σ.ev x) (σ.ev y)) := (rfl)
@[simp high] theorem Ue (op : UnOp) (t : TypeId) (x : Operand) : HoistF P ds blK (⟨d, .unOp op t x, ty, pos, af, none⟩ :: rest) K σ = hoQ P ds blK rest K σ d (unV op (σ.ev x)) := (rfl)
@[simp high] theorem Lv (s t : TypeId) (x : Operand) : HoistF P ds blK (⟨d, .convert s t x, ty, pos, af, none⟩ :: rest) K σ = hoQ P ds blK rest K σ d (cvtV P blK s t (σ.ev x)) := (rfl)
@[simp high] theorem Ti (t : TypeId) (x : Operand) (lo hi : Option Operand) : HoistF P ds blK (⟨d, .slice t x lo hi none, ty, pos, af, none⟩ :: rest) K σ = hoQ P ds blK rest K σ d (sliV P t (σ.ev x) (lo.map σ.ev) (hi.map σ.ev)) := (rfl)
@[simp high] theorem Dc (t : TypeId) (x : Operand) (i : Nat) : HoistF P ds blK (⟨d, .fieldAddr t x i, ty, pos, af, none⟩ :: rest) K σ = hoQ P ds blK rest K σ d (fldV P t i (σ.ev x)) := (rfl)
@[simp high] theorem Po (t : TypeId) (x : Operand) (i : Nat) : HoistF P ds blK (⟨d, .field t x i, ty, pos, af, none⟩ :: rest) K σ = hoQ P ds blK rest K σ d (fieldV P t i (σ.ev x)) := (rfl)
@[simp high] theorem Gb (t : TypeId) (x i : Operand) : HoistF P ds blK (⟨d, .indexAddr t x i, ty, pos, af, none⟩ :: rest) K σ = hoQ P ds blK rest K σ d (idxV P t (σ.ev x) (σ.ev i)) := (rfl)
@[simp high] theorem Ry (t : TypeId) (x i : Operand) : HoistF P ds blK (⟨d, .index t x i, ty, pos, af, none⟩ :: rest) K σ = hoQ P ds blK rest K σ d (idsV P t (σ.ev x) (σ.ev i)) := (rfl)
@[simp high] theorem Jm (x : Operand) (i : Nat) : HoistF P ds blK (⟨d, .extract x i, ty, pos, af, none⟩ :: rest) K σ = hoQ P ds blK rest K σ d (extV i (σ.ev x)) := (rfl)
end
def hgQ (P:Program) (ds:List (Option Tmp)) (blK:Int→Option Blk) (rest:List Oper) (K:St→Prop) (σ:St) (d:Option Tmp) (op:Op) (b:Bool) (v:V):Prop:=match v with
 | .bool q => if q = b then bN (qval P blK σ op) fun v => HoistF P ds blK rest K (σ.put d v) else HoistF P ds blK rest K (σ.put d (.tup []))
 | .tup [] => HoistF P ds blK rest K (σ.put d (.tup []))
 | _ => False
def hgS (P:Program) (ds:List (Option Tmp)) (blK:Int→Option Blk) (rest:List Oper) (K:St→Prop) (σ:St) (d:Option Tmp) (op:Op) (b:Bool) (x:Option (Option Tmp)):Prop:=match x with
 | some (some t) => hgQ P ds blK rest K σ d op b (σ.ev (.tmp t))
 | _ => False
section
variable (P : Program) (ds : List (Option Tmp)) (blK : Int → Option Blk) (rest : List Oper) (K : St → Prop) (σ : St) (d : Option Tmp) (op : Op) (ty : TypeId) (pos : String) (af : Array Edge) (b : Bool)
@[simp] theorem Wl (j : Nat) : HoistF P ds blK (⟨d, op, ty, pos, af, some (j, b)⟩ :: rest) K σ = hgS P ds blK rest K σ d op b (ds[j]?) := (rfl)
@[simp] theorem aIC (t : Tmp) : hgS P ds blK rest K σ d op b (some (some t)) = hgQ P ds blK rest K σ d op b (σ.ev (.tmp t)) := (rfl)
@[simp] theorem aVZ : hgQ P ds blK rest K σ d op true (.bool true) = hoQ P ds blK rest K σ d (qval P blK σ op) := by simp [hgQ, hoQ]
@[simp] theorem aUE : hgQ P ds blK rest K σ d op false (.bool false) = hoQ P ds blK rest K σ d (qval P blK σ op) := by simp [hgQ, hoQ]
@[simp] theorem aTE : hgQ P ds blK rest K σ d op true (.bool false) = HoistF P ds blK rest K (σ.put d (.tup [])) := by simp [hgQ]
@[simp] theorem aU6 : hgQ P ds blK rest K σ d op false (.bool true) = HoistF P ds blK rest K (σ.put d (.tup [])) := by simp [hgQ]
@[simp] theorem aJJ : hgQ P ds blK rest K σ d op b (.tup []) = HoistF P ds blK rest K (σ.put d (.tup [])) := (rfl)
end
theorem oO {P:Program} {ds:List (Option Tmp)} {blK:Int→Option Blk} {K:St→Prop} (S:List (Option Tmp)) (σ0:St): ∀(l:List Oper) (σ:St),HoistF P ds blK l K σ→(∀o,o∈l→o.dst∈S)→(σ.n=σ0.n∧ ∀t,some t∉S→σ.sl t=σ0.sl t)→
  HoistF P ds blK l (fun σ'=>K σ'∧σ'.n=σ0.n∧ ∀t,some t∉S→σ'.sl t=σ0.sl t) σ
 | [], σ, h, _, h0 => ⟨h, h0⟩
 | o :: rest, σ, h, hS, h0 => by
   have next: ∀v,HoistF P ds blK rest K (σ.put o.dst v)→HoistF P ds blK rest (fun σ'=>K σ'∧σ'.n=σ0.n∧ ∀t,some t∉S→σ'.sl t=σ0.sl t) (σ.put o.dst v):=fun v hv=>
    oO S σ0 rest _ hv (fun o' ho'=>hS o' (List.mem_cons_of_mem _ ho')) (by
     have hd:=hS o List.mem_cons_self
     cases hod:o.dst with
     | none => exact h0
     | some d =>
       rw[hod] at hd
       exact⟨h0.1,fun t ht=>by
        show upd σ.sl d v t=_
        rw[aG _ _ _ _ (fun e=>ht (by rw[e];exact hd))];exact h0.2 t ht⟩)
   unfold HoistF at h ⊢
   cases hg:o.guard with
   | none=>
     simp only[hg] at h ⊢
     split at h
     ·obtain⟨p,h1,v,n,ys,h2,h3⟩:=h
      exact⟨p,h1,v,n,ys,h2,next v h3⟩
     ·obtain⟨v,h1,h2⟩:=h
      exact⟨v,h1,next v h2⟩
   | some jb=>
     obtain⟨j,b⟩:=jb
     simp only[hg] at h ⊢
     split at h
     ·rename_i d hd
      split at h
      ·split at h
       ·rename_i hq
        obtain⟨v,h1,h2⟩:=h
        rw[if_pos hq]
        exact⟨v,h1,next v h2⟩
       ·rename_i hq
        rw[if_neg hq]
        exact next _ h
      ·exact next _ h
      ·exact h.elim
     ·exact h.elim
theorem He {f:Nat→V} : ∀(l:List (Nat×V)),(∀p,p∈l→f p.1=p.2)→ ∀p,p∈l→hv l p.1=f p.1
 | [], _, p, hp => by cases hp
 | (u, y) :: r, h, p, hp => by
   unfold hv
   by_cases e:p.1=u
   ·rw[if_pos e,e];exact(h (u,y) List.mem_cons_self).symm
   ·rw[if_neg e]
    rcases List.mem_cons.1 hp with rfl | hp
    ·exact absurd rfl e
    ·exact He r (fun q hq=>h q (List.mem_cons_of_mem _ hq)) p hp
theorem uR {P:Program} {id:Nat} {ops:Array Oper} {K:Ex→St→Prop} {σ:St} (hm:P.follows .mixedOrders=true) (hB:zM ops=true) (l:List (Nat×V)) (n:Nat) (bl:Int→Option Blk) (t:Nat) (v:V) (hf:Fit l n bl σ) (hd:(l.all fun p=> !(ops.toList.map (·.dst)).contains (some p.1))=true)
  (h1:HoistF P (ops.toList.map (·.dst)) bl ops.toList (fun σ'=>σ'.sl t=v∧σ'.bl=bl) ⟨n,hv l,bl⟩) (h2:K .normal ⟨n,hv ((t,v)::l),bl⟩):AW P (.region id ops true) K σ:=by
 refine dH l n bl hf ?_
 have hq:AW P (.region id ops true) (fun e σ'=>e= .normal∧(σ'.sl t=v∧σ'.bl=bl)∧σ'.n=n∧ ∀u,some u∉ops.toList.map (·.dst)→σ'.sl u=hv l u) ⟨n,hv l,bl⟩:=by
  refine bW hm hB ?_
  have:=oO (ops.toList.map (·.dst)) ⟨n,hv l,bl⟩ ops.toList ⟨n,hv l,bl⟩ h1 (fun o ho=>List.mem_map_of_mem ho) ⟨rfl,fun _ _=>rfl⟩
  simpa using this
 intro w0 M F a w hs
 refine wp_mono (hq w0 M F a w hs) fun e a' w' hp=> ?_
 obtain⟨ex,σ',F',e1,e2,e3,rfl,⟨k1,k2⟩,k3,k4⟩:=hp
 refine⟨.normal,⟨n,hv ((t,v)::l),bl⟩,F',e1,e2,e3.le ?_,h2⟩
 refine O7 ⟨k3,fun p hp=> ?_,by rw[k2];exact Sub.refl _⟩
 rcases List.mem_cons.1 hp with rfl | hp
 ·exact k1
 ·have:=List.all_eq_true.1 hd p hp
  have h5:some p.1∉ops.toList.map (·.dst):=by
   intro hc
   rw[Bool.not_eq_true'] at this
   have h6:=List.contains_iff_mem.2 hc
   rw[this] at h6;cases h6
  rw[k4 _ h5,He l hf.2.1 p hp,hf.2.1 p hp]
theorem Vr {P:Program} {id:Nat} {ops:Array Oper} {K:Ex→St→Prop} {σ:St} (l:List (Nat×V)) (n:Nat) (bl:Int→Option Blk) (t:Nat) (v:V) (hf:Fit l n bl σ) (hd:(l.all fun p=> !(ops.toList.map (·.dst)).contains (some p.1))=true)
  (h1:OpsF P (ops.toList.map (·.dst)) ops.toList (fun σ'=>σ'.sl t=v∧Sub bl σ'.bl) ⟨n,hv l,bl⟩) (h2:K .normal ⟨n,hv ((t,v)::l),bl⟩):AW P (.region id ops false) K σ:=by
 refine dH l n bl hf ?_
 have hq:AW P (.region id ops false) (fun e σ'=>e= .normal∧(σ'.sl t=v∧Sub bl σ'.bl)∧σ'.n=n∧ ∀u,some u∉ops.toList.map (·.dst)→σ'.sl u=hv l u) ⟨n,hv l,bl⟩:=by
  refine wH ?_
  exact Bc _ (K0 _ (vV h1)) fun σ' h=>⟨rfl,h⟩
 intro w0 M F a w hs
 refine wp_mono (hq w0 M F a w hs) fun e a' w' hp=> ?_
 obtain⟨ex,σ',F',e1,e2,e3,rfl,⟨k1,k2⟩,k3,k4⟩:=hp
 refine⟨.normal,⟨n,hv ((t,v)::l),bl⟩,F',e1,e2,e3.le ?_,h2⟩
 refine O7 ⟨k3,fun p hp=> ?_,k2⟩
 rcases List.mem_cons.1 hp with rfl | hp
 ·exact k1
 ·have:=List.all_eq_true.1 hd p hp
  have h5:some p.1∉ops.toList.map (·.dst):=by
   intro hc
   rw[Bool.not_eq_true'] at this
   have h6:=List.contains_iff_mem.2 hc
   rw[this] at h6;cases h6
  rw[k4 _ h5,He l hf.2.1 p hp,hf.2.1 p hp]
theorem Fq {P:Program} {f:FuncId} {xs ys:List V} {bl bl2:Int→Option Blk} {k:V→(Int→Option Blk)→Prop} (n:Nat) (hs:Sub bl2 bl) (hx:frzL (dropB bl bl2) n xs=some ys) (h:bU P f ys bl2 k):bU P f xs bl k:=by
 refine⟨h.1,fun w0 M F w vs hm cE=> ?_⟩
 have hlen:=qL hx
 have C8:Rd (fun k=>F k∨Own (dropB bl bl2) k) w ys vs:=by
  refine⟨by rw[cE.1,hlen.1],fun i y hy=> ?_⟩
  obtain⟨x,h1,h2⟩:=hlen.2 i y hy
  exact lT (fun g b hb=>vT hm g b hb) (fun g b hb h0=> .inr ⟨g,b,hb,h0,rfl⟩) (fun b hb=> .inl hb) n x y _ (cE.2 i x h1) h2
 exact(h.2 w0 M _ w vs (hm.freeze hs) C8).mono fun e w' ⟨v,r,bl',F',h1,h2,h3,h4,h5,h6,h7⟩=>⟨v,r,bl',F',h1,fun b hb=>h2 b (.inl hb),fun b hb=>h3 b (.inl hb),h4,h5,h6,h7⟩
theorem gD {P:Program} {f:FuncId} {xs:List V} {bl:Int→Option Blk} {r:V} {k:V→(Int→Option Blk)→Prop} (n:Nat) (bl2:Int→Option Blk) (ys:List V) (hs:Sub bl2 bl) (hx:frzL (dropB bl bl2) n xs=some ys) (h:RO P f ys r) (hk:k r bl2):bU P f xs bl k:=
 Fq n hs hx (aD h hk)
theorem aY {P:Program} {id:Nat} {ops:Array Oper} {K:Ex→St→Prop} {σ:St} (hm:P.follows .mixedOrders=true) (blK:Int→Option Blk) (hs:Sub blK σ.bl) (is:List Nat) (fuel:Nat) (hn:(ops.size==fuel+is.length && is.all (fun i=>decide (i<ops.size))&& hoistB ops is (Array.replicate ops.size false))=true)
  (h:HoistF P (ops.toList.map (·.dst)) blK (is.filterMap fun i=>ops[i]?) (kF P ops blK (fun _=>false) (K .normal) fuel (iL is (Array.replicate ops.size false))) σ):AW P (.region id ops true) K σ:=by
 simp only[Bool.and_eq_true,beq_iff_eq] at hn
 exact iV hm is fuel blK hs hn.1.1 hn.2 (tl:=fun _=>false) (fun _ _ _ _ h=>by cases h) (gL _ is σ (filter_some is hn.1.2) h)
section
variable {P : Program} {ops : Array Oper} {blK : Int → Option Blk} {tl : Nat → Bool} {K : St → Prop} {fuel : Nat} {l : Array Bool} {σ : St}
theorem Dq (i:Nat) {o:Oper} (e:Bool) (h:T P o (fun σ'=>(e=false→Sub blK σ'.bl)∧DL P ops blK tl K fuel (l.setIfInBounds i true) σ') σ) (hr:Region.ready .any ops l= [i]:=by kernel_rfl) (ho:ops[i]? =some o:=by exact rfl) (hg:o.guard=none:=by exact rfl) (he:late tl l i=e:=by kernel_rfl):DL P ops blK tl K (fuel+1) l σ:=aBC e hr ho hg he h
end
section
variable {P : Program} {ops : Array Oper} {blK : Int → Option Blk} {tl : Nat → Bool} {K : St → Prop} {fuel : Nat} {l : Array Bool} {σ : St}
theorem Dw (i j:Nat) {o p:Oper} (e f:Bool) (h:T P o (fun σ'=>(e=false→Sub blK σ'.bl)∧DL P ops blK tl K fuel (l.setIfInBounds i true) σ') σ) (h':T P p (fun σ'=>(f=false→Sub blK σ'.bl)∧DL P ops blK tl K fuel (l.setIfInBounds j true) σ') σ) (hr:Region.ready .any ops l= [i,j]:=by kernel_rfl) (ho:ops[i]? =some o:=by exact rfl) (hg:o.guard=none:=by exact rfl) (he:late tl l i=e:=by kernel_rfl) (ho':ops[j]? =some p:=by exact rfl) (hg':p.guard=none:=by exact rfl) (he':late tl l j=f:=by kernel_rfl):DL P ops blK tl K (fuel+1) l σ:=aAF e f hr ho hg he ho' hg' he' h h'
end
section
variable {P : Program} {ops : Array Oper} {blK : Int → Option Blk} {tl : Nat → Bool} {K : St → Prop} {fuel : Nat} {l : Array Bool} {σ : St}
theorem Dd (h:K σ) (hr:Region.ready .any ops l= []:=by kernel_rfl):DL P ops blK tl K fuel l σ:=Xq hr h
end
end Go.Proofs.YticmgmemnpcbbaaGreat.Vm

namespace Go.Proofs.YticmgmemnpcbbaaGreat.Vm
open Go Go.Proofs
set_option linter.unusedSimpArgs false
set_option linter.unusedVariables false
def iJ (s:Str) (n:Nat):List Int:=((aQ s.js).take n).flatMap fun j=>eE s j++eO s j
def iF (s:Str):List Int:=(aQ s.js).flatMap fun j=>eE s j++eO s j
theorem xX (s:Str) (n:Nat) (h:n<(aQ s.js).length):iJ s (n+1)=iJ s n++eE s (aQ s.js)[n]++eO s (aQ s.js)[n]:=by
 unfold iJ
 rw[List.take_add_one,List.getElem?_eq_getElem h,List.flatMap_append];simp
theorem kM (s:Str): ∀n,n≤(aQ s.js).length→(iJ s n).length=2*s.ms.length*n
 | 0, _ => by simp [iJ]
 | n + 1, h => by
   rw[xX s n (by omega),List.length_append,List.length_append,kM s n (by omega),mW,mN,Nat.mul_add];omega
structure Zu where
 i:Nat
 g:Int
 b:Int→Option Blk
def Te (bl:Int→Option Blk) (s:Str) (gs:Int) (p:Zu):Prop:=
 p.i≤(aQ s.js).length∧p.g≠gs∧p.b p.g=some ⟨1,iv (iJ s p.i)⟩∧p.b gs=some ⟨2,[[.sl (jv s.js),.sl (mv s.ms)]]⟩∧bl p.g=none∧Sub bl p.b∧(p.g<0→iJ s p.i= [])
def xTo (s:Str) (j:Int) (n:Nat):List Int:=(s.ms.take n).map (eqX s j)
def yTo (s:Str) (j:Int) (n:Nat):List Int:=(s.ms.take n).map (eqY s j)
theorem Oh (s:Str) (j:Int) (n:Nat) (h:n<s.ms.length):xTo s j (n+1)=xTo s j n++ [eqX s j s.ms[n]]:=by
 unfold xTo;rw[List.take_add_one,List.getElem?_eq_getElem h,List.map_append];rfl
theorem Pj (s:Str) (j:Int) (n:Nat) (h:n<s.ms.length):yTo s j (n+1)=yTo s j n++ [eqY s j s.ms[n]]:=by
 unfold yTo;rw[List.take_add_one,List.getElem?_eq_getElem h,List.map_append];rfl
theorem Wf (s:Str) (j:Int):xTo s j s.ms.length=eE s j:=by simp[xTo,eE]
theorem Xf (s:Str) (j:Int):yTo s j s.ms.length=eO s j:=by simp[yTo,eO]
theorem De (s:Str) (j:Int) (n:Nat) (h:n≤s.ms.length):(xTo s j n).length=n:=by simp[xTo];omega
theorem Es (s:Str) (j:Int) (n:Nat) (h:n≤s.ms.length):(yTo s j n).length=n:=by simp[yTo];omega
set_option maxHeartbeats 2000000 in
theorem Em (s:Str) (hs:SOk s):NW Tryz.prog 193 [.agg s.c] (fl 1 (iv (iF s))):=by
 have h6:=hs.nj
 have h8:=hs.nm
 have hfr:=jB s.js s.js.length
 change(aQ s.js).length≤s.js.length at hfr
 refine iD Tryz.func193 rfl rfl (by rw[Tryz.ntmps193];simp) fun bl=> ?_
 rw[Tryz.ntmps193,Tryz.results193]
 refine aC ?_
 simp[Str.c]
 intro gs aAK hgs ga aL3 J3 Gp
 simp[Str.c,J3,Ne.symm J3]
 refine aD (tB s (by omega)) ?_
 simp
 refine aJ (fun p:Zu=> [(1,.loc gs 2 0 0),(3,.lsl p.g 1 0 (2*s.ms.length*p.i)),(14,.sl (iv (aQ s.js))),(15,.int .i64 (aQ s.js).length),(16,.int .i64 p.i)]) (fun p=>p.b) (Te bl s gs) (fun p=>(aQ s.js).length - p.i) 78
  ⟨0,ga,upd (upd bl gs (some ⟨2,[[.sl (jv s.js),.sl (mv s.ms)]]⟩)) ga (some ⟨1,[]⟩)⟩ ⟨Nat.zero_le _,J3,by simp[iJ,iv],by simp[Ne.symm J3],Gp,by simp[hgs,Gp],fun _=>rfl⟩ ⟨rfl,by simp,sub_eq (by simp[Str.c])⟩ ?_
 rintro⟨i,g,b⟩ ⟨hi,hgg,hbg,hbs,hg,hsb,h0⟩
 simp only at hi hgg hbg hbs hg hsb h0
 refine aC ?_
 simp
 refine⟨fun h=> ?_,fun h=> ?_⟩
 ·have q:=eK (aQ s.js) i h
  simp[h]
  obtain⟨j,hj⟩: ∃j,(aQ s.js)[i]=j:=⟨_,rfl⟩
  rw[hj]
  intro gx aMQ hbx gy aS1 hyx hby
  have nxs:gx≠gs:=fun e=>by rw[e,hbs] at hbx;cases hbx
  have nys:gy≠gs:=fun e=>by rw[e,hbs] at hby;cases hby
  have nxg:gx≠g:=fun e=>by rw[e,hbg] at hbx;cases hbx
  have nyg:gy≠g:=fun e=>by rw[e,hbg] at hby;cases hby
  simp[nxs,Ne.symm nxs,nys,Ne.symm nys,hbs]
  refine aJ (fun p:Two=> [(1,.loc gs 2 0 0),(3,.lsl g 1 0 (2*s.ms.length*i)),(5,.int .i64 j),(6,.lsl p.g 1 0 p.i),(7,.lsl p.h 1 0 p.i),(14,.sl (iv (aQ s.js))),(15,.int .i64 (aQ s.js).length),(16,.int .i64 i),(23,.sl (mv s.ms)),(24,.int .i64 s.ms.length),(25,.int .i64 p.i)])
   (fun p=>p.b) (fun p=>Od b (xTo s j) (yTo s j) s.ms.length p∧0≤p.g∧0≤p.h) (fun p=>s.ms.length - p.i) 78 ⟨0,gx,gy,upd (upd b gx (some ⟨1,[]⟩)) gy (some ⟨1,[]⟩)⟩ ⟨⟨Nat.zero_le _,Ne.symm hyx,by simp[Ne.symm hyx,xTo,iv],by simp[yTo,iv],hbx,hby,by simp[hbx,hby],fun _=>rfl,fun _=>rfl⟩,aMQ,aS1⟩ ⟨rfl,by simp,sub_eq (by simp)⟩ ?_
  rintro⟨k,x,y,c⟩ ⟨⟨hk,hxy,hcx,hcy,Bg,An,hsc,_,_⟩,hx0,hy0⟩
  simp only at hk hxy hcx hcy Bg An hsc hx0 hy0
  have hcs:=hsc _ _ hbs
  have hcg:=hsc _ _ hbg
  have fr: ∀x,c x=none→b x=none:=fun x hx=>aR hsc hx
  have lx:=De s j k hk
  have ly:=Es s j k hk
  have tkx:(iv (xTo s j k)).take k=iv (xTo s j k):=List.take_of_length_le (by simp[lx])
  have tky:(iv (yTo s j k)).take k=iv (yTo s j k):=List.take_of_length_le (by simp[ly])
  refine aC ?_
  simp
  refine⟨fun hkl=> ?_,fun hkl=> ?_⟩
  ·have hv:=Kv hs (List.getElem_mem hkl)
   have hm:mat s (k:Int)=s.ms[k]:=zK hkl
   have B0:=Q3 s k hs (by omega) (by omega)
   rw[hm] at B0
   have w1:IntKind.i64.wrap ((k:Int)+1)=k+1:=i64_in (by omega) (by omega)
   have nx:IntKind.i64.wrap (-vx s s.ms[k])= -vx s s.ms[k]:=i64_in (by omega) (by omega)
   have ny:IntKind.i64.wrap (-vy s s.ms[k])= -vy s s.ms[k]:=i64_in (by omega) (by omega)
   have sx:=Oh s j k hkl
   have sy:=Pj s j k hkl
   simp[hkl,Mb.c]
   intro g1 hg1 hb1
   have n1s:g1≠gs:=fun e=>by rw[e,hcs] at hb1;cases hb1
   have n1x:g1≠x:=fun e=>by rw[e,hcx] at hb1;cases hb1
   have n1y:g1≠y:=fun e=>by rw[e,hcy] at hb1;cases hb1
   simp[n1s,Ne.symm n1s,hcs]
   refine aD B0 ?_
   simp
   refine⟨fun e1=> ?_,fun e1=>⟨fun e2=> ?_,fun e2=> ?_⟩⟩
   ·intro g2 hg2 h21 hb2
    have n2x:g2≠x:=fun e=>by rw[e,hcx] at hb2;cases hb2
    have n2y:g2≠y:=fun e=>by rw[e,hcy] at hb2;cases hb2
    simp[hcx,n1x,h21,n2x,Ne.symm n1x,Ne.symm h21,Ne.symm n2x,lx,tkx,nx,ny,appV,elsV,Int.not_lt.2 hg2]
    refine⟨by omega,fun g3 hg3 hb3=> ?_⟩
    have n31:g3≠g1:=by grind
    have n3y:g3≠y:=by grind
    simp[n31,Ne.symm n31,n3y,Ne.symm n3y,nx,ny]
    intro g4 hg4 h43 hb4
    have n41:g4≠g1:=by grind
    have n4y:g4≠y:=by grind
    simp[hxy,Ne.symm hxy,hcy,n1y,Ne.symm n1y,n2y,Ne.symm n2y,n31,Ne.symm n31,n3y,Ne.symm n3y,n41,Ne.symm n41,n4y,Ne.symm n4y,h43,Ne.symm h43,ly,tky,lx,tkx,nx,ny,appV,elsV,Int.not_lt.2 hg4]
    refine⟨by omega,fun g5 hg5 hb5=> ?_⟩
    have n51:g5≠g1:=by grind
    have n53:g5≠g3:=by grind
    have f1:eqX s j s.ms[k]=vx s s.ms[k]:=by rw[eqX,if_pos e1]
    have f2:eqY s j s.ms[k]=vy s s.ms[k]:=by rw[eqY,if_pos e1]
    rw[f1] at sx
    rw[f2] at sy
    simp[w1,aB]
    refine⟨⟨k+1,g3,g5,_⟩,⟨⟨by simp only;omega,by simp only;grind,?_,?_,by simp only;grind,by simp only;grind,?_,fun e=>by simp only at e;omega,fun e=>by simp only at e;omega⟩,hg3,hg5⟩,by simp only;omega,rfl,by simp,sub_eq rfl⟩
    ·simp[hxy,Ne.symm hxy,n31,Ne.symm n31,n51,Ne.symm n51,n53,Ne.symm n53,n41,Ne.symm n41,h43,Ne.symm h43,n3y,Ne.symm n3y,n4y,Ne.symm n4y,sx,aX,kJ,tkx,tky]
    ·simp[hxy,Ne.symm hxy,n31,Ne.symm n31,n51,Ne.symm n51,n53,Ne.symm n53,n41,Ne.symm n41,h43,Ne.symm h43,n3y,Ne.symm n3y,n4y,Ne.symm n4y,sy,aX,kJ,tkx,tky]
    ·intro u z hx
     have hbx:=hsc u z hx
     have ng:u≠x:=fun e=>by rw[e,Bg] at hx;cases hx
     have nh:u≠y:=fun e=>by rw[e,An] at hx;cases hx
     simp[aA,aF]
     grind
   ·intro g2 hg2 h21 hb2
    have n2x:g2≠x:=fun e=>by rw[e,hcx] at hb2;cases hb2
    have n2y:g2≠y:=fun e=>by rw[e,hcy] at hb2;cases hb2
    simp[hcx,n1x,h21,n2x,Ne.symm n1x,Ne.symm h21,Ne.symm n2x,lx,tkx,nx,ny,appV,elsV,Int.not_lt.2 hg2]
    refine⟨by omega,fun g3 hg3 hb3=> ?_⟩
    have n31:g3≠g1:=by grind
    have n3y:g3≠y:=by grind
    simp[n31,Ne.symm n31,n3y,Ne.symm n3y,nx,ny]
    intro g4 hg4 h43 hb4
    have n41:g4≠g1:=by grind
    have n4y:g4≠y:=by grind
    simp[hxy,Ne.symm hxy,hcy,n1y,Ne.symm n1y,n2y,Ne.symm n2y,n31,Ne.symm n31,n3y,Ne.symm n3y,n41,Ne.symm n41,n4y,Ne.symm n4y,h43,Ne.symm h43,ly,tky,lx,tkx,nx,ny,appV,elsV,Int.not_lt.2 hg4]
    refine⟨by omega,fun g5 hg5 hb5=> ?_⟩
    have n51:g5≠g1:=by grind
    have n53:g5≠g3:=by grind
    have f1:eqX s j s.ms[k]= -vx s s.ms[k]:=by rw[eqX,if_neg e1,if_pos e2]
    have f2:eqY s j s.ms[k]= -vy s s.ms[k]:=by rw[eqY,if_neg e1,if_pos e2]
    rw[f1] at sx
    rw[f2] at sy
    simp[w1,aB]
    refine⟨⟨k+1,g3,g5,_⟩,⟨⟨by simp only;omega,by simp only;grind,?_,?_,by simp only;grind,by simp only;grind,?_,fun e=>by simp only at e;omega,fun e=>by simp only at e;omega⟩,hg3,hg5⟩,by simp only;omega,rfl,by simp,sub_eq rfl⟩
    ·simp[hxy,Ne.symm hxy,n31,Ne.symm n31,n51,Ne.symm n51,n53,Ne.symm n53,n41,Ne.symm n41,h43,Ne.symm h43,n3y,Ne.symm n3y,n4y,Ne.symm n4y,sx,aX,kJ,tkx,tky]
    ·simp[hxy,Ne.symm hxy,n31,Ne.symm n31,n51,Ne.symm n51,n53,Ne.symm n53,n41,Ne.symm n41,h43,Ne.symm h43,n3y,Ne.symm n3y,n4y,Ne.symm n4y,sy,aX,kJ,tkx,tky]
    ·intro u z hx
     have hbx:=hsc u z hx
     have ng:u≠x:=fun e=>by rw[e,Bg] at hx;cases hx
     have nh:u≠y:=fun e=>by rw[e,An] at hx;cases hx
     simp[aA,aF]
     grind
   ·intro g2 hg2 h21 hb2
    have n2x:g2≠x:=fun e=>by rw[e,hcx] at hb2;cases hb2
    have n2y:g2≠y:=fun e=>by rw[e,hcy] at hb2;cases hb2
    simp[hcx,n1x,h21,n2x,Ne.symm n1x,Ne.symm h21,Ne.symm n2x,lx,tkx,nx,ny,appV,elsV,Int.not_lt.2 hg2]
    refine⟨by omega,fun g3 hg3 hb3=> ?_⟩
    have n31:g3≠g1:=by grind
    have n3y:g3≠y:=by grind
    simp[n31,Ne.symm n31,n3y,Ne.symm n3y,nx,ny]
    intro g4 hg4 h43 hb4
    have n41:g4≠g1:=by grind
    have n4y:g4≠y:=by grind
    simp[hxy,Ne.symm hxy,hcy,n1y,Ne.symm n1y,n2y,Ne.symm n2y,n31,Ne.symm n31,n3y,Ne.symm n3y,n41,Ne.symm n41,n4y,Ne.symm n4y,h43,Ne.symm h43,ly,tky,lx,tkx,nx,ny,appV,elsV,Int.not_lt.2 hg4]
    refine⟨by omega,fun g5 hg5 hb5=> ?_⟩
    have n51:g5≠g1:=by grind
    have n53:g5≠g3:=by grind
    have f1:eqX s j s.ms[k]=0:=by rw[eqX,if_neg e1,if_neg e2]
    have f2:eqY s j s.ms[k]=0:=by rw[eqY,if_neg e1,if_neg e2]
    rw[f1] at sx
    rw[f2] at sy
    simp[w1,aB]
    refine⟨⟨k+1,g3,g5,_⟩,⟨⟨by simp only;omega,by simp only;grind,?_,?_,by simp only;grind,by simp only;grind,?_,fun e=>by simp only at e;omega,fun e=>by simp only at e;omega⟩,hg3,hg5⟩,by simp only;omega,rfl,by simp,sub_eq rfl⟩
    ·simp[hxy,Ne.symm hxy,n31,Ne.symm n31,n51,Ne.symm n51,n53,Ne.symm n53,n41,Ne.symm n41,h43,Ne.symm h43,n3y,Ne.symm n3y,n4y,Ne.symm n4y,sx,aX,kJ,tkx,tky]
    ·simp[hxy,Ne.symm hxy,n31,Ne.symm n31,n51,Ne.symm n51,n53,Ne.symm n53,n41,Ne.symm n41,h43,Ne.symm h43,n3y,Ne.symm n3y,n4y,Ne.symm n4y,sy,aX,kJ,tkx,tky]
    ·intro u z hx
     have hbx:=hsc u z hx
     have ng:u≠x:=fun e=>by rw[e,Bg] at hx;cases hx
     have nh:u≠y:=fun e=>by rw[e,An] at hx;cases hx
     simp[aA,aF]
     grind
  ·have:k=s.ms.length:=by omega
   subst this
   rw[Wf] at hcx
   rw[Xf] at hcy
   have aX5:x≠gs:=fun e=>by rw[e,hbs] at Bg;cases Bg
   have aXI:y≠gs:=fun e=>by rw[e,hbs] at An;cases An
   have Vc:x≠g:=fun e=>by rw[e,hbg] at Bg;cases Bg
   have Wr:y≠g:=fun e=>by rw[e,hbg] at An;cases An
   have lr:=kM s i (by omega)
   have tkr:(iv (iJ s i)).take (2*s.ms.length*i)=iv (iJ s i):=List.take_of_length_le (by simp[lr])
   have tkX:(iv (eE s j)).take s.ms.length=iv (eE s j):=List.take_of_length_le (by simp)
   have tkY:(iv (eO s j)).take s.ms.length=iv (eO s j):=List.take_of_length_le (by simp)
   have hi6:2*s.ms.length*i≤2*8*6:=Nat.mul_le_mul (by omega) (by omega)
   simp[hcg,hcx,hcy,Vc,Wr,Ne.symm Vc,Ne.symm Wr,Int.not_lt.2 hx0,Int.not_lt.2 hy0,appV,elsV,lr,tkr,tkX,tkY]
   refine⟨by omega,fun go hgo hbo=> ?_⟩
   have nos:go≠gs:=by grind
   have nox:go≠x:=by grind
   have noy:go≠y:=by grind
   simp[nox,noy,Ne.symm nox,Ne.symm noy,Vc,Wr,Ne.symm Vc,Ne.symm Wr,hcx,hcy,Int.not_lt.2 hx0,Int.not_lt.2 hy0,appV,elsV,lr,tkr,tkX,tkY]
   refine⟨by omega,fun gn hgn hbn=> ?_⟩
   have nns:gn≠gs:=by grind
   have w2:IntKind.i64.wrap ((i:Int)+1)=i+1:=i64_in (by omega) (by omega)
   subst hj
   have rs:=xX s i h
   have h1:bl go=none:=by
    by_cases e:go=g
    ·rw[e];exact hg
    ·exact aR hsb (fr _ (hbo e))
   have h2:bl gn=none:=by
    by_cases e:gn=go
    ·rw[e];exact h1
    ·by_cases e2:gn=g
     ·rw[e2];exact hg
     ·exact aR hsb (fr _ (by grind))
   simp[w2,aB]
   refine⟨⟨i+1,gn,_⟩,⟨by simp only;omega,nns,?_,?_,h2,?_,?_⟩,by simp only;omega,rfl,?_,sub_eq rfl⟩
   ·have tk2:(iv (iJ s i)++iv (eE s (aQ s.js)[i])).take (2*s.ms.length*i+s.ms.length)=iv (iJ s i)++iv (eE s (aQ s.js)[i]):=List.take_of_length_le (by simp[lr])
    simp[rs,aX,tk2]
   ·simp[Ne.symm nns,Ne.symm nos,Ne.symm hgg,hcs]
   ·intro u z hx
    have hbx:=hsc u z (hsb u z hx)
    have n1:u≠g:=fun e=>by rw[e,hg] at hx;cases hx
    have n2:u≠go:=fun e=>by rw[e,h1] at hx;cases hx
    have n3:u≠gn:=fun e=>by rw[e,h2] at hx;cases hx
    simp[n1,n2,n3,hbx]
   ·intro e
    simp only at e ⊢
    have ez:s.ms= []:=by
     rcases hgn with hn | ⟨_,hn⟩
     ·omega
     ·have:=congrArg List.length hn
      simpa using this
    have er:=lr
    rw[ez] at er
    rw[rs]
    simp[eE,eO,ez] at er ⊢
    exact er
   ·simp[Nat.mul_add];omega
 ·have:i=(aQ s.js).length:=by omega
  subst this
  refine fH [.lsl g 1 0 (2*s.ms.length*(aQ s.js).length)] [g] (by simp) ?_ (by simpa using hg) hsb
  have e:iF s=iJ s (aQ s.js).length:=by simp[iF,iJ]
  refine dI.2 (.inr ⟨g,?_,rfl,by rw[e];exact hbg,by rw[e];exact h0⟩)
  rw[e,kM s _ (Nat.le_refl _)];rfl
theorem Fa (s:Str) (hs:SOk s):RO Tryz.prog 193 [.agg s.c] (.sl (iv (iF s))):=by
 have:=jA 1 (Em s hs) (kV _ _ 0)
 simpa using this
def fR (s:Str) (l:List Int) (n:Nat):List Int:=((aQ s.js).take n).flatMap fun j=> [-lat l (2*j).toNat, -lat l (2*j+1).toNat]
def right (s:Str) (l:List Int):List Int:=(aQ s.js).flatMap fun j=> [-lat l (2*j).toNat, -lat l (2*j+1).toNat]
theorem vC (s:Str) (l:List Int) (n:Nat) (h:n<(aQ s.js).length):fR s l (n+1)=fR s l n++ [-lat l (2*(aQ s.js)[n]).toNat, -lat l (2*(aQ s.js)[n]+1).toNat]:=by
 unfold fR
 rw[List.take_add_one,List.getElem?_eq_getElem h,List.flatMap_append];simp
theorem jQ (s:Str) (l:List Int): ∀n,n≤(aQ s.js).length→(fR s l n).length=2*n
 | 0, _ => by simp [fR]
 | n + 1, h => by
   rw[vC s l n (by omega),List.length_append,jQ s l n (by omega)];simp;omega
theorem xV {s:Str} {j:Int} (h:j∈aQ s.js):0≤j∧j<s.js.length:=by
 unfold aQ bZ at h
 obtain⟨k,hk,rfl⟩:=List.mem_map.1 h
 have:=List.mem_range.1 (List.mem_filter.1 hk).1
 omega
theorem kQ (s:Str) (l:List Int) (hL:LOk s l):NW Tryz.prog 194 [.agg s.c,.sl (iv l)] (fl 1 (iv (right s l))):=by
 have h6:=hL.sok.nj
 have hfr:=jB s.js s.js.length
 change(aQ s.js).length≤s.js.length at hfr
 refine iD Tryz.func194 rfl rfl (by rw[Tryz.ntmps194];simp) fun bl=> ?_
 rw[Tryz.ntmps194,Tryz.results194]
 refine aC ?_
 simp[Str.c]
 intro gs aAK hgs ga aL3 J3 Gp
 simp[Str.c,J3,Ne.symm J3]
 refine aD (tB s (by omega)) ?_
 simp
 refine aJ (fun p:Nat×Int=> [(1,.sl (iv l)),(5,.lsl p.2 1 0 (2*p.1)),(10,.sl (iv (aQ s.js))),(11,.int .i64 (aQ s.js).length),(12,.int .i64 p.1)]) (fun p=>upd bl p.2 (some ⟨1,iv (fR s l p.1)⟩)) (fun p=>p.1≤(aQ s.js).length∧bl p.2=none∧(p.2<0→fR s l p.1= [])) (fun p=>(aQ s.js).length - p.1) 34 (0,ga) ⟨Nat.zero_le _,Gp,fun _=>rfl⟩ (by refine⟨rfl,by simp,?_⟩;exact dE (by simp[fR,iv]) (by simp[hgs])) ?_
 rintro⟨i,g⟩ ⟨hi,hg,h0⟩
 simp only at hi hg h0
 refine aC ?_
 simp
 refine⟨fun h=> ?_,fun h=> ?_⟩
 ·have q:=eK (aQ s.js) i h
  obtain⟨r1,r2⟩:=xV (List.getElem_mem h)
  have rs:=vC s l i h
  simp[h]
  obtain⟨j,hj⟩: ∃j,(aQ s.js)[i]=j:=⟨_,rfl⟩
  rw[hj] at r1 r2 rs ⊢
  have a1:(2*j).toNat<l.length:=by rw[hL.n];omega
  have a2:(2*j+1).toNat<l.length:=by rw[hL.n];omega
  have b1:=hL.f _ a1
  have b2:=hL.f _ a2
  have q1:=xJ a1
  have q2:=xJ a2
  have w1:IntKind.i64.wrap (2*j)=2*j:=i64_in (by omega) (by omega)
  have w2:IntKind.i64.wrap (2*j+1)=2*j+1:=i64_in (by omega) (by omega)
  have w3:IntKind.i64.wrap (-lat l (2*j).toNat)= -lat l (2*j).toNat:=i64_in (by omega) (by omega)
  have w4:IntKind.i64.wrap (-lat l (2*j+1).toNat)= -lat l (2*j+1).toNat:=i64_in (by omega) (by omega)
  have w5:IntKind.i64.wrap ((i:Int)+1)=i+1:=i64_in (by omega) (by omega)
  have p1:0≤2*j:=by omega
  have p2:0≤2*j+1:=by omega
  refine aY aM bl (by simp[hg]) [0,1,2,3,4,5,6,7,8,9,10,11,12,13] 3 (by kernel_rfl) ?_
  simp[-eK,w1,w2,w3,w4,q1,q2,p1,p2]
  have er2:List.range 2= [0,1]:=rfl
  have lr:=jQ s l i (by omega)
  have tkr:(iv (fR s l i)).take (2*i)=iv (fR s l i):=List.take_of_length_le (by simp[lr])
  refine Dz 14 ?_
  simp
  intro gp hgp hpg hbp
  refine⟨by simp[hbp,hg],Dz 15 ?_⟩
  simp[er2,hpg,Ne.symm hpg,lr,tkr,appV,elsV,Int.not_lt.2 hgp]
  refine⟨by omega,fun gn hgn hbn=> ?_⟩
  have hgb:bl gn=none:=by grind
  have hsb: ∀X,Sub bl (upd (rem (upd (upd bl g (some ⟨1,iv (fR s l i)⟩)) gp (some ⟨1,[[.int .i64 (-lat l (2*j).toNat)],[.int .i64 (-lat l (2*j+1).toNat)]]⟩)) g) gn X):=fun X=>by simp[hg,hbp,hgb,hpg]
  refine⟨hsb _,Dz 16 ?_⟩
  simp
  refine⟨hsb _,Dy ?_⟩
  simp[w5,aB]
  refine⟨i+1,gn,⟨by omega,?_,by omega⟩,by omega,rfl,by simp;omega,?_⟩
  ·grind
  rw[rs,aX]
  exact dE (by rfl) (by simp[hg,hbp,hpg])
 ·have:i=(aQ s.js).length:=by omega
  subst this
  refine fH [.lsl g 1 0 (2*(aQ s.js).length)] [g] (by simp) ?_ (by simpa using hg) (by simp[hg])
  have e:right s l=fR s l (aQ s.js).length:=by simp[right,fR]
  refine dI.2 (.inr ⟨g,?_,rfl,by rw[e];simp,by rw[e];exact h0⟩)
  rw[e,jQ s l _ (Nat.le_refl _)];rfl
end Go.Proofs.YticmgmemnpcbbaaGreat.Vm

namespace Go.Proofs.YticmgmemnpcbbaaGreat.Vm
open Go Go.RowKit
set_option linter.unusedSimpArgs false
set_option linter.unusedVariables false
theorem tT {P:Program} {ops:Array Oper} {blK:Int→Option Blk} {K:St→Prop} : ∀(is js:List Nat) (σ:St),Hoist P ops blK is (fun σ'=>Hoist P ops blK js K σ') σ→Hoist P ops blK (is++js) K σ
 | [], js, σ, h => h
 | i :: is, js, σ, h => by
   rw[List.cons_append]
   unfold Hoist at h ⊢
   split at h
   ·obtain⟨v,h1,h2⟩:=h
    exact⟨v,h1,tT is js _ h2⟩
   ·exact h.elim
theorem xY {P:Program} {ds:List (Option Tmp)} {blK:Int→Option Blk} {K K':St→Prop} (hK: ∀σ,K σ→K' σ): ∀(l:List Oper) (σ:St),HoistF P ds blK l K σ→HoistF P ds blK l K' σ
 | [], σ, h => hK σ h
 | o :: rest, σ, h => by
   have next: ∀v,HoistF P ds blK rest K (σ.put o.dst v)→HoistF P ds blK rest K' (σ.put o.dst v):=fun v hv=>xY hK rest _ hv
   unfold HoistF at h ⊢
   cases hg:o.guard with
   | none=>
     simp only[hg] at h ⊢
     split at h
     ·obtain⟨p,h1,v,n,ys,h2,h3⟩:=h
      exact⟨p,h1,v,n,ys,h2,next v h3⟩
     ·obtain⟨v,h1,h2⟩:=h
      exact⟨v,h1,next v h2⟩
   | some jb=>
     obtain⟨j,b⟩:=jb
     simp only[hg] at h ⊢
     split at h
     ·rename_i d hd
      split at h
      ·split at h
       ·rename_i hq
        obtain⟨v,h1,h2⟩:=h
        rw[if_pos hq]
        exact⟨v,h1,next v h2⟩
       ·rename_i hq
        rw[if_neg hq]
        exact next _ h
      ·exact next _ h
      ·exact h.elim
     ·exact h.elim
def HStep (P:Program) (ops:Array Oper) (blK:Int→Option Blk) (i:Nat) (K:St→Prop) (σ:St):Prop:=match ops[i]? with
 | some o => ∃ v, DY P ops blK o σ v ∧ K (σ.put o.dst v)
 | none => False
theorem aHE {P:Program} {id:Nat} {ops:Array Oper} {K:Ex→St→Prop} {σ:St} (hm:P.follows .mixedOrders=true) (blK:Int→Option Blk) (hs:Sub blK σ.bl) (is1:List Nat) (i:Nat) (is2:List Nat) (fuel:Nat)
  (hn:(ops.size==fuel+(is1++i::is2).length && (is1++i::is2).all (fun i=>decide (i<ops.size))&& hoistB ops (is1++i::is2) (Array.replicate ops.size false))=true)
  (h:HoistF P (ops.toList.map (·.dst)) blK (is1.filterMap fun i=>ops[i]?) (HStep P ops blK i (HoistF P (ops.toList.map (·.dst)) blK (is2.filterMap fun i=>ops[i]?) (kF P ops blK (fun _=>false) (K .normal) fuel (iL (is1++i::is2) (Array.replicate ops.size false))))) σ):AW P (.region id ops true) K σ:=by
 simp only[Bool.and_eq_true,beq_iff_eq] at hn
 have bI:=List.all_eq_true.1 hn.1.2
 have f1:is1.all (fun i=>decide (i<ops.size))=true:=List.all_eq_true.2 fun x hx=>bI x (List.mem_append_left _ hx)
 have f2:is2.all (fun i=>decide (i<ops.size))=true:=List.all_eq_true.2 fun x hx=>bI x (List.mem_append_right _ (List.mem_cons_of_mem _ hx))
 refine iV hm (is1++i::is2) fuel blK hs hn.1.1 hn.2 (tl:=fun _=>false) (fun _ _ _ _ h=>by cases h) (tT is1 (i::is2) σ (gL _ is1 σ (filter_some is1 f1) ?_))
 refine xY (fun σ' h'=> ?_) _ _ h
 unfold HStep at h'
 unfold Hoist
 split at h'
 ·rename_i o ho
  obtain⟨v,h1,h2⟩:=h'
  rw[ho]
  exact⟨v,h1,gL _ is2 _ (filter_some is2 f2) h2⟩
 ·exact h'.elim
theorem Zz {P:Program} {id:Nat} {ops:Array Oper} {K:Ex→St→Prop} {σ:St} (hm:P.follows .mixedOrders=true) (blK:Int→Option Blk) (hs:Sub blK σ.bl) (is:List Nat) (fuel n:Nat) (hn:(ops.size==fuel+is.length && is.all (fun i=>decide (i<ops.size))&& hoistB ops is (Array.replicate ops.size false)&& N7 ops (fun j=>decide (n≤j)) is)=true)
  (h:HoistF P (ops.toList.map (·.dst)) blK (is.filterMap fun i=>ops[i]?) (kF P ops blK (fun j=>decide (n≤j)) (K .normal) fuel (iL is (Array.replicate ops.size false))) σ):AW P (.region id ops true) K σ:=by
 simp only[Bool.and_eq_true,beq_iff_eq] at hn
 exact iV hm is fuel blK hs hn.1.1.1 hn.1.2 (tl:=fun j=>decide (n≤j)) (lY hn.2) (gL _ is σ (filter_some is hn.1.1.2) h)
end Go.Proofs.YticmgmemnpcbbaaGreat.Vm

namespace Go.Proofs.YticmgmemnpcbbaaGreat.Vm
open Go Go.Proofs
set_option linter.unusedSimpArgs false
set_option linter.unusedVariables false
structure Pg where
 rows:Int
 aS:Int
 a:List Int
 b:List Int
 c:List Int
def Pg.v (p:Pg):List V:= [.int .i64 p.rows,.int .i64 p.aS,.sl (iv p.a),.sl (iv p.b),.sl (iv p.c)]
def nR (s:Str):Nat:=2*(aQ s.js).length
def nC (s:Str):Nat:=(aS s.ms).length
def dJ (s:Str) (c:Nat):Int×Int:=(aS s.ms).getD c (0,0)
def ent (s:Str) (i c:Nat):Int:=(dJ s c).2*lat (iF s) (i*s.ms.length+(dJ s c).1.toNat)
def aTo (s:Str) (n:Nat):List Int:=(List.range n).map fun t=>ent s (t / nC s) (t % nC s)
def cX (s:Str) (l:List Int):Pg:=⟨nR s,nC s,aTo s (nR s*nC s),right s l,List.replicate (nC s) 0⟩
@[simp] theorem aA5 (s : Str) (n : Nat) : (aTo s n).length = n := by simp [aTo]
theorem Tm (s:Str) (i c:Nat) (h:c<nC s):aTo s (i*nC s+c+1)=aTo s (i*nC s+c)++ [ent s i c]:=by
 unfold aTo
 rw[List.range_succ,List.map_append]
 congr 1
 simp only[List.map_cons,List.map_nil]
 rw[Nat.mul_comm i,Nat.mul_add_div (by omega),Nat.mul_add_mod,Nat.div_eq_of_lt h,Nat.mod_eq_of_lt h,Nat.add_zero]
theorem S5 (s:Str):(iF s).length=nR s*s.ms.length:=by
 have e:iF s=iJ s (aQ s.js).length:=by simp[iF,iJ]
 rw[e,kM s _ (Nat.le_refl _),nR,Nat.mul_right_comm]
theorem Sc {ms:List Mb} {n:Nat} {p:Int×Int} (h:p∈aT ms n):(0≤p.1∧p.1<n)∧(p.2=1∨p.2= -1):=by
 unfold aT at h
 obtain⟨k,hk,hp⟩:=List.mem_flatMap.1 h
 have:=List.mem_range.1 hk
 unfold oC at hp
 rcases List.mem_append.1 hp with hp | hp<;>split at hp<;>simp at hp<;>subst hp<;>simp<;>omega
theorem nX (s:Str) (c:Nat) (h:c<nC s):(0≤(dJ s c).1∧(dJ s c).1<s.ms.length)∧((dJ s c).2=1∨(dJ s c).2= -1):=by
 unfold nC at h
 have:dJ s c=(aS s.ms)[c]:=by simp[dJ,h]
 rw[this]
 exact Sc (List.getElem_mem h)
theorem Sh (s:Str) (c:Nat) (h:c<nC s):(iv (who s))[c]? =some [.int .i64 (dJ s c).1]:=by
 unfold nC at h
 simp[who,dJ,h,iv]
theorem Ob (s:Str) (c:Nat) (h:c<nC s):(iv (sgn s))[c]? =some [.int .i64 (dJ s c).2]:=by
 unfold nC at h
 simp[sgn,dJ,h,iv]
theorem G4 {s:Str} (hs:SOk s) (n:Nat): -100≤lat (iF s) n∧lat (iF s) n≤100:=by
 have key: ∀x,x∈iF s→ -100≤x∧x≤100:=by
  intro x hx
  unfold iF at hx
  obtain⟨j,_,hx⟩:=List.mem_flatMap.1 hx
  rcases List.mem_append.1 hx with hx | hx
  ·obtain⟨m,hm,rfl⟩:=List.mem_map.1 hx
   have:=Kv hs hm
   unfold eqX;split
   ·omega
   ·split<;>omega
  ·obtain⟨m,hm,rfl⟩:=List.mem_map.1 hx
   have:=Kv hs hm
   unfold eqY;split
   ·omega
   ·split<;>omega
 unfold lat
 rw[List.getD_eq_getElem?_getD]
 cases h:(iF s)[n]? with
 | none => simp
 | some x => exact key x (List.mem_of_getElem? h)
structure PS where
 n:Nat
 g:Int
 b:Int→Option Blk
structure PI (bl : Int → Option Blk) (s : Str) (l : List Int) (gr gp gc : Int) (p : PS) : Prop where
 hr:p.b gr=some ⟨5,[[.int .i64 0,.int .i64 0,.nils,.nils,.nils]]⟩
 hp:p.b gp=some ⟨5,[[.int .i64 (nR s),.int .i64 (nC s),.lsl p.g 1 0 p.n,.sl (iv (right s l)),.lsl gc 1 0 (nC s)]]⟩
 hc:p.b gc=some ⟨1,iv (List.replicate (nC s) 0)⟩
 ha:p.b p.g=some ⟨1,iv (aTo s p.n)⟩
 pr:p.g≠gr
 pp:p.g≠gp
 pc:p.g≠gc
 f:bl p.g=none
 sub:Sub bl p.b
 neg:p.g<0→aTo s p.n= []
end Go.Proofs.YticmgmemnpcbbaaGreat.Vm
