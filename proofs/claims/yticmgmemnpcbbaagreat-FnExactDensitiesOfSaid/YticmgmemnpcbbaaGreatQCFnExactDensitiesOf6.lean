import Derived.Test.YticmgmemnpcbbaaGreatQCFnExactDensitiesOf5

namespace Go.Proofs.YticmgmemnpcbbaaGreat.Vm
open Go Go.Proofs
set_option linter.unusedSimpArgs false
set_option linter.unusedVariables false
def O3 (k:Nat) (out:ByteArray):ByteArray:=if h:k=0 then out else O3 (k / 10) (oZ [IntKind.u8.wrap (IntKind.i64.wrap (48+(k:Int).tmod 10))]++out)
termination_by k
decreasing_by omega
def W7 (k:Nat):ByteArray:=if k=0 then { data:= #[109,48] } else({ data:= #[109] } :ByteArray)++O3 k { data:= #[] }
theorem Ks {k:Nat} (h:k≠0) (out:ByteArray):O3 k out=O3 (k / 10) (oZ [IntKind.u8.wrap (IntKind.i64.wrap (48+(k:Int).tmod 10))]++out):=by
 rw[O3,dif_neg h]
theorem Kn (out:ByteArray):O3 0 out=out:=by rw[O3,dif_pos rfl]
theorem W5 (k:Nat) (hk:k≤4611686018427387904):RO Tryz.prog 208 [.int .i64 k] (.str (W7 k)):=by
 refine aH Tryz.func208 rfl rfl (by rw[Tryz.ntmps208];simp) fun bl=> ?_
 rw[Tryz.ntmps208,Tryz.results208]
 refine aB ?_
 simp
 refine⟨fun h=> ?_,fun h=> ?_⟩
 ·exact aP (by simp[W7,h]) rfl rfl
 refine aG (fun p:Nat×ByteArray=> [(0,.int .i64 p.1),(3,.str p.2)]) (fun _=>bl) (fun p=>p.1+p.2.size≤k∧O3 p.1 p.2=O3 k { data:= #[] }) (fun p=>p.1) _ (k, { data:= #[] }) ⟨by simp[ByteArray.size],rfl⟩ ⟨rfl,by simp,Sub.refl _⟩ ?_
 rintro⟨n,out⟩ ⟨hn,hd⟩
 simp only at hn hd
 refine aB ?_
 simp
 refine⟨fun h1=> ?_,fun h1=> ?_⟩
 ·intro g hg0 hg
  have hsz: ∀x,(oZ [x]).size=1:=fun x=>rfl
  simp[cvtV,cvtS,elsV,Int.not_lt.2 hg0,bytesOf]
  have h2:=hsz (IntKind.u8.wrap (IntKind.i64.wrap (48+(n:Int).tmod 10)))
  refine⟨by omega,?_⟩
  simp[aA]
  refine⟨n / 10,oZ [IntKind.u8.wrap (IntKind.i64.wrap (48+(n:Int).tmod 10))]++out,⟨?_,?_⟩,by omega,rfl,?_,?_⟩
  ·rw[ByteArray.size_append,h2];omega
  ·rw[←hd];exact(Ks (by omega) out).symm
  ·simp
   exact i64_in (by omega) (by omega)
  ·simp[hg]
 ·have:n=0:=by omega
  subst this
  rw[Kn] at hd
  subst hd
  have h2:({ data:= #[109] } :ByteArray).size=1:=rfl
  simp only[h2]
  refine⟨by omega,?_⟩
  exact aP (by simp[W7,h]) rfl rfl
def mkJ (k n:Nat):List J:=(List.range n).map fun i=>⟨W7 (k+4*i),(k+4*i+1:Nat),(k+4*i+2:Nat),((k+4*i+3:Nat):Int).tmod 3==0⟩
@[simp] theorem aAK (k n : Nat) : (mkJ k n).length = n := by simp [mkJ]
@[simp] theorem aO7 (k n i : Nat) (h : i < (mkJ k n).length) : (mkJ k n)[i] = ⟨W7 (k + 4 * i), (k + 4 * i + 1 : Nat), (k + 4 * i + 2 : Nat), ((k + 4 * i + 3 : Nat) : Int).tmod 3 == 0⟩ := by simp [mkJ]
def mkM (k n:Nat):List Mb:=(List.range n).map fun i=>⟨(k+3*i:Nat),(k+3*i+1:Nat),(k+3*i+2:Nat)⟩
@[simp] theorem aC6 (k n : Nat) : (mkM k n).length = n := by simp [mkM]
@[simp] theorem aPA (k n i : Nat) (h : i < (mkM k n).length) : (mkM k n)[i] = ⟨(k + 3 * i : Nat), (k + 3 * i + 1 : Nat), (k + 3 * i + 2 : Nat)⟩ := by simp [mkM]
theorem Bn {α β:Type} [DecidableEq α] (f:α→β) (a:α) (b:β) (h:f a=b):upd f a b=f:=by
 funext x
 simp only[aC]
 split
 ·rename_i hx;subst hx;exact h.symm
 ·rfl
theorem H5 {bl:Int→Option Blk} {K:V→(Int→Option Blk)→Prop} (xs:List J) (k:Nat) (v:V) (gs:List Int) (h:OwnD bl (fl 4 (jv xs)) v gs) (hk:k+4*xs.length≤4611686018427387000)
  (hK: ∀bl',OwnD bl' (fl 4 (jv (mkJ k xs.length))) v gs→(∀g,g∉gs→bl' g=bl g)→K (.int .i64 (k+4*xs.length:Nat)) bl'):bY Tryz.prog 131 [v,.int .i64 k] bl K:=by
 refine cJ Tryz.func131 rfl rfl (by rw[Tryz.ntmps131];simp) ?_
 rw[Tryz.ntmps131,Tryz.results131]
 refine aB ?_
 rcases R1.1 h with ⟨rfl,rfl,rfl⟩| ⟨g,rfl,rfl,hb,hg0⟩
 ·simp
  refine aG (fun _:Unit=> [(0,.nils),(1,.int .i64 k),(5,.int .i64 0)]) (fun _=>bl) (fun _=>True) (fun _=>0) _ () trivial ⟨rfl,by simp,Sub.refl _⟩ ?_
  intro _ _
  refine aB ?_
  simp
  rw[bW]
  refine⟨[.int .i64 k],by simp,?_⟩
  have:=hK bl (R1.2 (.inl ⟨rfl,rfl,rfl⟩)) (fun _ _=>rfl)
  simpa using this
 ·simp
  refine aG (fun i:Nat=> [(0,.lsl g 4 0 xs.length),(1,.int .i64 (k+4*i:Nat)),(5,.int .i64 i)]) (fun i=>upd bl g (some ⟨4,nG (jv (mkJ k xs.length)) (jv xs) i⟩)) (fun i=>i≤xs.length) (fun i=>xs.length - i) _ 0 (Nat.zero_le _) ⟨rfl,by simp,sub_eq ?_⟩ ?_
  ·exact(Bn _ _ _ (by simpa using hb)).symm
  intro i hi
  refine aB ?_
  simp
  refine⟨fun h1=> ?_,fun h1=> ?_⟩
  ·have h2:i<(jv xs).length:=by simpa using h1
   have hge:0≤g:=by
    rcases Int.lt_or_le g 0 with hlt | hge
    ·have:=hg0 hlt;subst this;simp at h1
    ·exact hge
   have hgi:=tZ (jv (mkJ k xs.length)) (jv xs) i (by simp) h2
   have hgE:=K0 (jv (mkJ k xs.length)) (jv xs) i (by simp) h2
   have hol:i<(nG (jv (mkJ k xs.length)) (jv xs) i).length:=by rw[kI _ _ _ (by simp)];exact h2
   have hm:=W5 (k+4*i) (by omega)
   simp at hm
   simp[h1]
   refine aD hm ?_
   simp (disch:=omega) [h1,hgi,i64_in,J.c,hol,List.getElem?_set_self,List.set_set]
   simp only[aA]
   refine⟨i+1,by omega,by omega,rfl,by simp;omega,sub_eq ?_⟩
   simp only[jJ]
   rw[A4 _ _ _ (by simp) (by simpa using h1) _ (by simp[hgE,J.c,Int.add_assoc])]
  ·have hi':i=xs.length:=by omega
   subst hi'
   rw[bW]
   refine⟨[.int .i64 (k+4*xs.length:Nat)],by simp,?_⟩
   refine hK _ (R1.2 (.inr ⟨g,by simp,rfl,?_,fun h=>by have:=hg0 h;subst this;rfl⟩)) (fun g' hg'=> ?_)
   ·simp;rw[B4 _ _ _ (by simp) (by simp)]
   ·simp at hg';simp[hg']
theorem pS {bl:Int→Option Blk} {K:V→(Int→Option Blk)→Prop} (xs:List Mb) (k:Nat) (v:V) (gs:List Int) (h:OwnD bl (fl 3 (mv xs)) v gs) (hk:k+3*xs.length≤4611686018427387000)
  (hK: ∀bl',OwnD bl' (fl 3 (mv (mkM k xs.length))) v gs→(∀g,g∉gs→bl' g=bl g)→K (.int .i64 (k+3*xs.length:Nat)) bl'):bY Tryz.prog 132 [v,.int .i64 k] bl K:=by
 refine cJ Tryz.func132 rfl rfl (by rw[Tryz.ntmps132];simp) ?_
 rw[Tryz.ntmps132,Tryz.results132]
 refine aB ?_
 rcases U1.1 h with ⟨rfl,rfl,rfl⟩| ⟨g,rfl,rfl,hb,hg0⟩
 ·simp
  refine aG (fun _:Unit=> [(0,.nils),(1,.int .i64 k),(5,.int .i64 0)]) (fun _=>bl) (fun _=>True) (fun _=>0) _ () trivial ⟨rfl,by simp,Sub.refl _⟩ ?_
  intro _ _
  refine aB ?_
  simp
  rw[bW]
  refine⟨[.int .i64 k],by simp,?_⟩
  have:=hK bl (U1.2 (.inl ⟨rfl,rfl,rfl⟩)) (fun _ _=>rfl)
  simpa using this
 ·simp
  refine aG (fun i:Nat=> [(0,.lsl g 3 0 xs.length),(1,.int .i64 (k+3*i:Nat)),(5,.int .i64 i)]) (fun i=>upd bl g (some ⟨3,nG (mv (mkM k xs.length)) (mv xs) i⟩)) (fun i=>i≤xs.length) (fun i=>xs.length - i) _ 0 (Nat.zero_le _) ⟨rfl,by simp,sub_eq ?_⟩ ?_
  ·exact(Bn _ _ _ (by simpa using hb)).symm
  intro i hi
  refine aB ?_
  simp
  refine⟨fun h1=> ?_,fun h1=> ?_⟩
  ·have h2:i<(mv xs).length:=by simpa using h1
   have hge:0≤g:=by
    rcases Int.lt_or_le g 0 with hlt | hge
    ·have:=hg0 hlt;subst this;simp at h1
    ·exact hge
   have hgi:=tZ (mv (mkM k xs.length)) (mv xs) i (by simp) h2
   have hgE:=K0 (mv (mkM k xs.length)) (mv xs) i (by simp) h2
   have hol:i<(nG (mv (mkM k xs.length)) (mv xs) i).length:=by rw[kI _ _ _ (by simp)];exact h2
   simp (disch:=omega) [h1,hgi,i64_in,Mb.c,hol,List.getElem?_set_self,List.set_set]
   simp only[aA]
   refine⟨i+1,by omega,by omega,rfl,by simp;omega,sub_eq ?_⟩
   simp only[jJ]
   rw[A4 _ _ _ (by simp) (by simpa using h1) _ (by simp[hgE,Mb.c,Int.add_assoc])]
  ·have hi':i=xs.length:=by omega
   subst hi'
   rw[bW]
   refine⟨[.int .i64 (k+3*xs.length:Nat)],by simp,?_⟩
   refine hK _ (U1.2 (.inr ⟨g,by simp,rfl,?_,fun h=>by have:=hg0 h;subst this;rfl⟩)) (fun g' hg'=> ?_)
   ·simp;rw[B4 _ _ _ (by simp) (by simp)]
   ·simp at hg';simp[hg']
def mkS (k:Nat) (s:Str):Str:=⟨mkJ k s.js.length,mkM (k+4*s.js.length) s.ms.length⟩
def mkN (k:Nat) (s:Str):Nat:=k+4*s.js.length+3*s.ms.length
theorem vZ {bl:Int→Option Blk} {K:V→(Int→Option Blk)→Prop} (s:Str) (k:Nat) (vs:List V) (gs:List Int) (h:OwnL bl (G4 s) vs gs) (hk:mkN k s≤4611686018427387000)
  (hK: ∀bl',OwnL bl' (G4 (mkS k s)) vs gs→(∀g,g∉gs→ ∀b,bl g=some b→bl' g=some b)→K (.int .i64 (mkN k s:Nat)) bl'):bY Tryz.prog 56 [.agg vs,.int .i64 k] bl K:=by
 obtain⟨v,w,g1,g2,rfl,rfl,hd,o1,o2⟩:=jO.1 h
 obtain⟨c1,c2⟩:=o1.one
 obtain⟨d1,d2⟩:=o2.one
 unfold mkN at hk
 refine cJ Tryz.func56 rfl rfl (by rw[Tryz.ntmps56];simp) ?_
 rw[Tryz.ntmps56,Tryz.results56]
 refine aB ?_
 simp[c1,d1]
 intro g hg0 hg
 have f1: ∀x,x∈g1→x≠g:=fun x hx h=>by obtain⟨b,hb⟩:=o1.has x hx;rw[h,hg] at hb;cases hb
 have f2: ∀x,x∈g2→x≠g:=fun x hx h=>by obtain⟨b,hb⟩:=o2.has x hx;rw[h,hg] at hb;cases hb
 refine H5 s.js k v g1 (o1.frame fun x hx=>by simp[f1 x hx]) (by omega) fun b1 p1 q1=> ?_
 have n1:b1 g=some ⟨2,[[v,w]]⟩:=by rw[q1 g (fun h=>f1 g h rfl)];simp
 have p2:OwnD b1 (fl 3 (mv s.ms)) w g2:=o2.frame fun x hx=>by rw[q1 x (fun h=>hd x h hx)];simp[f2 x hx]
 simp[n1]
 have:=pS (bl:=b1) (K:=K) s.ms (k+4*s.js.length) w g2 p2 (by omega)
 refine pS s.ms (k+4*s.js.length) w g2 p2 (by omega) fun b2 p3 q3=> ?_
 simp
 rw[bW]
 refine⟨[_],by simp;rfl,?_⟩
 have:=hK b2 (jO.2 ⟨v,w,g1,g2,rfl,rfl,hd,p1.frame fun x hx=>q3 x (hd x hx),p3⟩) (fun x hx b hb=> ?_)
 ·simpa [mkN] using this
 ·simp at hx
  rw[q3 x hx.2,q1 x hx.1]
  simp only[aC]
  rw[if_neg (fun e=>by subst e;rw[hg] at hb;cases hb)];exact hb

end Go.Proofs.YticmgmemnpcbbaaGreat.Vm

namespace Go.Proofs.YticmgmemnpcbbaaGreat.Vm
open Go Go.Proofs
set_option linter.unusedSimpArgs false
set_option linter.unusedVariables false
def aSU (s:Str):List Int:=if sOk s=true then List.replicate (2*s.js.length) 0 else []

def aVV (s:Str):List Int:=if sOk s=true then aQ s.js else []
theorem rN (s:Str) (hj:s.js.length≤1048576):RO Tryz.prog 74 [.ptr s.c] (.sl (iv (aQ s.js))):=by
 have:=fU 1 (G7 s hj) (jL _ _ 0)
 simpa using this
theorem Di (s:Str) (hj:s.js.length≤1048576):NW Tryz.prog 93 [.agg s.c] (fl 1 (iv (aQ s.js))):=by
 refine iQ Tryz.func93 rfl rfl (by rw[Tryz.ntmps93];simp) fun bl=> ?_
 rw[Tryz.ntmps93,Tryz.results93]
 refine aB ?_
 simp[Str.c]
 intro gs Ti hgs g00 tD aMK aBN
 simp[aMK,Ne.symm aMK]
 refine aG (fun p:Nat×Int=> [(3,.lsl p.2 1 0 (bS s.js p.1).length),(8,.sl (jv s.js)),(9,.int .i64 s.js.length),(10,.int .i64 p.1)]) (fun p=>upd bl p.2 (some ⟨1,iv (bS s.js p.1)⟩)) (fun p=>p.1≤s.js.length∧bl p.2=none∧(p.2<0→bS s.js p.1= [])) (fun p=>s.js.length - p.1) _ (0,g00) ⟨Nat.zero_le _,aBN,fun _=>rfl⟩ (by refine⟨rfl,by simp[bS],?_⟩;exact dA (by simp[bS,iv]) (by simp[hgs])) ?_
 rintro⟨i,g⟩ ⟨hi,hg,h0⟩
 simp only at hi hg h0
 have hl:=iU s.js i
 refine aB ?_
 simp
 refine⟨fun h=> ?_,fun h=> ?_⟩
 ·simp[h,J.c]
  intro g1 hg1 h1g hb1
  refine⟨fun hf=> ?_,fun hf=> ?_⟩
  ·intro g2 hg2 h21 h2g hb2
   simp[h1g,h21,h2g,Ne.symm h1g,Ne.symm h21,Ne.symm h2g,appV,elsV,Int.not_lt.2 hg2]
   refine⟨by omega,fun g3 hg3 hb3=> ?_⟩
   have fV:bl g3=none:=by grind
   simp (disch:=omega) [i64_in,aA]
   have hjf:(s.js.getD i default).fixed=false:=by simpa [h] using hf
   have hs1:bS s.js (i+1)=bS s.js i++ [(i:Int)]:=by rw[kV,hjf];rfl
   refine⟨i+1,g3,⟨by omega,fV,by omega⟩,by omega,rfl,by simp[hs1],?_⟩
   rw[hs1,aV]
   exact dA (by rw[dF];rfl) (by simp[hg,hb1,hb2,h1g,h21,h2g])
  ·simp (disch:=omega) [i64_in,aA]
   have hjf:(s.js.getD i default).fixed=true:=by simpa [h] using hf
   have hs1:bS s.js (i+1)=bS s.js i:=by rw[kV,hjf];simp
   refine⟨i+1,g,⟨by omega,hg,by rw[hs1];exact h0⟩,by omega,rfl,by simp[hs1],?_⟩
   rw[hs1]
   simp[hb1,h1g]
 ·have hi:i=s.js.length:=by omega
  subst hi
  refine fJ [.lsl g 1 0 (bS s.js s.js.length).length] [g] (by simp) ?_ (by simpa using hg) (by simp[hg])
  refine dH.2 (.inr ⟨g,rfl,rfl,by simp[aQ],h0⟩)
theorem sT (s:Str) (hj:s.js.length≤1048576):RO Tryz.prog 93 [.agg s.c] (.sl (iv (aQ s.js))):=by
 have:=fU 1 (Di s hj) (jL _ _ 0)
 simpa using this
def aVH (s:Str):Int:=if sOk s=true then s.ms.length - 2*(aQ s.js).length else 0
end Go.Proofs.YticmgmemnpcbbaaGreat.Vm

namespace Go.Proofs.YticmgmemnpcbbaaGreat.Vm
open Go Go.RowKit
set_option linter.unusedSimpArgs false
set_option linter.unusedVariables false
theorem tM {P:Program} {ops:Array Oper} {blK:Int→Option Blk} {K:St→Prop} : ∀(is js:List Nat) (σ:St),Hoist P ops blK is (fun σ'=>Hoist P ops blK js K σ') σ→Hoist P ops blK (is++js) K σ
 | [], js, σ, h => h
 | i :: is, js, σ, h => by
   rw[List.cons_append]
   unfold Hoist at h ⊢
   split at h
   ·obtain⟨v,h1,h2⟩:=h
    exact⟨v,h1,tM is js _ h2⟩
   ·exact h.elim
theorem wZ {P:Program} {ds:List (Option Tmp)} {blK:Int→Option Blk} {K K':St→Prop} (hK: ∀σ,K σ→K' σ): ∀(l:List Oper) (σ:St),HoistF P ds blK l K σ→HoistF P ds blK l K' σ
 | [], σ, h => hK σ h
 | o :: rest, σ, h => by
   have next: ∀v,HoistF P ds blK rest K (σ.put o.dst v)→HoistF P ds blK rest K' (σ.put o.dst v):=fun v hv=>wZ hK rest _ hv
   unfold HoistF at h ⊢
   cases hg:o.guard with
   | none=>
     simp only[hg] at h ⊢
     split at h
     ·obtain⟨p,h1,v,n,ys,h2,h3⟩:=h
      exact⟨p,h1,v,n,ys,h2,next v h3⟩
     ·obtain⟨v,h1,h2⟩:=h
      exact⟨v,h1,next v h2⟩
   | some jb=>
     obtain⟨j,b⟩:=jb
     simp only[hg] at h ⊢
     split at h
     ·rename_i d hd
      split at h
      ·split at h
       ·rename_i hq
        obtain⟨v,h1,h2⟩:=h
        rw[if_pos hq]
        exact⟨v,h1,next v h2⟩
       ·rename_i hq
        rw[if_neg hq]
        exact next _ h
      ·exact next _ h
      ·exact h.elim
     ·exact h.elim
def HStep (P:Program) (ops:Array Oper) (blK:Int→Option Blk) (i:Nat) (K:St→Prop) (σ:St):Prop:=match ops[i]? with
 | some o => ∃ v, DY P ops blK o σ v ∧ K (σ.put o.dst v)
 | none => False
theorem aF6 {P:Program} {id:Nat} {ops:Array Oper} {K:Ex→St→Prop} {σ:St} (hm:P.follows .mixedOrders=true) (blK:Int→Option Blk) (hs:Sub blK σ.bl) (is1:List Nat) (i:Nat) (is2:List Nat) (fuel:Nat)
  (hn:(ops.size==fuel+(is1++i::is2).length && (is1++i::is2).all (fun i=>decide (i<ops.size))&& hoistB ops (is1++i::is2) (Array.replicate ops.size false))=true)
  (h:HoistF P (ops.toList.map (·.dst)) blK (is1.filterMap fun i=>ops[i]?) (HStep P ops blK i (HoistF P (ops.toList.map (·.dst)) blK (is2.filterMap fun i=>ops[i]?) (jW P ops blK (fun _=>false) (K .normal) fuel (iJ (is1++i::is2) (Array.replicate ops.size false))))) σ):AW P (.region id ops true) K σ:=by
 simp only[Bool.and_eq_true,beq_iff_eq] at hn
 have bH:=List.all_eq_true.1 hn.1.2
 have f1:is1.all (fun i=>decide (i<ops.size))=true:=List.all_eq_true.2 fun x hx=>bH x (List.mem_append_left _ hx)
 have f2:is2.all (fun i=>decide (i<ops.size))=true:=List.all_eq_true.2 fun x hx=>bH x (List.mem_append_right _ (List.mem_cons_of_mem _ hx))
 refine iN hm (is1++i::is2) fuel blK hs hn.1.1 hn.2 (tl:=fun _=>false) (fun _ _ _ _ h=>by cases h) (tM is1 (i::is2) σ (gH _ is1 σ (filter_some is1 f1) ?_))
 refine wZ (fun σ' h'=> ?_) _ _ h
 unfold HStep at h'
 unfold Hoist
 split at h'
 ·rename_i o ho
  obtain⟨v,h1,h2⟩:=h'
  rw[ho]
  exact⟨v,h1,gH _ is2 _ (filter_some is2 f2) h2⟩
 ·exact h'.elim
theorem sZ {P:Program} {id:Nat} {ops:Array Oper} {K:Ex→St→Prop} {σ:St} (hm:P.follows .mixedOrders=true) (blK:Int→Option Blk) (hs:Sub blK σ.bl) (is:List Nat) (fuel n:Nat) (hn:(ops.size==fuel+is.length && is.all (fun i=>decide (i<ops.size))&& hoistB ops is (Array.replicate ops.size false)&& K5 ops (fun j=>decide (n≤j)) is)=true)
  (h:HoistF P (ops.toList.map (·.dst)) blK (is.filterMap fun i=>ops[i]?) (jW P ops blK (fun j=>decide (n≤j)) (K .normal) fuel (iJ is (Array.replicate ops.size false))) σ):AW P (.region id ops true) K σ:=by
 simp only[Bool.and_eq_true,beq_iff_eq] at hn
 exact iN hm is fuel blK hs hn.1.1.1 hn.1.2 (tl:=fun j=>decide (n≤j)) (lW hn.2) (gH _ is σ (filter_some is hn.1.1.2) h)
end Go.Proofs.YticmgmemnpcbbaaGreat.Vm

namespace Go.Proofs.YticmgmemnpcbbaaGreat.Vm
open Go Go.Proofs
set_option linter.unusedSimpArgs false
set_option linter.unusedVariables false
def lN (l:List Int) (k:Nat):Int:=l.getD k 0
def fX (s:Str) (l:List Int) (q:List (Option Rat)) (i:Nat):Option Rat:=op2 (· + ·) (pX s q i) (some (lN l (2*i):Rat))
def fY (s:Str) (l:List Int) (q:List (Option Rat)) (i:Nat):Option Rat:=op2 (· + ·) (pY s q i) (some (lN l (2*i+1):Rat))
def isZ (x:Option Rat):Bool:=x.isSome && decide (sgq x=0)
def aSZ (s:Str) (l:List Int) (q:List (Option Rat)) (i:Nat):Bool:=isZ (fX s l q i)&& isZ (fY s l q i)
def aVE (s:Str) (l:List Int) (q:List RT):Bool:=(Gs s q && mM s.js l)&& (aQ s.js).all fun j=>aSZ s l (cO q) j.toNat
def aWQ (s:Str) (l:List Int) (q:List RT) (i:Nat):List RT:=if cH [pX s (cO q) i,pY s (cO q) i]=true then [ro (fX s l (cO q) i),ro (fY s l (cO q) i)] else []
def aWN (s:Str) (l:List Int) (q:List RT) (i:Nat):Bool:=cH [fX s l (cO q) i,fY s l (cO q) i]

theorem aB7 (x:Option Rat):RO Tryz.prog 103 [fv x] (fv (x.map (- ·))):=by
 cases x with
 | none =>
   refine aH Tryz.func103 rfl rfl (by rw[Tryz.ntmps103];simp) fun bl=> ?_
   rw[Tryz.ntmps103,Tryz.results103]
   refine aB ?_
   simp[fv]
   exact aP (by simp) rfl rfl
 | some q =>
   have hop:=mG q.num
   rw[bO,bO,Int.natAbs_neg] at hop
   refine aH Tryz.func103 rfl rfl (by rw[Tryz.ntmps103];simp) fun bl=> ?_
   rw[Tryz.ntmps103,Tryz.results103]
   refine aB ?_
   rw[show fv (some q)= .ptr (rq q).c from rfl,gW,show fv ((some q).map (- ·))= .ptr [.bool (decide (-q.num<0)),.sl (iv (lim q.num.natAbs)),.sl (iv (lim q.den))] by
    show V.ptr (rq (-q)).c=_
    rw[gW]
    show V.ptr [.bool (decide (-q.num<0)),.sl (iv (lim (-q.num).natAbs)),.sl (iv (lim q.den))]=_
    rw[Int.natAbs_neg]]
   simp
   refine aW aM bl (Sub.refl _) [0,1,2,3,4,5,6,7,8] 3 (by kernel_rfl) ?_
   simp
   refine aN hop ?_
   simp
   refine Dz 9 ?_
   simp
   refine Dz 10 ?_
   simp
   intro g hg0 hg
   refine⟨by simp[hg],Dz 11 ?_⟩
   simp
   refine⟨by simp[hg],Dy ?_⟩
   simp
   refine aJ [.loc g 3 0 0] 1 (by simp) ?_ (by simp[hg])
   show frz _ 1 (.loc g 3 0 0)=_
   rw[qQ (e:= [.bool (decide (0<q.num)),.sl (iv (lim q.num.natAbs)),.sl (iv (lim q.den))]) (by simp[dropB,hg])]
   rfl
def aUO (s:Str) (l:List Int) (q:List RT) (j:Int):Bool:=(Gs s q && mM s.js l)&& ((decide (0≤j)&& decide (j<s.js.length))&& (s.js.getD j.toNat default).fixed)
def aVZ (s:Str) (l:List Int) (q:List RT) (j:Int):List (Option Rat):=if aUO s l q j=true then [(fX s l (cO q) j.toNat).map (- ·),(fY s l (cO q) j.toNat).map (- ·)] else [none]

def idx (js:List J) (i:Nat):Nat:=(bS js i).length
def fxd (js:List J) (i:Nat):Bool:=(js.getD i default).fixed
def dAt (js:List J) (d:List (Option Rat)) (t p:Nat):Option Rat:=if fxd js (p / 2)=true then some 0 else if idx js (p / 2)<t then d.getD (2*idx js (p / 2)+p % 2) none else some 0
def dsp (js:List J) (d:List (Option Rat)) (t:Nat):List (Option Rat):=(List.range (2*js.length)).map (dAt js d t)
def aWJ (js:List J) (d:List (Option Rat)):List (Option Rat):=dsp js d (aQ js).length
def dX (js:List J) (d:List (Option Rat)) (i:Nat):Option Rat:=if fxd js i=true then some 0 else d.getD (2*idx js i) none
def dY (js:List J) (d:List (Option Rat)) (i:Nat):Option Rat:=if fxd js i=true then some 0 else d.getD (2*idx js i+1) none
theorem uW {d:List (Option Rat)} (hd:okL d) (i:Nat):okQ (d.getD i none):=by
 rcases Nat.lt_or_ge i d.length with h | h
 ·rw[gY _ _ _ h];exact hd _ (List.getElem_mem h)
 ·rw[List.getD_eq_getElem?_getD,List.getElem?_eq_none h];exact fun _ e=>by cases e
theorem Qk :okQ (some 0):=fun x h=>by cases h;exact Lm
def Yq (s:Str) (d:List RT):Bool:=(sOk s && decide (d.length=2*(aQ s.js).length))&& lL d

def aW3 (s:Str) (k:Int):Int:=IntKind.i64.wrap (IntKind.i64.wrap (aMY s k*aMY s k)+IntKind.i64.wrap (aJU s k*aJU s k))

def lat (l:List Int) (i:Nat):Int:=l.getD i 0
theorem rV {l:List Int} {i:Nat} (h:i<l.length):(iv l)[i]? =some [.int .i64 (lat l i)]:=by simp[lat,h]
structure LOk (s : Str) (l : List Int) : Prop where
 sok:SOk s
 n:l.length=2*s.js.length
 f: ∀i,i<l.length→ -100≤lat l i∧lat l i≤100
theorem Mr {js:List J} {l:List Int} (h:mM js l=true):l.length=2*js.length∧ ∀i,i<l.length→ -100≤lat l i∧lat l i≤100:=by
 unfold mM at h
 simp only[Bool.and_eq_true,decide_eq_true_eq] at h
 refine⟨h.1,fun i hi=> ?_⟩
 have:=List.all_eq_true.1 h.2 l[i] (List.getElem_mem hi)
 simp[fF] at this
 simpa [lat,hi] using this
theorem qF {s:Str} {l:List Int} (h:lOk s l=true):LOk s l:=by
 unfold lOk at h
 simp only[Bool.and_eq_true] at h
 obtain⟨h1,h2⟩:=Mr h.2
 exact⟨Q9 h.1,h1,h2⟩
def sumX (l:List Int):Nat→Int
 | 0 => 0
 | n + 1 => sumX l n + lat l (2 * n)
def aMJ (l:List Int):Nat→Int
 | 0 => 0
 | n + 1 => aMJ l n + lat l (2 * n + 1)
def aWP (s:Str) (l:List Int):Int:=if lOk s l=true then sumX l s.js.length else 0
def aWT (s:Str) (l:List Int):Int:=if lOk s l=true then aMJ l s.js.length else 0
def Xm (s:Str) (l:List Int) (x y:Int):Nat→Int
 | 0 => 0
 | n + 1 => Xm s l x y n + ((jat s.js n).x - x) * lat l (2 * n + 1) - ((jat s.js n).y - y) * lat l (2 * n)
def aN4 (s:Str) (l:List Int) (x y:Int):Bool:=lOk s l && (decide (-1000≤x)&& decide (x≤1000))&& (decide (-1000≤y)&& decide (y≤1000))
def aVI (s:Str) (l:List Int) (x y:Int):Int:=if aN4 s l x y=true then Xm s l x y s.js.length else 0

theorem G6 (l:List Int) (k:Int) (hl:l.length≤140737488351232):RO Tryz.prog 281 [.sl (iv l),.int .i64 k] (.int .i64 (ixf (fun x=>decide (k=x)) l)):=by
 refine aH Tryz.func281 rfl rfl (by rw[Tryz.ntmps281];simp) fun bl=> ?_
 rw[Tryz.ntmps281,Tryz.results281]
 refine aB ?_
 simp
 refine aG (fun i:Nat=> [(0,.sl (iv l)),(1,.int .i64 k),(7,.int .i64 l.length),(8,.int .i64 i)]) (fun _=>bl) (fun i=>i≤l.length∧ ∀j (h1:j<l.length),j<i→decide (k=l[j])=false) (fun i=>l.length - i) _ 0 ⟨Nat.zero_le _,fun j _ h0=>by omega⟩ ⟨rfl,by simp,Sub.refl _⟩ ?_
 intro i ⟨hi,hc⟩
 refine aB ?_
 simp
 refine⟨fun h1=> ?_,fun h1=> ?_⟩
 ·simp[h1]
  refine⟨fun h2=> ?_,fun h2=> ?_⟩
  ·exact aP (by rw[qJ (p:=fun x=>decide (k=x)) h1 hc (by simpa using h2)];simp) rfl rfl
  ·simp (disch:=omega) [i64_in,aA]
   refine⟨i+1,⟨by omega,fun j hj1 hji=> ?_⟩,by omega,rfl,by simp,Sub.refl _⟩
   rcases Nat.lt_or_ge j i with hlt | hge
   ·simpa using hc j hj1 hlt
   ·obtain rfl:j=i:=by omega
    simpa using h2
 ·exact aP (by rw[pZ (p:=fun x=>decide (k=x)) fun j hj=>hc j hj (by omega)];simp) rfl rfl
theorem any_eq (l:List Int) (k:Int):(l.any fun x=>decide (k=x))=decide (k∈l):=by
 rw[Bool.eq_iff_iff];simp
theorem vJ (l:List Int) (k:Int) (hl:l.length≤140737488351232):RO Tryz.prog 255 [.sl (iv l),.int .i64 k] (.bool (decide (k∈l))):=by
 refine aH Tryz.func255 rfl rfl (by rw[Tryz.ntmps255];simp) fun bl=> ?_
 rw[Tryz.ntmps255,Tryz.results255]
 refine aB ?_
 simp
 refine aD (G6 l k hl) ?_
 simp
 exact aP (by simp[Df,any_eq]) rfl rfl

def aA6 (ms:List Mb) (l:List Int) (n:Nat):List Mb:=((List.range n).filter fun(i:Nat)=> !decide ((i:Int)∈l)).map fun(i:Nat)=>ms.getD i default
def aR4 (s:Str) (l:List Int):Str:=⟨s.js,aA6 s.ms l s.ms.length⟩

end Go.Proofs.YticmgmemnpcbbaaGreat.Vm

namespace Go.Proofs.YticmgmemnpcbbaaGreat.Vm
open Go Go.Proofs
set_option linter.unusedSimpArgs false
set_option linter.unusedVariables false
def ivv (ws:List (List Int)):List (List V):=ws.map fun w=> [.sl (iv w)]
def dII (ws:List (List Int)):D:= .s 1 (ws.map fun w=> [fl 1 (iv w)])
@[simp] theorem aA1 (ws : List (List Int)) : (ivv ws).length = ws.length := by simp [ivv]
@[simp] theorem aJC (ws : List (List Int)) (i : Nat) (h : i < (ivv ws).length) : (ivv ws)[i] = [.sl (iv (ws[i]'(by simpa using h)))] := by simp [ivv]
theorem aDO (ws:List (List Int)):(dII ws).fz= .sl (ivv ws):=by
 unfold dII ivv
 rw[D.fz,yW,List.map_map]
 congr 1
 exact List.map_congr_left fun w _=>by simp
theorem Ur (ws:List (List Int)):(dII ws).dep 2:=by
 unfold dII
 rw[D.dep]
 refine⟨by omega,?_⟩
 induction ws with
 | nil => simp [D.depR]
 | cons w ws ih => simp [D.depR, D.depL, jL] at ih ⊢; exact ih

def dU (s:Str) (j:Int):List Int:=s.ms.map (eqX s j)
def eL (s:Str) (j:Int):List Int:=s.ms.map (eqY s j)
def gE (s:Str):List (List Int):=(aQ s.js).flatMap fun j=> [dU s j,eL s j]
def A2 (s:Str) (n:Nat):List (List Int):=((aQ s.js).take n).flatMap fun j=> [dU s j,eL s j]
theorem M8 (s:Str) (n:Nat) (h:n<(aQ s.js).length):A2 s (n+1)=A2 s n++ [dU s (aQ s.js)[n],eL s (aQ s.js)[n]]:=by
 unfold A2
 rw[List.take_add_one,List.getElem?_eq_getElem h,List.flatMap_append]
 simp
theorem pM (s:Str): ∀n,n≤(aQ s.js).length→(A2 s n).length=2*n
 | 0, _ => by simp [A2]
 | n + 1, h => by
   rw[M8 s n (by omega),List.length_append,pM s n (by omega)]
   simp;omega
@[simp] theorem mH (s : Str) (j : Int) : (dU s j).length = s.ms.length := by simp [dU]
@[simp] theorem mN (s : Str) (j : Int) : (eL s j).length = s.ms.length := by simp [eL]
theorem yX {s:Str} {k:Nat} (h:k<s.ms.length):mat s k=s.ms[k]:=by simp[mat,h]
theorem Lh {s:Str} (hs:SOk s) {m:Mb} (hm:m∈s.ms):(-100≤vx s m∧vx s m≤100)∧(-100≤vy s m∧vy s m≤100):=by
 obtain⟨⟨a1,a2⟩,⟨b1,b2⟩⟩:=hs.ix _ hm
 have ca:=hs.at a1 a2
 have cb:=hs.at b1 b2
 unfold vx vy
 omega
structure Yu where
 i:Nat
 g:Int
 els:List (List V)
 gs:List Int
 b:Int→Option Blk
theorem lJ (xs:List (List V)) (z:List V) (i:Nat) (h:i<xs.length) (hz:xs[i]=z):part xs z i=part xs z (i+1):=by
 rw[←cI xs z i h z hz.symm]
 have:=dJ xs z i h
 apply List.ext_getElem?
 intro j
 rw[List.getElem?_set]
 split
 ·rename_i e;subst e;rw[if_pos (by rw[xO];exact h)];exact this
 ·rfl
def Lz (bl:Int→Option Blk) (s:Str) (p:Yu):Prop:=
 p.i≤(aQ s.js).length∧p.b p.g=some ⟨1,p.els⟩∧p.els.length=2*p.i∧OwnR p.b 1 ((A2 s p.i).map fun w=> [fl 1 (iv w)]) p.els p.gs∧p.g∉p.gs∧bl p.g=none∧(∀x,x∈p.gs→bl x=none)∧Sub bl p.b∧(p.g<0→p.els= [])
theorem sS {bl:Int→Option Blk} {s:Str} {i:Nat} {g:Int} {els:List (List V)} {gs:List Int} {b:Int→Option Blk} (H:Lz bl s ⟨i,g,els,gs,b⟩) (h:i<(aQ s.js).length)
  {ga gb gp gn:Int} (hga:0≤ga) (hba:b ga=none) (hgb:0≤gb) (hab: ¬gb=ga) (hbb:b gb=none) (hpa: ¬gp=ga) (hpb: ¬gp=gb) (hbp:b gp=none) (hgn:0≤gn)
  (hbn: ¬gn=g→ ¬gn=gp∧ ¬gn=gb∧ ¬gn=ga∧b gn=none):
  Lz bl s ⟨i+1,gn,els++ [[.lsl ga 1 0 s.ms.length]]++ [[.lsl gb 1 0 s.ms.length]],gs++ [ga]++ [gb],
   upd (rem (upd (upd (upd b ga (some ⟨1,iv (dU s (aQ s.js)[i])⟩)) gb (some ⟨1,iv (eL s (aQ s.js)[i])⟩)) gp (some ⟨1,[[.lsl ga 1 0 s.ms.length],[.lsl gb 1 0 s.ms.length]]⟩)) g) gn
    (some ⟨1,els.take (2*i)++ [[.lsl ga 1 0 s.ms.length],[.lsl gb 1 0 s.ms.length]]⟩)⟩:=by
 obtain⟨hi,hb,hel,ho,hn,hg,hf,hsb,bP⟩:=H
 simp only at hi hb hel ho hn hg hf hsb bP
 have nga:ga≠g:=fun e=>by rw[e,hb] at hba;cases hba
 have ngb:gb≠g:=fun e=>by rw[e,hb] at hbb;cases hbb
 have ngp:gp≠g:=fun e=>by rw[e,hb] at hbp;cases hbp
 have fa:=bZ hsb hba
 have fb:=bZ hsb hbb
 have fp:=bZ hsb hbp
 have na:gn≠ga:=fun e=>by
  by_cases c:gn=g
  ·exact nga (e.symm.trans c)
  ·exact(hbn c).2.2.1 e
 have nb:gn≠gb:=fun e=>by
  by_cases c:gn=g
  ·exact ngb (e.symm.trans c)
  ·exact(hbn c).2.1 e
 have fn:bl gn=none:=by
  by_cases c:gn=g
  ·rw[c];exact hg
  ·exact bZ hsb (hbn c).2.2.2
 have nn:gn∉gs:=by
  by_cases c:gn=g
  ·rw[c];exact hn
  ·exact ho.not (hbn c).2.2.2
 have key: ∀(B:Int→Option Blk) (u v w z:Option Blk),B=upd (rem (upd (upd (upd b ga u) gb v) gp w) g) gn z→ ∀x y,x≠g→x≠gn→b x=some y→B x=some y:=by
  intro B u v w z hB x y c1 c2 hx
  have c3:x≠ga:=fun e=>by rw[e,hba] at hx;cases hx
  have c4:x≠gb:=fun e=>by rw[e,hbb] at hx;cases hx
  have c5:x≠gp:=fun e=>by rw[e,hbp] at hx;cases hx
  rw[hB];simp[c1,c2,c3,c4,c5,hx]
 have vx1: ∀xs:List Int,(iv xs).all (fun r=>r.all V.cl)=true:=fun xs=>by simp[iv,V.cl]
 have vx2: ∀(xs:List Int) r,r∈iv xs→r.length=1:=fun xs r hr=>by
  simp[iv] at hr
  obtain⟨_,_,rfl⟩:=hr;rfl
 have et:els.take (2*i)=els:=List.take_of_length_le (by omega)
 refine⟨by simp only;omega,by simp[et],by simp[hel];omega,?_,?_,fn,?_,?_,fun e=>by simp only at e;omega⟩
 ·simp only
  rw[M8 s i h,List.map_append,show(∀(A:List (List D)) (x y:List Int),A++ [x,y].map (fun w=> [fl 1 (iv w)])=A++ [[fl 1 (iv x)]]++ [[fl 1 (iv y)]]) from fun A x y=>by simp]
  generalize hB:upd (rem (upd (upd (upd b ga (some ⟨1,iv (dU s (aQ s.js)[i])⟩)) gb (some ⟨1,iv (eL s (aQ s.js)[i])⟩)) gp (some ⟨1,[[.lsl ga 1 0 s.ms.length],[.lsl gb 1 0 s.ms.length]]⟩)) g) gn
    (some ⟨1,els.take (2*i)++ [[.lsl ga 1 0 s.ms.length],[.lsl gb 1 0 s.ms.length]]⟩)=B
  have o0:=ho.eG fun x hx y hy=>key _ _ _ _ _ hB.symm x y (fun e=>hn (e▸hx)) (fun e=>nn (e▸hx)) hy
  have oa:OwnD B (fl 1 (iv (dU s (aQ s.js)[i]))) (.lsl ga 1 0 s.ms.length) [ga]:=(sV (vx1 _) (vx2 _)).2 (.inr ⟨ga,by simp,rfl,by rw[←hB];simp[Ne.symm na,Ne.symm hpa,Ne.symm hab,nga],by omega⟩)
  have ob:OwnD B (fl 1 (iv (eL s (aQ s.js)[i]))) (.lsl gb 1 0 s.ms.length) [gb]:=(sV (vx1 _) (vx2 _)).2 (.inr ⟨gb,by simp,rfl,by rw[←hB];simp[Ne.symm nb,Ne.symm hpb,ngb],by omega⟩)
  refine OwnR.snoc (oE.2 ob) rfl (by simp) (OwnR.snoc (oE.2 oa) rfl (by simp) o0 ?_) ?_
  ·intro x hx hx2
   rw[List.mem_singleton] at hx2
   exact ho.not hba (hx2▸hx)
  ·intro x hx hx2
   rw[List.mem_singleton] at hx2
   subst hx2
   rcases List.mem_append.1 hx with hx | hx
   ·exact ho.not hbb hx
   ·rw[List.mem_singleton] at hx;exact hab hx
 ·simp[nn,na,nb]
 ·intro x hx
  simp at hx
  rcases hx with hx | hx | hx
  ·exact hf x hx
  ·rw[hx];exact fa
  ·rw[hx];exact fb
 ·intro x y hx
  exact key _ _ _ _ _ rfl x y (fun e=>by rw[e,hg] at hx;cases hx) (fun e=>by rw[e,fn] at hx;cases hx) (hsb x y hx)
set_option maxHeartbeats 2000000 in
theorem zZ (s:Str) (hs:SOk s):NW Tryz.prog 148 [.ptr s.c] (dII (gE s)):=by
 have h6:=hs.nj
 have h8:=hs.nm
 have hfr:=iU s.js s.js.length
 change(aQ s.js).length≤s.js.length at hfr
 refine iQ Tryz.func148 rfl rfl (by rw[Tryz.ntmps148];simp) fun bl=> ?_
 rw[Tryz.ntmps148,Tryz.results148]
 refine aB ?_
 simp
 refine aD (rN s (by omega)) ?_
 simp
 refine tG 3 1 (by simp) fun g00 tD=> ?_
 simp at tD
 refine aG (fun p:Yu=> [(0,.ptr s.c),(3,.lsl p.g 1 0 (2*p.i)),(13,.sl (iv (aQ s.js))),(14,.int .i64 (aQ s.js).length),(15,.int .i64 p.i)]) (fun p=>p.b)
  (Lz bl s)
  (fun p=>(aQ s.js).length - p.i) 82 ⟨0,g00,[],[],upd bl g00 (some ⟨1,[]⟩)⟩ ⟨Nat.zero_le _,by simp,rfl,by simp[A2,OwnR],by simp,tD,by simp,by simp[tD],fun _=>rfl⟩ ⟨rfl,by simp,by simp⟩ ?_
 rintro⟨i,g,els,gs,b⟩ ⟨hi,hb,hel,ho,hn,hg,hf,hsb,bP⟩
 simp only at hi hb hel ho hn hg hf hsb bP
 refine aB ?_
 simp
 refine⟨fun h=> ?_,fun h=> ?_⟩
 ·have q:=dN (aQ s.js) i h
  simp[h]
  obtain⟨j,hj⟩: ∃j,(aQ s.js)[i]=j:=⟨_,rfl⟩
  rw[hj]
  refine nL aM [0,1,2,3,4,6,7,8,9,10] 4 (by kernel_rfl) ?_
  simp[Str.c]
  refine gI (i:=5) (j:=11) (by kernel_rfl) rfl rfl rfl rfl ?_ ?_
  ·simp
   refine⟨by omega,by unfold maxLen;omega,fun ga hga hba=>⟨by simp[hba],?_⟩⟩
   refine gI (i:=11) (j:=12) (by kernel_rfl) rfl rfl rfl rfl ?_ ?_
   ·simp
    refine⟨by omega,by unfold maxLen;omega,fun gb hgb hab hbb=>⟨by simp[hba,hbb,hab],?_⟩⟩
    refine Dz 12 ?_
    simp
    refine⟨by simp[hba,hbb,hab],Dz 13 ?_⟩
    simp
    refine⟨by simp[hba,hbb,hab],Dy ?_⟩
    simp[Str.c]
    have nga:ga≠g:=fun e=>by rw[e,hb] at hba;cases hba
    have ngb:gb≠g:=fun e=>by rw[e,hb] at hbb;cases hbb
    have fa:=bZ hsb hba
    have fb:=bZ hsb hbb
    have er:List.replicate s.ms.length [V.int IntKind.i64 0]=part (iv (dU s j)) [.int .i64 0] 0:=by simp
    have er':List.replicate s.ms.length [V.int IntKind.i64 0]=part (iv (eL s j)) [.int .i64 0] 0:=by simp
    refine aG (fun k:Nat=> [(0,.ptr s.c),(3,.lsl g 1 0 (2*i)),(5,.int .i64 j),(6,.lsl ga 1 0 s.ms.length),(7,.lsl gb 1 0 s.ms.length),(13,.sl (iv (aQ s.js))),(14,.int .i64 (aQ s.js).length),(15,.int .i64 i),(34,.sl (mv s.ms)),(35,.int .i64 s.ms.length),(36,.int .i64 k)])
     (fun k=>upd (upd b ga (some ⟨1,part (iv (dU s j)) [.int .i64 0] k⟩)) gb (some ⟨1,part (iv (eL s j)) [.int .i64 0] k⟩)) (fun k=>k≤s.ms.length) (fun k=>s.ms.length - k) 82 0 (Nat.zero_le _) ⟨rfl,by simp[Str.c],?_⟩ ?_
    ·intro x y hx
     simp only[aC,vB,jY,mH,mN] at hx ⊢
     grind
    intro k hk
    refine aB ?_
    simp
    refine⟨fun hkl=> ?_,fun hkl=> ?_⟩
    ·have hv:=Lh hs (List.getElem_mem hkl)
     have hm:mat s (k:Int)=s.ms[k]:=yX hkl
     have E7:=vF s k hs (by omega) (by omega)
     rw[hm] at E7
     have hx:k<(iv (dU s j)).length:=by simpa using hkl
     have hy:k<(iv (eL s j)).length:=by simpa using hkl
     have w1:IntKind.i64.wrap ((k:Int)+1)=k+1:=i64_in (by omega) (by omega)
     have nx:IntKind.i64.wrap (-vx s s.ms[k])= -vx s s.ms[k]:=i64_in (by omega) (by omega)
     have ny:IntKind.i64.wrap (-vy s s.ms[k])= -vy s s.ms[k]:=i64_in (by omega) (by omega)
     have px:=dJ (iv (dU s j)) [.int .i64 0] k hx
     have py:=dJ (iv (eL s j)) [.int .i64 0] k hy
     simp[hkl,Mb.c]
     intro g9 hg9 h9b h9a hb9
     refine aD E7 ?_
     simp
     refine⟨fun e1=> ?_,fun e1=> ?_⟩
     ·simp[hab,Ne.symm hab,h9a,h9b,Ne.symm h9a,Ne.symm h9b,hkl,px,py,w1,aA]
      have sx:=cI (iv (dU s j)) [.int .i64 0] k hx [.int .i64 (vx s s.ms[k])] (by simp[dU,eqX,e1])
      have sy:=cI (iv (eL s j)) [.int .i64 0] k hy [.int .i64 (vy s s.ms[k])] (by simp[eL,eqY,e1])
      refine⟨k+1,by omega,by omega,rfl,by simp,?_⟩
      intro x y hx'
      rw[←sx,←sy] at hx'
      simp only[aC] at hx' ⊢
      grind
     ·simp[hab,Ne.symm hab,h9a,h9b,Ne.symm h9a,Ne.symm h9b,hkl,px,py,w1,nx,ny,aA]
      refine⟨fun e2=> ?_,fun e2=> ?_⟩
      ·have fx:eqX s j s.ms[k]= -vx s s.ms[k]:=by rw[eqX,if_neg e1,if_pos e2]
       have fy:eqY s j s.ms[k]= -vy s s.ms[k]:=by rw[eqY,if_neg e1,if_pos e2]
       have sx:=cI (iv (dU s j)) [.int .i64 0] k hx [.int .i64 (-vx s s.ms[k])] (by simp[dU,fx])
       have sy:=cI (iv (eL s j)) [.int .i64 0] k hy [.int .i64 (-vy s s.ms[k])] (by simp[eL,fy])
       refine⟨k+1,by omega,by omega,rfl,by simp,?_⟩
       intro x y hx'
       rw[←sx,←sy] at hx'
       simp only[aC] at hx' ⊢
       grind
      ·have sx:=lJ (iv (dU s j)) [.int .i64 0] k hx (by simp[dU,eqX,e1,e2])
       have sy:=lJ (iv (eL s j)) [.int .i64 0] k hy (by simp[eL,eqY,e1,e2])
       refine⟨k+1,by omega,by omega,rfl,by simp,?_⟩
       intro x y hx'
       rw[←sx,←sy] at hx'
       simp only[aC] at hx' ⊢
       grind
    ·have:k=s.ms.length:=by omega
     subst this
     rw[eW _ _ _ (by simp),eW _ _ _ (by simp)]
     intro gp hgp hpb hpa hbp
     have npg:gp≠g:=fun e=>by rw[e,hb] at hbp;cases hbp
     have er2:List.range 2= [0,1]:=rfl
     simp[er2,appV,elsV,Int.not_lt.2 hgp,hpb,hpa,Ne.symm hpb,Ne.symm hpa,nga,ngb,Ne.symm nga,Ne.symm ngb,npg,Ne.symm npg,hb,hel]
     refine⟨by omega,fun gn hgn hbn=> ?_⟩
     have w9:IntKind.i64.wrap ((i:Int)+1)=i+1:=i64_in (by omega) (by omega)
     rw[aA]
     subst hj
     have nx:=sS ⟨hi,hb,hel,ho,hn,hg,hf,hsb,bP⟩ h hga hba hgb hab hbb hpa hpb hbp hgn hbn
     refine⟨_,nx,by simp only;omega,rfl,?_,sub_eq rfl⟩
     simp[w9];exact⟨rfl,by omega⟩
   ·simp
    refine⟨by simp[hba],Dz 11 ?_⟩
    simp
    refine⟨by omega,by unfold maxLen;omega,fun gb hgb hab hbb=>⟨by simp[hba,hbb,hab],?_⟩⟩
    refine Dz 13 ?_
    simp
    refine⟨by simp[hba,hbb,hab],Dy ?_⟩
    simp[Str.c]
    have nga:ga≠g:=fun e=>by rw[e,hb] at hba;cases hba
    have ngb:gb≠g:=fun e=>by rw[e,hb] at hbb;cases hbb
    have fa:=bZ hsb hba
    have fb:=bZ hsb hbb
    have er:List.replicate s.ms.length [V.int IntKind.i64 0]=part (iv (dU s j)) [.int .i64 0] 0:=by simp
    have er':List.replicate s.ms.length [V.int IntKind.i64 0]=part (iv (eL s j)) [.int .i64 0] 0:=by simp
    refine aG (fun k:Nat=> [(0,.ptr s.c),(3,.lsl g 1 0 (2*i)),(5,.int .i64 j),(6,.lsl ga 1 0 s.ms.length),(7,.lsl gb 1 0 s.ms.length),(13,.sl (iv (aQ s.js))),(14,.int .i64 (aQ s.js).length),(15,.int .i64 i),(34,.sl (mv s.ms)),(35,.int .i64 s.ms.length),(36,.int .i64 k)])
     (fun k=>upd (upd b ga (some ⟨1,part (iv (dU s j)) [.int .i64 0] k⟩)) gb (some ⟨1,part (iv (eL s j)) [.int .i64 0] k⟩)) (fun k=>k≤s.ms.length) (fun k=>s.ms.length - k) 82 0 (Nat.zero_le _) ⟨rfl,by simp[Str.c],?_⟩ ?_
    ·intro x y hx
     simp only[aC,vB,jY,mH,mN] at hx ⊢
     grind
    intro k hk
    refine aB ?_
    simp
    refine⟨fun hkl=> ?_,fun hkl=> ?_⟩
    ·have hv:=Lh hs (List.getElem_mem hkl)
     have hm:mat s (k:Int)=s.ms[k]:=yX hkl
     have E7:=vF s k hs (by omega) (by omega)
     rw[hm] at E7
     have hx:k<(iv (dU s j)).length:=by simpa using hkl
     have hy:k<(iv (eL s j)).length:=by simpa using hkl
     have w1:IntKind.i64.wrap ((k:Int)+1)=k+1:=i64_in (by omega) (by omega)
     have nx:IntKind.i64.wrap (-vx s s.ms[k])= -vx s s.ms[k]:=i64_in (by omega) (by omega)
     have ny:IntKind.i64.wrap (-vy s s.ms[k])= -vy s s.ms[k]:=i64_in (by omega) (by omega)
     have px:=dJ (iv (dU s j)) [.int .i64 0] k hx
     have py:=dJ (iv (eL s j)) [.int .i64 0] k hy
     simp[hkl,Mb.c]
     intro g9 hg9 h9b h9a hb9
     refine aD E7 ?_
     simp
     refine⟨fun e1=> ?_,fun e1=> ?_⟩
     ·simp[hab,Ne.symm hab,h9a,h9b,Ne.symm h9a,Ne.symm h9b,hkl,px,py,w1,aA]
      have sx:=cI (iv (dU s j)) [.int .i64 0] k hx [.int .i64 (vx s s.ms[k])] (by simp[dU,eqX,e1])
      have sy:=cI (iv (eL s j)) [.int .i64 0] k hy [.int .i64 (vy s s.ms[k])] (by simp[eL,eqY,e1])
      refine⟨k+1,by omega,by omega,rfl,by simp,?_⟩
      intro x y hx'
      rw[←sx,←sy] at hx'
      simp only[aC] at hx' ⊢
      grind
     ·simp[hab,Ne.symm hab,h9a,h9b,Ne.symm h9a,Ne.symm h9b,hkl,px,py,w1,nx,ny,aA]
      refine⟨fun e2=> ?_,fun e2=> ?_⟩
      ·have fx:eqX s j s.ms[k]= -vx s s.ms[k]:=by rw[eqX,if_neg e1,if_pos e2]
       have fy:eqY s j s.ms[k]= -vy s s.ms[k]:=by rw[eqY,if_neg e1,if_pos e2]
       have sx:=cI (iv (dU s j)) [.int .i64 0] k hx [.int .i64 (-vx s s.ms[k])] (by simp[dU,fx])
       have sy:=cI (iv (eL s j)) [.int .i64 0] k hy [.int .i64 (-vy s s.ms[k])] (by simp[eL,fy])
       refine⟨k+1,by omega,by omega,rfl,by simp,?_⟩
       intro x y hx'
       rw[←sx,←sy] at hx'
       simp only[aC] at hx' ⊢
       grind
      ·have sx:=lJ (iv (dU s j)) [.int .i64 0] k hx (by simp[dU,eqX,e1,e2])
       have sy:=lJ (iv (eL s j)) [.int .i64 0] k hy (by simp[eL,eqY,e1,e2])
       refine⟨k+1,by omega,by omega,rfl,by simp,?_⟩
       intro x y hx'
       rw[←sx,←sy] at hx'
       simp only[aC] at hx' ⊢
       grind
    ·have:k=s.ms.length:=by omega
     subst this
     rw[eW _ _ _ (by simp),eW _ _ _ (by simp)]
     intro gp hgp hpb hpa hbp
     have npg:gp≠g:=fun e=>by rw[e,hb] at hbp;cases hbp
     have er2:List.range 2= [0,1]:=rfl
     simp[er2,appV,elsV,Int.not_lt.2 hgp,hpb,hpa,Ne.symm hpb,Ne.symm hpa,nga,ngb,Ne.symm nga,Ne.symm ngb,npg,Ne.symm npg,hb,hel]
     refine⟨by omega,fun gn hgn hbn=> ?_⟩
     have w9:IntKind.i64.wrap ((i:Int)+1)=i+1:=i64_in (by omega) (by omega)
     rw[aA]
     subst hj
     have nx:=sS ⟨hi,hb,hel,ho,hn,hg,hf,hsb,bP⟩ h hga hba hgb hab hbb hpa hpb hbp hgn hbn
     refine⟨_,nx,by simp only;omega,rfl,?_,sub_eq rfl⟩
     simp[w9];exact⟨rfl,by omega⟩
  ·simp
   refine⟨by omega,by unfold maxLen;omega,fun gb hgb hbb=>⟨by simp[hbb],?_⟩⟩
   refine Dz 5 ?_
   simp
   refine⟨by omega,by unfold maxLen;omega,fun ga hga hab hba=>⟨by simp[hba,hbb,hab],?_⟩⟩
   refine Dz 12 ?_
   simp
   refine⟨by simp[hba,hbb,hab],Dz 13 ?_⟩
   simp
   refine⟨by simp[hba,hbb,hab],Dy ?_⟩
   simp[Str.c]
   have nga:ga≠g:=fun e=>by rw[e,hb] at hba;cases hba
   have ngb:gb≠g:=fun e=>by rw[e,hb] at hbb;cases hbb
   have fa:=bZ hsb hba
   have fb:=bZ hsb hbb
   have er:List.replicate s.ms.length [V.int IntKind.i64 0]=part (iv (dU s j)) [.int .i64 0] 0:=by simp
   have er':List.replicate s.ms.length [V.int IntKind.i64 0]=part (iv (eL s j)) [.int .i64 0] 0:=by simp
   refine aG (fun k:Nat=> [(0,.ptr s.c),(3,.lsl g 1 0 (2*i)),(5,.int .i64 j),(6,.lsl ga 1 0 s.ms.length),(7,.lsl gb 1 0 s.ms.length),(13,.sl (iv (aQ s.js))),(14,.int .i64 (aQ s.js).length),(15,.int .i64 i),(34,.sl (mv s.ms)),(35,.int .i64 s.ms.length),(36,.int .i64 k)])
    (fun k=>upd (upd b ga (some ⟨1,part (iv (dU s j)) [.int .i64 0] k⟩)) gb (some ⟨1,part (iv (eL s j)) [.int .i64 0] k⟩)) (fun k=>k≤s.ms.length) (fun k=>s.ms.length - k) 82 0 (Nat.zero_le _) ⟨rfl,by simp[Str.c],?_⟩ ?_
   ·intro x y hx
    simp only[aC,vB,jY,mH,mN] at hx ⊢
    grind
   intro k hk
   refine aB ?_
   simp
   refine⟨fun hkl=> ?_,fun hkl=> ?_⟩
   ·have hv:=Lh hs (List.getElem_mem hkl)
    have hm:mat s (k:Int)=s.ms[k]:=yX hkl
    have E7:=vF s k hs (by omega) (by omega)
    rw[hm] at E7
    have hx:k<(iv (dU s j)).length:=by simpa using hkl
    have hy:k<(iv (eL s j)).length:=by simpa using hkl
    have w1:IntKind.i64.wrap ((k:Int)+1)=k+1:=i64_in (by omega) (by omega)
    have nx:IntKind.i64.wrap (-vx s s.ms[k])= -vx s s.ms[k]:=i64_in (by omega) (by omega)
    have ny:IntKind.i64.wrap (-vy s s.ms[k])= -vy s s.ms[k]:=i64_in (by omega) (by omega)
    have px:=dJ (iv (dU s j)) [.int .i64 0] k hx
    have py:=dJ (iv (eL s j)) [.int .i64 0] k hy
    simp[hkl,Mb.c]
    intro g9 hg9 h9b h9a hb9
    refine aD E7 ?_
    simp
    refine⟨fun e1=> ?_,fun e1=> ?_⟩
    ·simp[hab,Ne.symm hab,h9a,h9b,Ne.symm h9a,Ne.symm h9b,hkl,px,py,w1,aA]
     have sx:=cI (iv (dU s j)) [.int .i64 0] k hx [.int .i64 (vx s s.ms[k])] (by simp[dU,eqX,e1])
     have sy:=cI (iv (eL s j)) [.int .i64 0] k hy [.int .i64 (vy s s.ms[k])] (by simp[eL,eqY,e1])
     refine⟨k+1,by omega,by omega,rfl,by simp,?_⟩
     intro x y hx'
     rw[←sx,←sy] at hx'
     simp only[aC] at hx' ⊢
     grind
    ·simp[hab,Ne.symm hab,h9a,h9b,Ne.symm h9a,Ne.symm h9b,hkl,px,py,w1,nx,ny,aA]
     refine⟨fun e2=> ?_,fun e2=> ?_⟩
     ·have fx:eqX s j s.ms[k]= -vx s s.ms[k]:=by rw[eqX,if_neg e1,if_pos e2]
      have fy:eqY s j s.ms[k]= -vy s s.ms[k]:=by rw[eqY,if_neg e1,if_pos e2]
      have sx:=cI (iv (dU s j)) [.int .i64 0] k hx [.int .i64 (-vx s s.ms[k])] (by simp[dU,fx])
      have sy:=cI (iv (eL s j)) [.int .i64 0] k hy [.int .i64 (-vy s s.ms[k])] (by simp[eL,fy])
      refine⟨k+1,by omega,by omega,rfl,by simp,?_⟩
      intro x y hx'
      rw[←sx,←sy] at hx'
      simp only[aC] at hx' ⊢
      grind
     ·have sx:=lJ (iv (dU s j)) [.int .i64 0] k hx (by simp[dU,eqX,e1,e2])
      have sy:=lJ (iv (eL s j)) [.int .i64 0] k hy (by simp[eL,eqY,e1,e2])
      refine⟨k+1,by omega,by omega,rfl,by simp,?_⟩
      intro x y hx'
      rw[←sx,←sy] at hx'
      simp only[aC] at hx' ⊢
      grind
   ·have:k=s.ms.length:=by omega
    subst this
    rw[eW _ _ _ (by simp),eW _ _ _ (by simp)]
    intro gp hgp hpb hpa hbp
    have npg:gp≠g:=fun e=>by rw[e,hb] at hbp;cases hbp
    have er2:List.range 2= [0,1]:=rfl
    simp[er2,appV,elsV,Int.not_lt.2 hgp,hpb,hpa,Ne.symm hpb,Ne.symm hpa,nga,ngb,Ne.symm nga,Ne.symm ngb,npg,Ne.symm npg,hb,hel]
    refine⟨by omega,fun gn hgn hbn=> ?_⟩
    have w9:IntKind.i64.wrap ((i:Int)+1)=i+1:=i64_in (by omega) (by omega)
    rw[aA]
    subst hj
    have nx:=sS ⟨hi,hb,hel,ho,hn,hg,hf,hsb,bP⟩ h hga hba hgb (Ne.symm hab) hbb hpa hpb hbp hgn hbn
    refine⟨_,nx,by simp only;omega,rfl,?_,sub_eq rfl⟩
    simp[w9];exact⟨rfl,by omega⟩
 ·have:i=(aQ s.js).length:=by omega
  subst this
  refine fJ [.lsl g 1 0 (2*(aQ s.js).length)] (g::gs) (by simp) ?_ ?_ hsb
  ·unfold dII
   rw[OwnD]
   have e:gE s=A2 s (aQ s.js).length:=by simp[A2,gE]
   refine .inr ⟨g,els,gs,by rw[e,List.length_map,pM s _ (Nat.le_refl _)];rfl,rfl,hn,hb,bP,?_⟩
   rw[e];exact ho
  ·intro x hx
   rcases List.mem_cons.1 hx with rfl | hx
   ·exact hg
   ·exact hf x hx

def nT (m:Mb) (k:Nat):List (Int×Int):=(if m.kind=2 then [] else [((k:Int),1)])++(if m.kind=1 then [] else [((k:Int), -1)])
def aR (ms:List Mb) (n:Nat):List (Int×Int):=(List.range n).flatMap fun k=>nT (ms.getD k default) k
def aS (ms:List Mb):List (Int×Int):=aR ms ms.length
def cv (cs:List (Int×Int)):List (List V):=cs.map fun p=> [.int .i64 p.1,.int .i64 p.2]
theorem jB (ms:List Mb) (n:Nat):aR ms (n+1)=aR ms n++nT (ms.getD n default) n:=by
 unfold aR
 rw[List.range_succ,List.flatMap_append];simp
theorem Vl (m:Mb) (k:Nat):(nT m k).length≤2:=by
 unfold nT;split<;>split<;>simp
theorem jD (ms:List Mb): ∀n,(aR ms n).length≤2*n
 | 0 => by simp [aR]
 | n + 1 => by
   rw[jB,List.length_append]
   have:=jD ms n
   have:=Vl (ms.getD n default) n
   omega
theorem rE (a b:List (Int×Int)):cv (a++b)=cv a++cv b:=by simp[cv]
@[simp] theorem Lc (a : List (Int × Int)) : (cv a).length = a.length := by simp [cv]
theorem tE (a:List (Int×Int)):(cv a).take a.length=cv a:=by rw[←Lc a,List.take_length]
theorem aKA (a:List (Int×Int)):(cv a).all (fun e=>e.all V.cl)=true:=by simp[cv,V.cl]
theorem Vx (a:List (Int×Int)): ∀r,r∈cv a→r.length=2:=by
 intro r hr
 obtain⟨n,_,rfl⟩:=List.mem_map.1 hr
 rfl
theorem aB8 {bl:Int→Option Blk} {ns:List (Int×Int)} {v:V} {gs:List Int} :OwnD bl (fl 2 (cv ns)) v gs ↔ (ns= []∧v= .nils∧gs= [])∨ ∃g,v= .lsl g 2 0 ns.length∧gs= [g]∧bl g=some ⟨2,cv ns⟩∧(g<0→ns= []):=by
 rw[sV (aKA ns) (Vx ns)]
 simp[cv]
theorem Fp (s:Str) (hm:s.ms.length≤8):NW Tryz.prog 146 [.ptr s.c] (fl 2 (cv (aS s.ms))):=by
 refine iQ Tryz.func146 rfl rfl (by rw[Tryz.ntmps146];simp) fun bl=> ?_
 rw[Tryz.ntmps146,Tryz.results146]
 refine aB ?_
 simp[Str.c]
 refine tG 3 2 (by simp) fun g00 tD=> ?_
 refine aG (fun p:Nat×Int=> [(3,.lsl p.2 2 0 (aR s.ms p.1).length),(9,.sl (mv s.ms)),(10,.int .i64 s.ms.length),(11,.int .i64 p.1)]) (fun p=>upd bl p.2 (some ⟨2,cv (aR s.ms p.1)⟩)) (fun p=>p.1≤s.ms.length∧bl p.2=none∧(p.2<0→aR s.ms p.1= [])) (fun p=>s.ms.length - p.1) _ (0,g00) ⟨Nat.zero_le _,tD,fun _=>rfl⟩ ⟨rfl,by simp[aR],sub_eq (by simp[aR,cv])⟩ ?_
 rintro⟨i,g⟩ ⟨hi,hg,h0⟩
 simp only at hi hg h0
 have hl:=jD s.ms i
 refine aB ?_
 simp
 refine⟨fun h=> ?_,fun h=> ?_⟩
 ·have w1:IntKind.i64.wrap ((i:Int)+1)=i+1:=i64_in (by omega) (by omega)
  have hsc:=jB s.ms i
  rw[gY _ _ _ h] at hsc
  simp[h,Mb.c]
  intro g1 hg1 h1g hb1
  refine⟨fun hf=> ?_,fun hf=> ?_⟩
  ·intro g2 hg2 h21 h2g hb2
   simp[h1g,h21,h2g,Ne.symm h1g,Ne.symm h21,Ne.symm h2g,appV,elsV,Int.not_lt.2 hg2]
   refine⟨by omega,fun g3 hg3 hb3=> ?_⟩
   have h31:g3≠g1:=by grind
   have fV:bl g3=none:=by grind
   simp[h31,Ne.symm h31,h1g,h21,Ne.symm h1g,Ne.symm h21]
   refine⟨fun hf2=> ?_,fun hf2=> ?_⟩
   ·intro g4 hg4 h43 h42
    simp[h43,Ne.symm h43,h31,Ne.symm h31,appV,elsV,Int.not_lt.2 hg4]
    refine⟨by omega,fun g5 hg5 hb5=> ?_⟩
    have aTE:bl g5=none:=by grind
    have hb4:bl g4=none:=by grind
    have hs1:aR s.ms (i+1)=aR s.ms i++ [((i:Int),1)]++ [((i:Int), -1)]:=by rw[hsc,nT,if_neg hf,if_neg hf2,List.append_assoc]
    simp[w1,aA]
    refine⟨i+1,g5,⟨by omega,aTE,by omega⟩,by omega,rfl,by simp[hs1],?_⟩
    rw[hs1,rE,rE]
    exact dA (by rw[tE,List.take_of_length_le (by simp)];rfl) (by simp[hg,hb1,hb2,fV,hb4,h1g,h21,h2g])
   ·have hs1:aR s.ms (i+1)=aR s.ms i++ [((i:Int),1)]:=by rw[hsc,nT,if_neg hf,if_pos hf2,List.append_nil]
    simp[w1,aA]
    refine⟨i+1,g3,⟨by omega,fV,by omega⟩,by omega,rfl,by simp[hs1],?_⟩
    rw[hs1,rE]
    exact dA (by rw[tE];rfl) (by simp[hg,hb1,hb2,h1g,h21,h2g])
  ·refine⟨fun hf2=> ?_,fun hf2=> ?_⟩
   ·intro g2 hg2 h21 h2g hb2
    simp[h1g,h21,h2g,Ne.symm h1g,Ne.symm h21,Ne.symm h2g,appV,elsV,Int.not_lt.2 hg2]
    refine⟨by omega,fun g3 hg3 hb3=> ?_⟩
    have fV:bl g3=none:=by grind
    have hs1:aR s.ms (i+1)=aR s.ms i++ [((i:Int), -1)]:=by rw[hsc,nT,if_pos hf,if_neg hf2,List.nil_append]
    simp[w1,aA]
    refine⟨i+1,g3,⟨by omega,fV,by omega⟩,by omega,rfl,by simp[hs1],?_⟩
    rw[hs1,rE]
    exact dA (by rw[tE];rfl) (by simp[hg,hb1,hb2,h1g,h21,h2g])
   ·omega
 ·have hi:i=s.ms.length:=by omega
  subst hi
  refine fJ [.lsl g 2 0 (aR s.ms s.ms.length).length] [g] (by simp) ?_ (by simpa using hg) (by simp[hg])
  refine aB8.2 (.inr ⟨g,rfl,rfl,by simp[aS],h0⟩)
theorem vW (a b:Int):iv [a,b]= [[.int .i64 a],[.int .i64 b]]:=rfl
theorem iW (a:Int):iv [a]= [[.int .i64 a]]:=rfl
def who (s:Str):List Int:=(aS s.ms).map (·.1)
def sgn (s:Str):List Int:=(aS s.ms).map (·.2)
def dWS (s:Str):D:= .t [fl 1 (iv (who s)),fl 1 (iv (sgn s))]
structure Two where
 i:Nat
 g:Int
 h:Int
 b:Int→Option Blk
def Rc (bl:Int→Option Blk) (A B:Nat→List Int) (n:Nat) (p:Two):Prop:=
 p.i≤n∧p.g≠p.h∧p.b p.g=some ⟨1,iv (A p.i)⟩∧p.b p.h=some ⟨1,iv (B p.i)⟩∧bl p.g=none∧bl p.h=none∧Sub bl p.b∧(p.g<0→A p.i= [])∧(p.h<0→B p.i= [])
set_option maxHeartbeats 1000000 in
theorem H8 (s:Str) (hm:s.ms.length≤8):NW Tryz.prog 192 [.agg s.c] (dWS s):=by
 refine iQ Tryz.func192 rfl rfl (by rw[Tryz.ntmps192];simp) fun bl=> ?_
 rw[Tryz.ntmps192,Tryz.results192]
 refine aB ?_
 simp[Str.c]
 intro gs Ti hgs ga aL7 I5 Fm gb aW5 Th aOC aN6
 simp[I5,Ne.symm I5,Th,Ne.symm Th,aOC,Ne.symm aOC]
 refine aG (fun p:Two=> [(4,.lsl p.g 1 0 (aR s.ms p.i).length),(5,.lsl p.h 1 0 (aR s.ms p.i).length),(11,.sl (mv s.ms)),(12,.int .i64 s.ms.length),(13,.int .i64 p.i)]) (fun p=>p.b) (Rc bl (fun n=>(aR s.ms n).map (·.1)) (fun n=>(aR s.ms n).map (·.2)) s.ms.length) (fun p=>s.ms.length - p.i) 41 ⟨0,ga,gb,upd (upd (upd bl gs (some ⟨2,[[.sl (jv s.js),.sl (mv s.ms)]]⟩)) ga (some ⟨1,[]⟩)) gb (some ⟨1,[]⟩)⟩ ⟨Nat.zero_le _,Ne.symm Th,by simp[Ne.symm Th,aR,iv],by simp[aR,iv],Fm,aN6,by simp[hgs,Fm,aN6],fun _=>rfl,fun _=>rfl⟩ ⟨rfl,by simp[aR],sub_eq (by simp)⟩ ?_
 rintro⟨i,g,h',b⟩ ⟨hi,hgh,hbg,hbh,hg,hh,hsb,h0,h1⟩
 simp only at hi hgh hbg hbh hg hh hsb h0 h1
 have hl:=jD s.ms i
 have fr: ∀x,b x=none→bl x=none:=fun x hx=>bZ hsb hx
 refine aB ?_
 simp
 refine⟨fun h=> ?_,fun h=> ?_⟩
 ·have w1:IntKind.i64.wrap ((i:Int)+1)=i+1:=i64_in (by omega) (by omega)
  have hsc:=jB s.ms i
  rw[gY _ _ _ h] at hsc
  have tkA:List.take (aR s.ms i).length (iv ((aR s.ms i).map (·.1)))=iv ((aR s.ms i).map (·.1)):=List.take_of_length_le (by simp)
  have Is: ∀x:List V,List.take ((aR s.ms i).length+1) (iv ((aR s.ms i).map (·.1))++ [x])=iv ((aR s.ms i).map (·.1))++ [x]:=fun x=>List.take_of_length_le (by simp)
  have Kz: ∀x:List V,List.take ((aR s.ms i).length+1) (iv ((aR s.ms i).map (·.2))++ [x])=iv ((aR s.ms i).map (·.2))++ [x]:=fun x=>List.take_of_length_le (by simp)
  have tkB:List.take (aR s.ms i).length (iv ((aR s.ms i).map (·.2)))=iv ((aR s.ms i).map (·.2)):=List.take_of_length_le (by simp)
  simp[h,Mb.c]
  intro g1 hg1 hb1
  have n1g:g1≠g:=fun e=>by rw[e,hbg] at hb1;cases hb1
  have n1h:g1≠h':=fun e=>by rw[e,hbh] at hb1;cases hb1
  refine⟨fun hf=> ?_,fun hf=> ?_⟩
  ·intro g2 hg2 h21 hb2
   have n2g:g2≠g:=fun e=>by rw[e,hbg] at hb2;cases hb2
   have n2h:g2≠h':=fun e=>by rw[e,hbh] at hb2;cases hb2
   simp[hbg,n1g,h21,n2g,Ne.symm n1g,Ne.symm h21,Ne.symm n2g,appV,elsV,Int.not_lt.2 hg2]
   refine⟨by omega,fun g3 hg3 hb3=> ?_⟩
   have n31:g3≠g1:=by grind
   have n3h:g3≠h':=by grind
   simp[n31,Ne.symm n31,n3h,Ne.symm n3h]
   intro g4 hg4 h43 hb4
   have n41:g4≠g1:=by grind
   have n4h:g4≠h':=by grind
   simp[hgh,Ne.symm hgh,hbh,n1h,Ne.symm n1h,n2h,Ne.symm n2h,n31,Ne.symm n31,n3h,Ne.symm n3h,n41,Ne.symm n41,n4h,Ne.symm n4h,h43,Ne.symm h43,appV,elsV,Int.not_lt.2 hg4]
   refine⟨by omega,fun g5 hg5 hb5=> ?_⟩
   have n51:g5≠g1:=by grind
   have n53:g5≠g3:=by grind
   simp[hgh,Ne.symm hgh,n1h,Ne.symm n1h,n31,Ne.symm n31,n51,Ne.symm n51,n41,Ne.symm n41,h21,Ne.symm h21,n1g,Ne.symm n1g]
   refine⟨fun hf2=> ?_,fun hf2=> ?_⟩
   ·intro g6 hg6 n65 hb6
    have n61:g6≠g1:=by grind
    have n63:g6≠g3:=by grind
    simp[n3h,Ne.symm n3h,n1g,Ne.symm n1g,n31,Ne.symm n31,hgh,Ne.symm hgh,n65,Ne.symm n65,n61,Ne.symm n61,n63,Ne.symm n63,n53,Ne.symm n53,h43,Ne.symm h43,appV,elsV,Int.not_lt.2 hg6,tkA,tkB]
    refine⟨by omega,fun g7 hg7 hb7=> ?_⟩
    have n71:g7≠g1:=by grind
    have n75:g7≠g5:=by grind
    simp[n71,Ne.symm n71,n75,Ne.symm n75]
    intro g8 hg8 n87 hb8
    have n81:g8≠g1:=by grind
    have n85:g8≠g5:=by grind
    simp[n71,Ne.symm n71,n75,Ne.symm n75,n81,Ne.symm n81,n85,Ne.symm n85,n87,Ne.symm n87,n65,Ne.symm n65,n53,Ne.symm n53,appV,elsV,Int.not_lt.2 hg8,tkA,tkB]
    refine⟨by omega,fun g9 hg9 hb9=> ?_⟩
    have n91:g9≠g1:=by grind
    have n97:g9≠g7:=by grind
    have e1:aR s.ms (i+1)=aR s.ms i++ [((i:Int),1)]++ [((i:Int), -1)]:=by rw[hsc,nT,if_neg hf,if_neg hf2,List.append_assoc]
    simp[w1,aA]
    refine⟨⟨i+1,g7,g9,_⟩,⟨by simp only;omega,by simp only;grind,?_,?_,by simp only;grind,by simp only;grind,?_,fun e=>by simp only at e;omega,fun e=>by simp only at e;omega⟩,by simp only;omega,rfl,by simp[e1],sub_eq rfl⟩
    ·simp[hgh,Ne.symm hgh,n1h,Ne.symm n1h,n31,Ne.symm n31,n51,Ne.symm n51,n53,Ne.symm n53,n41,Ne.symm n41,h43,Ne.symm h43,n71,Ne.symm n71,n75,Ne.symm n75,n61,Ne.symm n61,n63,Ne.symm n63,n81,n87,n85,Ne.symm n81,Ne.symm n85,Ne.symm n87,n91,n97,Ne.symm n91,Ne.symm n97,n3h,Ne.symm n3h,n4h,Ne.symm n4h,e1,aV,iW,vW,tkA,tkB,Is,Kz]
    ·simp[hgh,Ne.symm hgh,n1h,Ne.symm n1h,n31,Ne.symm n31,n51,Ne.symm n51,n53,Ne.symm n53,n41,Ne.symm n41,h43,Ne.symm h43,n71,Ne.symm n71,n75,Ne.symm n75,n61,Ne.symm n61,n63,Ne.symm n63,n81,n87,n85,Ne.symm n81,Ne.symm n85,Ne.symm n87,n91,n97,Ne.symm n91,Ne.symm n97,n3h,Ne.symm n3h,n4h,Ne.symm n4h,e1,aV,iW,vW,tkA,tkB,Is,Kz]
    ·intro x y hx
     have hbx:=hsb x y hx
     have ng:x≠g:=fun e=>by rw[e,hg] at hx;cases hx
     have nh:x≠h':=fun e=>by rw[e,hh] at hx;cases hx
     simp[aC,aF]
     grind
   ·skip
    have e1:aR s.ms (i+1)=aR s.ms i++ [((i:Int),1)]:=by rw[hsc,nT,if_neg hf,if_pos hf2,List.append_nil]
    simp[w1,aA]
    refine⟨⟨i+1,g3,g5,_⟩,⟨by simp only;omega,by simp only;grind,?_,?_,by simp only;grind,by simp only;grind,?_,fun e=>by simp only at e;omega,fun e=>by simp only at e;omega⟩,by simp only;omega,rfl,by simp[e1],sub_eq rfl⟩
    ·simp[hgh,Ne.symm hgh,n1h,Ne.symm n1h,n31,Ne.symm n31,n51,Ne.symm n51,n53,Ne.symm n53,n41,Ne.symm n41,h43,Ne.symm h43,n3h,Ne.symm n3h,n4h,Ne.symm n4h,e1,aV,iW,vW,tkA,tkB,Is,Kz]
    ·simp[hgh,Ne.symm hgh,n1h,Ne.symm n1h,n31,Ne.symm n31,n51,Ne.symm n51,n53,Ne.symm n53,n41,Ne.symm n41,h43,Ne.symm h43,n3h,Ne.symm n3h,n4h,Ne.symm n4h,e1,aV,iW,vW,tkA,tkB,Is,Kz]
    ·intro x y hx
     have hbx:=hsb x y hx
     have ng:x≠g:=fun e=>by rw[e,hg] at hx;cases hx
     have nh:x≠h':=fun e=>by rw[e,hh] at hx;cases hx
     simp[aC,aF]
     grind
  ·refine⟨fun hf2=> ?_,fun hf2=> ?_⟩
   ·intro g2 hg2 h21 hb2
    have n2g:g2≠g:=fun e=>by rw[e,hbg] at hb2;cases hb2
    have n2h:g2≠h':=fun e=>by rw[e,hbh] at hb2;cases hb2
    simp[hbg,n1g,h21,n2g,Ne.symm n1g,Ne.symm h21,Ne.symm n2g,appV,elsV,Int.not_lt.2 hg2]
    refine⟨by omega,fun g3 hg3 hb3=> ?_⟩
    have n31:g3≠g1:=by grind
    have n3h:g3≠h':=by grind
    simp[n31,Ne.symm n31,n3h,Ne.symm n3h]
    intro g4 hg4 h43 hb4
    have n41:g4≠g1:=by grind
    have n4h:g4≠h':=by grind
    simp[hgh,Ne.symm hgh,hbh,n1h,Ne.symm n1h,n2h,Ne.symm n2h,n31,Ne.symm n31,n3h,Ne.symm n3h,n41,Ne.symm n41,n4h,Ne.symm n4h,h43,Ne.symm h43,appV,elsV,Int.not_lt.2 hg4]
    refine⟨by omega,fun g5 hg5 hb5=> ?_⟩
    have n51:g5≠g1:=by grind
    have n53:g5≠g3:=by grind
    have e1:aR s.ms (i+1)=aR s.ms i++ [((i:Int), -1)]:=by rw[hsc,nT,if_pos hf,if_neg hf2,List.nil_append]
    simp[w1,aA]
    refine⟨⟨i+1,g3,g5,_⟩,⟨by simp only;omega,by simp only;grind,?_,?_,by simp only;grind,by simp only;grind,?_,fun e=>by simp only at e;omega,fun e=>by simp only at e;omega⟩,by simp only;omega,rfl,by simp[e1],sub_eq rfl⟩
    ·simp[hgh,Ne.symm hgh,n1h,Ne.symm n1h,n31,Ne.symm n31,n51,Ne.symm n51,n53,Ne.symm n53,n41,Ne.symm n41,h43,Ne.symm h43,n3h,Ne.symm n3h,n4h,Ne.symm n4h,e1,aV,iW,vW,tkA,tkB,Is,Kz]
    ·simp[hgh,Ne.symm hgh,n1h,Ne.symm n1h,n31,Ne.symm n31,n51,Ne.symm n51,n53,Ne.symm n53,n41,Ne.symm n41,h43,Ne.symm h43,n3h,Ne.symm n3h,n4h,Ne.symm n4h,e1,aV,iW,vW,tkA,tkB,Is,Kz]
    ·intro x y hx
     have hbx:=hsb x y hx
     have ng:x≠g:=fun e=>by rw[e,hg] at hx;cases hx
     have nh:x≠h':=fun e=>by rw[e,hh] at hx;cases hx
     simp[aC,aF]
     grind
   ·omega
 ·have hi:i=s.ms.length:=by omega
  subst hi
  refine fJ [.lsl g 1 0 (aR s.ms s.ms.length).length,.lsl h' 1 0 (aR s.ms s.ms.length).length] [g,h'] (by simp) ?_ (by simp[hg,hh]) hsb
  unfold dWS
  rw[OwnD]
  exact⟨_,rfl,jO.2 ⟨_,_,[g],[h'],rfl,rfl,by simpa using hgh,dH.2 (.inr ⟨g,by simp[who,aS],rfl,hbg,h0⟩),dH.2 (.inr ⟨h',by simp[sgn,aS],rfl,hbh,h1⟩)⟩⟩
theorem rS (s:Str) (hm:s.ms.length≤8):RO Tryz.prog 192 [.agg s.c] (.tup [.sl (iv (who s)),.sl (iv (sgn s))]):=by
 have:=fU 2 (H8 s hm) (by simp[dWS,D.dep,D.depL,jL])
 simpa [dWS,D.fz,D.fzL] using this
theorem sY (s:Str) (hm:s.ms.length≤8):RO Tryz.prog 146 [.ptr s.c] (.sl (cv (aS s.ms))):=by
 have:=fU 1 (Fp s hm) (jL _ _ 0)
 simpa using this

def vsg (p:Int) (x:Option Rat):Option Rat:=if p<0 then x.map (- ·) else x
def stI (acc:List (Option Rat)) (p:Int×Int) (x:Option Rat):List (Option Rat):=
 acc.set p.1.toNat (if(acc.getD p.1.toNat none).isSome=true then op2 (· + ·) (acc.getD p.1.toNat none) (vsg p.2 x) else vsg p.2 x)
def stS (acc:List (Option Rat)) (p:Int×Int) (x:Option Rat):List (Option Rat):=
 acc.set p.1.toNat (if 0<p.2 then op2 (· + ·) (acc.getD p.1.toNat none) x else op2 (· - ·) (acc.getD p.1.toNat none) x)
def gU (ms:List Mb) (d:List (Option Rat)) (t:Nat):List (Option Rat):=(List.range t).foldl (fun acc j=>stI acc ((aS ms).getD j (0,0)) (d.getD j none)) (List.replicate ms.length none)
def jS (ms:List Mb) (d:List (Option Rat)) (t:Nat):List (Option Rat):=(List.range t).foldl (fun acc j=>stS acc ((aS ms).getD j (0,0)) (d.getD j none)) (List.replicate ms.length (some 0))
theorem jV (ms:List Mb) (d:List (Option Rat)) (t:Nat):gU ms d (t+1)=stI (gU ms d t) ((aS ms).getD t (0,0)) (d.getD t none):=by
 unfold gU;rw[List.range_succ,List.foldl_append];rfl
theorem jT (ms:List Mb) (d:List (Option Rat)) (t:Nat):jS ms d (t+1)=stS (jS ms d t) ((aS ms).getD t (0,0)) (d.getD t none):=by
 unfold jS;rw[List.range_succ,List.foldl_append];rfl
theorem eV (ms:List Mb) (d:List (Option Rat)): ∀t,(gU ms d t).length=ms.length
 | 0 => by simp [gU]
 | t + 1 => by rw [jV, stI, List.length_set, eV ms d t]
theorem mP (ms:List Mb) (d:List (Option Rat)): ∀t,(jS ms d t).length=ms.length
 | 0 => by simp [jS]
 | t + 1 => by rw [jT, stS, List.length_set, mP ms d t]
theorem Pa :okQ none:=fun _ e=>by cases e
theorem aAI {p:Int} {x:Option Rat} (h:okQ x):okQ (vsg p x):=by
 unfold vsg;split
 ·exact oM h
 ·exact h
theorem Hb {xs:List (Option Rat)} (h:okL xs) (i:Nat) {x:Option Rat} (hx:okQ x):okL (xs.set i x):=fun y hy=>by
 rcases List.mem_or_eq_of_mem_set hy with h1 | h1
 ·exact h y h1
 ·rw[h1];exact hx
theorem yP (ms:List Mb) {d:List (Option Rat)} (hd:okL d): ∀t,okL (gU ms d t)
 | 0 => fun y hy => by
   have:y∈List.replicate ms.length (none:Option Rat):=hy
   rw[List.mem_replicate] at this
   rw[this.2];exact Pa
 | t + 1 => by
   rw[jV,stI]
   refine Hb (yP ms hd t) _ ?_
   split
   ·exact O2 _ _ _
   ·exact aAI (uW hd _)
theorem Hx (ms:List Mb) (d:List (Option Rat)): ∀t,okL (jS ms d t)
 | 0 => fun y hy => by
   have:y∈List.replicate ms.length (some 0:Option Rat):=hy
   rw[List.mem_replicate] at this
   rw[this.2];exact Qk
 | t + 1 => by
   rw[jT,stS]
   refine Hb (Hx ms d t) _ ?_
   split
   ·exact O2 _ _ _
   ·exact O2 _ _ _
theorem Hl {ms:List Mb} {p:Int×Int} : ∀n,n≤ms.length→p∈aR ms n→ ∃k:Nat,p.1=k∧k<ms.length∧(p.2=1∨p.2= -1):=by
 intro n
 induction n with
 | zero => intro _ h; simp [aR] at h
 | succ n ih =>
   intro hn h
   rw[jB] at h
   rcases List.mem_append.1 h with h | h
   ·exact ih (by omega) h
   ·refine⟨n,?_⟩
    unfold nT at h
    rcases List.mem_append.1 h with h | h
    ·split at h
     ·cases h
     ·obtain rfl:p=_:=by simpa using h
      exact⟨rfl,by omega,.inl rfl⟩
    ·split at h
     ·cases h
     ·obtain rfl:p=_:=by simpa using h
      exact⟨rfl,by omega,.inr rfl⟩
theorem Fe (ms:List Mb) (n:Nat) (j:Nat) (hj:j<(aR ms n).length): ∀N,n≤N→(aR ms N).getD j (0,0)=(aR ms n).getD j (0,0)∧(aR ms n).length≤(aR ms N).length:=by
 intro N hN
 induction N with
 | zero => obtain rfl : n = 0 := by omega
           exact⟨rfl,Nat.le_refl _⟩
 | succ N ih =>
   rcases Nat.lt_or_ge n (N+1) with h | h
   ·obtain⟨h1,h2⟩:=ih (by omega)
    rw[jB]
    refine⟨?_,by rw[List.length_append];omega⟩
    rw[←h1,List.getD_eq_getElem?_getD,List.getElem?_append_left (by omega)]
    exact(List.getD_eq_getElem?_getD ..).symm
   ·obtain rfl:n=N+1:=by omega
    exact⟨rfl,Nat.le_refl _⟩
theorem fM {xs:List (Option Rat)} {i:Nat} (h:i<xs.length) (x:Option Rat):(xs.set i x).getD i none=x:=by
 rw[List.getD_eq_getElem?_getD,List.getElem?_set_self h];rfl
theorem getD_set_ne {xs:List (Option Rat)} {i k:Nat} (h:i≠k) (x:Option Rat):(xs.set i x).getD k none=xs.getD k none:=by
 rw[List.getD_eq_getElem?_getD,List.getElem?_set_ne h,List.getD_eq_getElem?_getD]
theorem tY {x:Option Rat} (h:okQ x):op2 (· + ·) (some 0) x=x:=by
 cases x with
 | none => rfl
 | some q =>
   show fit (0+q)=some q
   rw[Rat.zero_add];unfold fit;rw[if_pos (h q rfl)]
theorem Q7 {x:Option Rat} (h:okQ x):op2 (· - ·) (some 0) x=x.map (- ·):=by
 have hn:=oM h
 cases x with
 | none => rfl
 | some q =>
   show fit (0 - q)=some (-q)
   rw[Rat.sub_eq_add_neg,Rat.zero_add];unfold fit;rw[if_pos (hn (-q) rfl)]
theorem Bq (x y:Option Rat):op2 (· + ·) x (y.map (- ·))=op2 (· - ·) x y:=by
 cases x with
 | none => rfl
 | some a =>
   cases y with
   | none=>rfl
   | some b=>show fit (a+ -b)=fit (a - b);rw[Rat.sub_eq_add_neg]
def wK (ms:List Mb) (A B:List (Option Rat)) (n:Nat):Prop:= ∀k,k<ms.length→(k<n→A.getD k none=B.getD k none)∧(n≤k→A.getD k none=none∧B.getD k none=some 0)
theorem Mg (ms:List Mb) (d:List (Option Rat)) (hd:okL d) (hs: ∀j,j<(aS ms).length→(d.getD j none).isSome=true) (hk: ∀m,m∈ms→1≤m.kind∧m.kind≤3): ∀n,n≤ms.length→wK ms (gU ms d (aR ms n).length) (jS ms d (aR ms n).length) n:=by
 intro n
 induction n with
 | zero =>
   intro _ k hk
   refine⟨fun h=>by omega,fun _=> ?_⟩
   simp[aR,gU,jS,hk]
 | succ n ih =>
   intro hn
   have H:=ih (by omega)
   have hA:=eV ms d (aR ms n).length
   have hB:=mP ms d (aR ms n).length
   have hmn:ms.getD n default=ms[n]:=gY _ _ _ (by omega)
   have hkk:=hk _ (List.getElem_mem (show n<ms.length by omega))
   have hcs:=jB ms n
   rw[hmn] at hcs
   have Q2: ∀i,i<(nT ms[n] n).length→(aS ms).getD ((aR ms n).length+i) (0,0)=(nT ms[n] n).getD i (0,0)∧(aR ms n).length+i<(aS ms).length:=by
    intro i hi
    have h1:=Fe ms (n+1) ((aR ms n).length+i) (by rw[hcs,List.length_append];omega) ms.length (by omega)
    refine⟨?_,?_⟩
    ·rw[show aS ms=aR ms ms.length from rfl,h1.1,hcs,List.getD_eq_getElem?_getD,List.getD_eq_getElem?_getD,List.getElem?_append_right (by omega)]
     simp
    ·have h2:=h1.2
     rw[hcs,List.length_append] at h2
     show _<(aR ms ms.length).length
     omega
   clear ih
   obtain⟨L,hL⟩: ∃L,(aR ms n).length=L:=⟨_,rfl⟩
   rw[hL] at hA hB H Q2
   have hAn:=(H n (by omega)).2 (Nat.le_refl _)
   have one: ∀A B:List (Option Rat),∀x,A.length=ms.length→B.length=ms.length→(∀k,k<ms.length→k≠n→A.getD k none=(gU ms d L).getD k none∧B.getD k none=(jS ms d L).getD k none)→A.getD n none=x→B.getD n none=x→wK ms A B (n+1):=by
    intro A B x lA lB hne hx hy k hk
    by_cases e:k=n
    ·subst e
     exact⟨fun _=>by rw[hx,hy],fun h=>by omega⟩
    ·obtain⟨e1,e2⟩:=hne k hk e
     have:=H k hk
     rw[e1,e2]
     exact⟨fun h=>this.1 (by omega),fun h=>this.2 (by omega)⟩
   rw[hcs,List.length_append,hL]
   by_cases k1:ms[n].kind=1
   ·have ec:nT ms[n] n= [((n:Int),1)]:=by unfold nT;rw[k1];rfl
    have g0:=Q2 0 (by rw[ec];simp)
    rw[ec] at g0 ⊢
    have s0:=hs _ g0.2
    have o0:=uW hd (L+0)
    simp only[Nat.add_zero] at g0 s0 o0
    show wK ms (gU ms d (L+1)) (jS ms d (L+1)) (n+1)
    rw[jV,jT,g0.1]
    generalize d.getD L none=x at *
    refine one _ _ x (by simp[stI,hA]) (by simp[stS,hB]) (fun k _ hk=> ?_) ?_ ?_
    ·unfold stI stS;simp only[List.getD_cons_zero,Int.toNat_natCast]
     rw[getD_set_ne (Ne.symm hk),getD_set_ne (Ne.symm hk)];exact⟨rfl,rfl⟩
    ·unfold stI;simp only[List.getD_cons_zero,Int.toNat_natCast]
     rw[fM (by omega),hAn.1];rfl
    ·unfold stS;simp only[List.getD_cons_zero,Int.toNat_natCast]
     rw[fM (by omega),hAn.2,if_pos (by omega)];exact tY o0
   by_cases k2:ms[n].kind=2
   ·have ec:nT ms[n] n= [((n:Int), -1)]:=by unfold nT;rw[k2];rfl
    have g0:=Q2 0 (by rw[ec];simp)
    rw[ec] at g0 ⊢
    have s0:=hs _ g0.2
    have o0:=uW hd (L+0)
    simp only[Nat.add_zero] at g0 s0 o0
    show wK ms (gU ms d (L+1)) (jS ms d (L+1)) (n+1)
    rw[jV,jT,g0.1]
    generalize d.getD L none=x at *
    refine one _ _ (x.map (- ·)) (by simp[stI,hA]) (by simp[stS,hB]) (fun k _ hk=> ?_) ?_ ?_
    ·unfold stI stS;simp only[List.getD_cons_zero,Int.toNat_natCast]
     rw[getD_set_ne (Ne.symm hk),getD_set_ne (Ne.symm hk)];exact⟨rfl,rfl⟩
    ·unfold stI;simp only[List.getD_cons_zero,Int.toNat_natCast]
     rw[fM (by omega),hAn.1];rfl
    ·unfold stS;simp only[List.getD_cons_zero,Int.toNat_natCast]
     rw[fM (by omega),hAn.2,if_neg (by omega)];exact Q7 o0
   have ec:nT ms[n] n= [((n:Int),1),((n:Int), -1)]:=by unfold nT;rw[if_neg k2,if_neg k1];rfl
   have g0:=Q2 0 (by rw[ec];simp)
   have g1:=Q2 1 (by rw[ec];simp)
   rw[ec] at g0 g1 ⊢
   have s0:=hs _ g0.2
   have s1:=hs _ g1.2
   have o0:=uW hd (L+0)
   have o1:=uW hd (L+1)
   simp only[Nat.add_zero] at g0 s0 o0
   show wK ms (gU ms d (L+1+1)) (jS ms d (L+1+1)) (n+1)
   rw[jV,jT,jV,jT,g0.1,g1.1]
   generalize d.getD L none=x at *
   generalize d.getD (L+1) none=y at *
   have eI:(stI (gU ms d L) ((n:Int),1) x).getD n none=x:=by
    unfold stI;simp only[Int.toNat_natCast]
    rw[fM (by omega),hAn.1];rfl
   have eS:(stS (jS ms d L) ((n:Int),1) x).getD n none=x:=by
    unfold stS;simp only[Int.toNat_natCast]
    rw[fM (by omega),hAn.2,if_pos (by omega)];exact tY o0
   have lI:(stI (gU ms d L) ((n:Int),1) x).length=ms.length:=by simp[stI,hA]
   have lS:(stS (jS ms d L) ((n:Int),1) x).length=ms.length:=by simp[stS,hB]
   refine one _ _ (op2 (· - ·) x y) (by simp[stI,hA]) (by simp[stS,hB]) (fun k _ hk=> ?_) ?_ ?_
   ·unfold stI stS;simp only[List.getD_cons_zero,List.getD_cons_succ,Int.toNat_natCast]
    rw[getD_set_ne (Ne.symm hk),getD_set_ne (Ne.symm hk),getD_set_ne (Ne.symm hk),getD_set_ne (Ne.symm hk)];exact⟨rfl,rfl⟩
   ·show(stI (stI (gU ms d L) ((n:Int),1) x) ((n:Int), -1) y).getD n none=_
    generalize stI (gU ms d L) ((n:Int),1) x=A1 at *
    unfold stI;simp only[Int.toNat_natCast]
    rw[fM (by omega),eI,if_pos s0,vsg,if_pos (by omega)];exact Bq x y
   ·show(stS (stS (jS ms d L) ((n:Int),1) x) ((n:Int), -1) y).getD n none=_
    generalize stS (jS ms d L) ((n:Int),1) x=B1 at *
    unfold stS;simp only[Int.toNat_natCast]
    rw[fM (by omega),eS,if_neg (by omega)]
theorem run_eq (ms:List Mb) (d:List (Option Rat)) (hd:okL d) (hs: ∀j,j<(aS ms).length→(d.getD j none).isSome=true) (hk: ∀m,m∈ms→1≤m.kind∧m.kind≤3):gU ms d (aS ms).length=jS ms d (aS ms).length:=by
 have H:=Mg ms d hd hs hk ms.length (Nat.le_refl _)
 change wK ms (gU ms d (aS ms).length) (jS ms d (aS ms).length) ms.length at H
 apply List.ext_getElem (by rw[eV,mP])
 intro k h1 h2
 have h3:=(H k (by rwa [eV] at h1)).1 (by rwa [eV] at h1)
 rw[gY _ _ _ h1,gY _ _ _ h2] at h3
 exact h3

end Go.Proofs.YticmgmemnpcbbaaGreat.Vm

namespace Go.Proofs.YticmgmemnpcbbaaGreat.Vm
open Go Go.Proofs
set_option linter.unusedSimpArgs false
set_option linter.unusedVariables false
def apX (s:Str) (d:List (Option Rat)) (m:Mb):Option Rat:=op2 (· - ·) (dX s.js d m.b.toNat) (dX s.js d m.a.toNat)
def apY (s:Str) (d:List (Option Rat)) (m:Mb):Option Rat:=op2 (· - ·) (dY s.js d m.b.toNat) (dY s.js d m.a.toNat)
def aB6 (s:Str) (d:List (Option Rat)) (k:Nat):Option Rat:=op2 (· + ·) (op2 (· * ·) (some (vx s (mat s k):Rat)) (apX s d (mat s k))) (op2 (· * ·) (some (vy s (mat s k):Rat)) (apY s d (mat s k)))
def aLW (s:Str) (k:Int) (d:List RT):Bool:=Yq s d && (decide (0≤k)&& decide (k<s.ms.length))
def aXC (s:Str) (k:Int) (d:List RT):Option Rat:=if aLW s k d=true then aB6 s (cO d) k.toNat else none

def aVP (rs:List RT):Bool:=rs.all fun r=> !decide (r.d= [])
def aBZ (a b:List RT):Bool:=(Ly a && Ly b)&& decide (a.length=b.length)
def aVA (a b:List RT):List (Option Rat):=if aBZ a b=true then List.zipWith (op2 (· + ·)) (cO a) (cO b) else [none]
theorem Qg {rs:List RT} (h:lL rs=true) (i:Nat) (hi:i<rs.length): ∃q,rd rs[i]=some q∧rs[i]=ro (some q)∧okQ (some q):=by
 have:=List.all_eq_true.1 h rs[i] (List.getElem_mem hi)
 obtain⟨q,hq⟩:=Option.isSome_iff_exists.1 this
 obtain⟨h1,h2⟩:=rd_some hq
 exact⟨q,hq,h1,fun x hx=>by cases hx;exact h2⟩
def aVX (r:RT) (q:List RT):List (Option Rat):=if(r.ok∧Ly q=true) then(cO q).map (op2 (· * ·) (rd r)) else [none]

def atW (s:Str) (i:Nat):Int:=if fxd s.js i=true then -1 else(idx s.js i:Int)
theorem aON {rs:List RT} (h:lL rs=true) (i:Nat) (hi:i<rs.length):ro (rd rs[i])=rs[i]:=by
 obtain⟨q,e1,e2,_⟩:=Qg h i hi
 rw[e1];exact e2.symm

theorem aSW (x y:Option Rat) (hx:okQ x) (hy:okQ y):RO Tryz.prog 139 [.agg (ro x).c,.agg (ro y).c] (.agg (ro (op2 (· - ·) x y)).c):=by
 have h1:=ro_le hx
 have h2:=ro_le hy
 have:=Kl (ro x) (ro y) ⟨by omega,by omega⟩ ⟨by omega,by omega⟩
 rwa [E1 hx,E1 hy] at this
def aSA (bl:Int→Option Blk) (g6:Int) (p:Int×Int):Prop:=0≤p.1∧0≤p.2∧ ¬ p.1=p.2∧ ¬ p.1=g6∧ ¬ p.2=g6∧bl p.1=none∧bl p.2=none

def Nr (m:Mb) (x:Option Rat):Bool:=(!x.isSome || (decide (m.kind≠2)&& decide (0<sgq x)))|| (decide (m.kind≠1)&& decide (sgq x<0))
def Ze (s:Str) (d:List (Option Rat)):Bool:=(List.range s.ms.length).all fun k=> !Nr (mat s k) (aB6 s d k)
def aUY (s:Str) (d:List (Option Rat)) (n:Nat):Prop:= ∀k:Nat,k<n→Nr (mat s k) (aB6 s d k)=false
def wkTo (s:Str) (l:List Int) (d:List (Option Rat)):Nat→Option Rat
 | 0 => some 0
 | t + 1 => op2 (· + ·) (op2 (· + ·) (wkTo s l d t) (op2 (· * ·) (some (lN l (2 * ((aQ s.js).getD t 0).toNat) : Rat)) (d.getD (2 * t) none))) (op2 (· * ·) (some (lN l (2 * ((aQ s.js).getD t 0).toNat + 1) : Rat)) (d.getD (2 * t + 1) none))
def wkW (s:Str) (l:List Int) (d:List (Option Rat)):Option Rat:=wkTo s l d (aQ s.js).length
def aXG (s:Str) (l:List Int) (d:List RT):Bool:=(Yq s d && mM s.js l)&& (Ze s (cO d)&& decide (0<sgq (wkW s l (cO d))))

theorem yV (cs:List (Int×Int)) (i:Nat) (h:i<(cv cs).length):(cv cs)[i]= [.int .i64 (cs[i]'(by simpa using h)).1,.int .i64 (cs[i]'(by simpa using h)).2]:=by simp[cv]
theorem yY (xs:List (Option Rat)) (i:Nat) (x:Option Rat):(fvs xs).set i [fv x]=fvs (xs.set i x):=by simp[fvs,List.map_set]
theorem Uy (s:Str) (D:List (Option Rat)) (hm:s.ms.length≤8) (hD:okL D) (hl:D.length=(aS s.ms).length):RO Tryz.prog 147 [.ptr s.c,.sl (fvs D)] (.sl (fvs (gU s.ms D (aS s.ms).length))):=by
 have hcl:=jD s.ms s.ms.length
 change(aS s.ms).length≤2*s.ms.length at hcl
 refine aH Tryz.func147 rfl rfl (by rw[Tryz.ntmps147];simp) fun bl=> ?_
 rw[Tryz.ntmps147,Tryz.results147]
 refine aB ?_
 simp[Str.c]
 refine⟨by omega,by unfold maxLen;omega,fun g hg0 hg=> ?_⟩
 refine aD (sY s hm) ?_
 simp
 refine aG (fun j:Nat=> [(1,.sl (fvs D)),(5,.lsl g 1 0 s.ms.length),(16,.sl (cv (aS s.ms))),(17,.int .i64 (aS s.ms).length),(18,.int .i64 j)]) (fun j=>upd bl g (some ⟨1,fvs (gU s.ms D j)⟩)) (fun j=>j≤(aS s.ms).length) (fun j=>(aS s.ms).length - j) _ 0 (Nat.zero_le _) ⟨rfl,by simp,sub_eq (by simp[gU,fvs,fv])⟩ ?_
 intro j hj
 have wj:IntKind.i64.wrap ((j:Int)+1)=(j:Int)+1:=i64_in (by omega) (by omega)
 refine aB ?_
 simp
 refine⟨fun h=> ?_,fun h=> ?_⟩
 ·have sR:(aS s.ms)[j]∈aS s.ms:=List.getElem_mem h
  obtain⟨k,e1,hk,hsg⟩:=Hl s.ms.length (Nat.le_refl _) sR
  have h2:j<D.length:=by omega
  have hrl:=eV s.ms D j
  have hkA:k<(gU s.ms D j).length:=by omega
  have oj:=hD _ (List.getElem_mem h2)
  have okk:=yP s.ms hD j _ (List.getElem_mem hkA)
  have hst:=jV s.ms D j
  rw[gY _ _ _ h,gY _ _ _ h2,stI,e1,Int.toNat_natCast,gY _ _ _ hkA] at hst
  have hns:=aB7 D[j]
  have hA1:=Qp (gU s.ms D j)[k] D[j] okk oj
  have hA2:=Qp (gU s.ms D j)[k] (D[j].map (- ·)) okk (oM oj)
  rcases hsg with e2 | e2
  ·rcases eA:(gU s.ms D j)[k] with _ | a
   ·rw[eA,if_neg (by simp),e2,vsg,if_neg (by omega)] at hst
    simp[h,yV,e1,e2]
    intro g7 hg7 h7g hb7
    simp[h7g,Ne.symm h7g,h2]
    simp[h7g,Ne.symm h7g,hrl,hk,hkA,eA,show fv none= .nilp from rfl,show∀a,fv (some a)= .ptr (rq a).c from fun _=>rfl]
    simp[wj,aA,yY]
    exact⟨j+1,by omega,by omega,rfl,by simp,by rw[hst];intro z b hz;simp only[aC] at hz ⊢;grind⟩
   ·rw[eA,if_pos (by rfl),←eA,e2,vsg,if_neg (by omega)] at hst
    simp[h,yV,e1,e2]
    intro g7 hg7 h7g hb7
    simp[h7g,Ne.symm h7g,h2]
    simp[h7g,Ne.symm h7g,hrl,hk,hkA,eA,show fv none= .nilp from rfl,show∀a,fv (some a)= .ptr (rq a).c from fun _=>rfl]
    refine dC aM [0,1,2,3,4,5,6,7,8,9,10] 1 11 (by kernel_rfl) ?_
    simp[h7g,Ne.symm h7g,hrl,hk,hkA]
    refine aN hA1 ?_
    simp[h7g,Ne.symm h7g,hrl,hk,hkA]
    refine cU (i:=11) (by kernel_rfl) rfl rfl rfl ?_
    simp[h7g,Ne.symm h7g,hrl,hk,hkA]
    refine Dy ?_
    try simp
    simp[wj,aA,yY]
    exact⟨j+1,by omega,by omega,rfl,by simp,by rw[hst];intro z b hz;simp only[aC] at hz ⊢;grind⟩
  ·rcases eA:(gU s.ms D j)[k] with _ | a
   ·rw[eA,if_neg (by simp),e2,vsg,if_pos (by omega)] at hst
    simp[h,yV,e1,e2]
    intro g7 hg7 h7g hb7
    simp[h7g,Ne.symm h7g,h2]
    refine aD hns ?_
    simp[h7g,Ne.symm h7g,h2]
    simp[h7g,Ne.symm h7g,hrl,hk,hkA,eA,show fv none= .nilp from rfl,show∀a,fv (some a)= .ptr (rq a).c from fun _=>rfl]
    simp[wj,aA,yY]
    exact⟨j+1,by omega,by omega,rfl,by simp,by rw[hst];intro z b hz;simp only[aC] at hz ⊢;grind⟩
   ·rw[eA,if_pos (by rfl),←eA,e2,vsg,if_pos (by omega)] at hst
    simp[h,yV,e1,e2]
    intro g7 hg7 h7g hb7
    simp[h7g,Ne.symm h7g,h2]
    refine aD hns ?_
    simp[h7g,Ne.symm h7g,h2]
    simp[h7g,Ne.symm h7g,hrl,hk,hkA,eA,show fv none= .nilp from rfl,show∀a,fv (some a)= .ptr (rq a).c from fun _=>rfl]
    refine dC aM [0,1,2,3,4,5,6,7,8,9,10] 1 11 (by kernel_rfl) ?_
    simp[h7g,Ne.symm h7g,hrl,hk,hkA]
    refine aN hA2 ?_
    simp[h7g,Ne.symm h7g,hrl,hk,hkA]
    refine cU (i:=11) (by kernel_rfl) rfl rfl rfl ?_
    simp[h7g,Ne.symm h7g,hrl,hk,hkA]
    refine Dy ?_
    try simp
    simp[wj,aA,yY]
    exact⟨j+1,by omega,by omega,rfl,by simp,by rw[hst];intro z b hz;simp only[aC] at hz ⊢;grind⟩
 ·have hj2:j=(aS s.ms).length:=by omega
  subst hj2
  have hrl:=eV s.ms D (aS s.ms).length
  exact aJ [.lsl g 1 0 s.ms.length] 1 (by simp) (cY (sz:=1) (n:=s.ms.length) hg0 hg (els:=fvs (gU s.ms D (aS s.ms).length)) (by simp) (by simpa using hrl) (aCB _)) (by simp[hg])
def rW (s:Str) (d:List RT):Bool:=sOk s && (decide (d.length=(aS s.ms).length)&& lL d)
def uN (s:Str) (d:List RT):List (Option Rat):=if rW s d=true then gU s.ms (cO d) (aS s.ms).length else [none]
theorem X8 {s:Str} {d:List RT} (h:rW s d=true):SOk s∧d.length=(aS s.ms).length∧lL d=true:=by
 unfold rW at h
 simp only[Bool.and_eq_true,decide_eq_true_eq] at h
 exact⟨Q9 h.1,h.2.1,h.2.2⟩
theorem T8 (s:Str) (d:List RT):okL (uN s d)∧(uN s d).length≤24:=by
 unfold uN;split
 ·rename_i h
  obtain⟨hs,_,_⟩:=X8 h
  have:=hs.nm
  exact⟨yP s.ms (Cc d) _,by rw[eV];omega⟩
 ·exact⟨uP,by simp⟩
theorem Fb :RO Tryz.prog 283 [] (.agg (ro (some 0)).c):=by
 have w0:=dP 0 (by omega)
 rw[Jq] at w0
 refine aH Tryz.func283 rfl rfl (by rw[Tryz.ntmps283];simp) fun bl=> ?_
 rw[Tryz.ntmps283,Tryz.results283]
 refine aB ?_
 generalize ro (some 0)=z at *
 simp
 intro g hg0 hg
 refine aD w0 ?_
 simp[RT.c]
 exact aJ [.agg z.c] 1 (by simp[RT.c]) (by simp[frz,RT.c,V.cl]) (by simp[hg])
theorem Ds (rs:List RT):(rv rs).take rs.length=rv rs:=by rw[←Lr rs,List.take_length]
theorem Vh (rs:List RT): ∀r,r∈rv rs→r.length=3:=fun r hr=>by
 obtain⟨x,_,rfl⟩:=List.mem_map.1 hr;rfl
theorem Gt {bl:Int→Option Blk} {rs:List RT} {v:V} {gs:List Int} :OwnD bl (fl 3 (rv rs)) v gs ↔ (rs= []∧v= .nils∧gs= [])∨ ∃g,v= .lsl g 3 0 rs.length∧gs= [g]∧bl g=some ⟨3,rv rs⟩∧(g<0→rs= []):=by
 rw[sV (Yi rs) (Vh rs)]
 simp[rv]
def kU (n:Nat):List RT:=List.replicate n (ro (some 0))
theorem Dh (n:Nat):kU (n+1)=kU n++ [ro (some 0)]:=by unfold kU;rw[List.replicate_succ']
@[simp] theorem kX (n : Nat) : (kU n).length = n := by simp [kU]
theorem Bf (n:Nat) (hn:n≤1000):NW Tryz.prog 259 [.int .i64 n] (fl 3 (rv (kU n))):=by
 refine iQ Tryz.func259 rfl rfl (by rw[Tryz.ntmps259];simp) fun bl=> ?_
 rw[Tryz.ntmps259,Tryz.results259]
 refine aB ?_
 simp
 intro g00 tD aBN
 refine aG (fun p:Nat×Int=> [(0,.int .i64 n),(3,.lsl p.2 3 0 p.1)]) (fun p=>upd bl p.2 (some ⟨3,rv (kU p.1)⟩)) (fun p=>p.1≤n∧bl p.2=none∧(p.2<0→p.1=0)) (fun p=>n - p.1) _ (0,g00) ⟨Nat.zero_le _,aBN,fun _=>rfl⟩ ⟨rfl,by simp,sub_eq (by simp[kU,rv])⟩ ?_
 rintro⟨i,g⟩ ⟨hi,hg,h0⟩
 simp only at hi hg h0
 refine aB ?_
 simp
 refine⟨fun h=> ?_,fun h=> ?_⟩
 ·refine aD Fb ?_
  have hz:=Dh i
  generalize ro (some 0)=z at *
  simp[RT.c]
  intro g2 hg2 h2g hb2
  simp[h2g,Ne.symm h2g,appV,elsV,Int.not_lt.2 hg2]
  refine⟨by omega,fun g3 hg3 hb3=> ?_⟩
  have fV:bl g3=none:=by grind
  simp[aA]
  refine⟨i+1,g3,⟨by omega,fV,by omega⟩,by omega,rfl,by simp,?_⟩
  rw[hz,Ji]
  exact dA (by rw[show(rv (kU i)).take i=rv (kU i) by have:=Ds (kU i);rwa [kX] at this];simp[rv,RT.c]) (by simp[hg,hb2,h2g])
 ·have hi2:i=n:=by omega
  subst hi2
  refine fJ [.lsl g 3 0 i] [g] (by simp) ?_ (by simpa using hg) (by simp[hg])
  exact Gt.2 (.inr ⟨g,by simp,rfl,by simp,fun h=>by rw[h0 h];rfl⟩)
theorem sB (n:Nat) (hn:n≤24):NW Tryz.prog 212 [.int .i64 n] (fl 3 (rv (kU n))):=by
 refine iQ Tryz.func212 rfl rfl (by rw[Tryz.ntmps212];simp) fun bl=> ?_
 rw[Tryz.ntmps212,Tryz.results212]
 refine aB ?_
 simp
 refine aD (jI _ _ _) ?_
 have h1:(n:Int)≤24:=by omega
 simp[h1]
 refine fK (Bf n (by omega)) fun v gs b' o f fr=> ?_
 obtain⟨c1,c2⟩:=o.one
 simp[c1,c2]
 exact fJ [v] gs (by simp[c1,c2]) o (fun x hx=>f x hx) (fun x y hy=>cP f fr hy)
theorem I7 (n:Nat) (hn:n≤24):RO Tryz.prog 212 [.int .i64 n] (.sl (rv (kU n))):=by
 have:=fU 1 (sB n hn) (jL _ _ 0)
 simpa using this

theorem wQ {zs:List (Option Rat)} (h:okL zs):lL (cL zs)=cH zs:=by
 unfold lL cL cH
 rw[List.all_map,Bool.eq_iff_iff,List.all_eq_true,List.all_eq_true]
 constructor
 ·intro H x hx
  have:=H x hx
  rwa [Function.comp,E1 (h x hx)] at this
 ·intro H x hx
  rw[Function.comp,E1 (h x hx)];exact H x hx
theorem J2 {zs:List (Option Rat)} (h:okL zs) (hl:zs.length≤1048576):Cv (cL zs) 1048576:=by
 refine⟨by simpa using hl,fun r hr=> ?_⟩
 obtain⟨x,hx,rfl⟩:=List.mem_map.1 hr
 have:=ro_le (h x hx)
 exact⟨by omega,by omega⟩
theorem Qy (xs:List (Option Rat)) (i:Nat) (x:Option Rat):(rv (cL xs)).set i (ro x).c=rv (cL (xs.set i x)):=by simp[rv,cL,List.map_set]
theorem Co (xs:List (Option Rat)) (i:Nat) (h:i<(cL xs).length):(cL xs)[i]=ro (xs[i]'(by simpa using h)):=by simp[cL]
theorem W0 (n:Nat):kU n=cL (List.replicate n (some 0)):=by simp[kU,cL]
theorem pL (s:Str) (d:List RT) (hj:s.js.length≤140737488351232) (hm:s.ms.length≤140737488351232) (hn: ∀j,j∈s.js→j.name.size≤140737488351232) (hd:Cv d 1048576):RO Tryz.prog 135 [.agg s.c,.sl (rv d)] (.tup [.sl (rv (stQ (uN s d))),.bool (cH (uN s d))]):=by
 refine aH Tryz.func135 rfl rfl (by rw[Tryz.ntmps135];simp) fun bl=> ?_
 rw[Tryz.ntmps135,Tryz.results135]
 refine aE ?_
 simp[Str.c]
 intro g hg0 hg
 refine cX 1 2 (.ptr s.c) bl (by simp[hg]) (by simp[frz,dropB,hg,Str.c,V.cl]) ?_
 refine aB ?_
 simp[Str.c]
 refine aD (kS s hj hm hn) ?_
 cases hk:sOk s
 ·have hz:uN s d= [none]:=by unfold uN rW;rw[hk];rfl
  rw[hz]
  simp
  exact aJ [.nils,.bool false] 1 (by simp) (by simp[frz,V.cl,stQ,cH,rv]) (Sub.refl _)
 have hs:=Q9 hk
 have hnm:=hs.nm
 have hz:rW s d=(decide (d.length=(aS s.ms).length)&& lL d):=by unfold rW;rw[hk];rfl
 have hwl:(who s).length=(aS s.ms).length:=by simp[who]
 simp[Str.c]
 refine aD (rS s hnm) ?_
 simp
 refine bD [(1,.sl (rv d)),(2,.ptr s.c),(4,.nils),(5,.bool false),(6,.sl (iv (who s))),(7,.sl (iv (sgn s)))] _ bl 28 (.bool (!rW s d)) ⟨rfl,by simp[Str.c],Sub.refl _⟩ rfl ?_ ?_
 ·simp[hwl]
  by_cases h:d.length=(aS s.ms).length
  ·have h':(d.length:Int)=((aS s.ms).length:Int):=by omega
   simp[h,h']
   refine aD (xP d hd) ?_
   simp[hz,h]
  ·have h': ¬ (d.length:Int)=((aS s.ms).length:Int):=by omega
   simp[h,h',hz]
 cases hp:rW s d
 ·have hz:uN s d= [none]:=by unfold uN;rw[hp];rfl
  rw[hz]
  simp
  exact aJ [.nils,.bool false] 1 (by simp) (by simp[frz,V.cl,stQ,cH,rv]) (Sub.refl _)
 obtain⟨_,hdl,bH⟩:=X8 hp
 have hD:=Cc d
 have hDl:(cO d).length=(aS s.ms).length:=by simpa using hdl
 have hso: ∀j,j<(aS s.ms).length→((cO d).getD j none).isSome=true:=fun j hj=>by
  rw[gY _ _ _ (by omega)]
  have:=List.all_eq_true.1 bH d[j] (List.getElem_mem (by omega))
  simpa [cO] using this
 have kP:=run_eq s.ms (cO d) hD hso hs.kd
 have hq:uN s d=jS s.ms (cO d) (aS s.ms).length:=by unfold uN;rw[hp,if_pos rfl,kP]
 have hcl:=jD s.ms s.ms.length
 change(aS s.ms).length≤2*s.ms.length at hcl
 have hlR:=mP s.ms (cO d)
 have hoR:=Hx s.ms (cO d)
 have hV:=xP (cL (uN s d)) (J2 (T8 s d).1 (by have:=(T8 s d).2;omega))
 rw[wQ (T8 s d).1] at hV
 rw[hq] at hV ⊢
 simp[Str.c]
 rcases Nat.eq_zero_or_pos s.ms.length with h0 | kN
 ·have hc0:(aS s.ms).length=0:=by omega
  have e0:jS s.ms (cO d) (aS s.ms).length= []:=List.eq_nil_of_length_eq_zero (by rw[hlR,h0])
  rw[e0] at hV ⊢
  have hZ:=I7 0 (by omega)
  rw[h0]
  refine aD hZ ?_
  simp[hwl,hc0]
  refine aG (fun j:Nat=> [(8,.sl []),(34,.int .i64 0),(35,.int .i64 0)]) (fun _=>bl) (fun j=>True) (fun j=>j) _ 0 trivial ⟨rfl,by simp[kU,rv],Sub.refl _⟩ ?_
  intro j _
  refine aB ?_
  simp
  refine aD hV ?_
  simp[cH]
  exact aJ [.sl [],.bool true] 1 (by simp) (by simp[frz,V.cl,stQ,cH,rv,cL]) (Sub.refl _)
 refine fK (sB s.ms.length (by omega)) fun v gs b' o f fr=> ?_
 rcases Gt.1 o with ⟨h1,_,_⟩| ⟨g8,rfl,rfl,hb8,hg8⟩
 ·have h2:s.ms.length=0:=by have:=congrArg List.length h1;rwa [kX] at this
  omega
 have hn8:bl g8=none:=f g8 (by simp)
 have hp8:0≤g8:=by
  rcases Int.lt_or_le g8 0 with h | h
  ·have h2:s.ms.length=0:=by have:=congrArg List.length (hg8 h);rwa [kX] at this
   omega
  ·exact h
 rw[kX]
 simp
 refine aG (fun j:Nat=> [(1,.sl (rv d)),(6,.sl (iv (who s))),(7,.sl (iv (sgn s))),(8,.lsl g8 3 0 s.ms.length),(33,.sl (iv (who s))),(34,.int .i64 (aS s.ms).length),(35,.int .i64 j)]) (fun j=>upd bl g8 (some ⟨3,rv (cL (jS s.ms (cO d) j))⟩)) (fun j=>j≤(aS s.ms).length) (fun j=>(aS s.ms).length - j) _ 0 (Nat.zero_le _) ⟨rfl,by simp[hwl],by
  intro z b hz
  show b' z=some b
  simp only[aC] at hz
  split at hz
  ·rename_i e;rw[e,hb8,←hz,W0];rfl
  ·exact cP f fr hz⟩ ?_
 intro j hj
 have wj:IntKind.i64.wrap ((j:Int)+1)=(j:Int)+1:=i64_in (by omega) (by omega)
 refine aB ?_
 simp
 refine⟨fun h=> ?_,fun h=> ?_⟩
 ·have sR:(aS s.ms)[j]∈aS s.ms:=List.getElem_mem h
  obtain⟨k,e1,hk,hsg⟩:=Hl s.ms.length (Nat.le_refl _) sR
  have h2:j<d.length:=by omega
  have h3:j<(cO d).length:=by omega
  have hrl:=hlR j
  have hkA:k<(jS s.ms (cO d) j).length:=by omega
  have hst:=jT s.ms (cO d) j
  rw[gY _ _ _ h,gY _ _ _ h3,stS,e1,Int.toNat_natCast,gY _ _ _ hkA] at hst
  have ex:ro (cO d)[j]=d[j]:=by rw[←aON bH _ h2];simp[cO]
  have ok1:=hoR j _ (List.getElem_mem hkA)
  have ok2:=hD _ (List.getElem_mem h3)
  have hA:=aSL _ _ ok1 ok2
  have hB:=aSW _ _ ok1 ok2
  have wE:(who s)[j]'(by omega)=(k:Int):=by simp[who,e1]
  have sE:(sgn s)[j]'(by simp[sgn];omega)=(aS s.ms)[j].2:=by simp[sgn]
  have sl:j<(sgn s).length:=by simp[sgn];omega
  have wl:j<(who s).length:=by omega
  have eg:=Co (jS s.ms (cO d) j) k (by simpa using hkA)
  rw[ex] at hA hB
  generalize (cO d)[j]=dx at *
  obtain⟨A,eA⟩: ∃A,jS s.ms (cO d) j=A:=⟨_,rfl⟩
  simp only[eA] at hrl hkA hst hA hB eg ⊢
  rcases hsg with e2 | e2
  ·rw[e2,if_pos (by omega)] at hst
   rw[e2] at sE
   simp[h,wE,sE,sl,wl]
   refine dC aM [0,1,2,3,4,5,6,7,8,9,10,11] 1 12 (by kernel_rfl) ?_
   simp[hrl,hk,hkA,h2,eg,RT.c]
   refine aN hA ?_
   simp[hrl,hk,hkA,RT.c]
   refine cU (i:=12) (by kernel_rfl) rfl rfl rfl ?_
   simp[hrl,hk,hkA,RT.c]
   refine Dy ?_
   simp[wj,aA]
   refine⟨j+1,by omega,by omega,rfl,by simp,?_⟩
   rw[hst,←Qy]
   intro z b hz;simp only[aC,RT.c] at hz ⊢;grind
  ·rw[e2,if_neg (by omega)] at hst
   rw[e2] at sE
   simp[h,wE,sE,sl,wl]
   refine dC aM [0,1,2,3,4,5,6,7,8,9,10,11] 1 12 (by kernel_rfl) ?_
   simp[hrl,hk,hkA,h2,eg,RT.c]
   refine aN hB ?_
   simp[hrl,hk,hkA,RT.c]
   refine cU (i:=12) (by kernel_rfl) rfl rfl rfl ?_
   simp[hrl,hk,hkA,RT.c]
   refine Dy ?_
   simp[wj,aA]
   refine⟨j+1,by omega,by omega,rfl,by simp,?_⟩
   rw[hst,←Qy]
   intro z b hz;simp only[aC,RT.c] at hz ⊢;grind
 ·have hj2:j=(aS s.ms).length:=by omega
  subst hj2
  have hrl:=hlR (aS s.ms).length
  have hfz: ∀(B:Int→Option Blk) (n:Nat),B g8=some ⟨3,rv (cL (jS s.ms (cO d) (aS s.ms).length))⟩→frz (dropB B bl) 1 (.lsl g8 3 0 s.ms.length)=some (.sl (rv (cL (jS s.ms (cO d) (aS s.ms).length)))):=fun B n hB=>
   cY (sz:=3) (n:=s.ms.length) hp8 hn8 (els:=rv (cL (jS s.ms (cO d) (aS s.ms).length))) hB (by simpa using hrl) (Yi _)
  generalize jS s.ms (cO d) (aS s.ms).length=R at *
  have hfb:frz (upd bl g8 (some ⟨3,rv (cL R)⟩)) 1 (.lsl g8 3 0 s.ms.length)=some (.sl (rv (cL R))):=Bc (fun z b hz=>by
   unfold dropB at hz
   split at hz
   ·exact hz
   ·cases hz) 1 (hfz (upd bl g8 (some ⟨3,rv (cL R)⟩)) 0 (by simp))
  simp
  refine aT 1 (ys:= [.sl (rv (cL R))]) (by simp[hfb]) hV rfl ?_
  cases ha:cH R
  ·simp
   exact aJ [.nils,.bool false] 1 (by simp) (by simp[frz,V.cl,stQ,ha,rv]) (by simp[hn8])
  ·simp
   refine aJ [.lsl g8 3 0 s.ms.length,.bool true] 2 (by simp) (Rz ?_) (by simp[hn8])
   have hst:stQ R=cL R:=by unfold stQ;rw[ha];rfl
   rw[hst]
   exact hfz _ 0 (by simp)

def gv (cells:List (List (Option Rat))):List (List V):=cells.map fun r=> [.sl (fvs r)]
def dGr (cells:List (List (Option Rat))):D:= .s 1 (cells.map fun r=> [fl 1 (fvs r)])
def dG (r c:Nat) (cells:List (List (Option Rat))):D:= .a [.c (.int .i64 r),.c (.int .i64 c),dGr cells]
def rowOf (c:Nat) (m:Nat→Nat→Option Rat) (i:Nat):List (Option Rat):=(List.range c).map (m i)
def aT4 (r c:Nat) (m:Nat→Nat→Option Rat):List (List (Option Rat)):=(List.range r).map (rowOf c m)
theorem eH (b:Int→Option Blk) (g:Int):Sub (rem b g) b:=fun z y hz=>by
 rw[aF] at hz
 split at hz
 ·cases hz
 ·exact hz

theorem OwnR.append {bl:Int→Option Blk} {sz:Nat} {rs2:List (List D)} {e2:List (List V)} {g2:List Int} (h2:OwnR bl sz rs2 e2 g2): ∀ {rs:List (List D)} {els:List (List V)} {g1:List Int},OwnR bl sz rs els g1→(∀x,x∈g1→x∉g2)→OwnR bl sz (rs++rs2) (els++e2) (g1++g2)
 | [], els, g1, h, hd => by
   rw[OwnR] at h
   obtain⟨rfl,rfl⟩:=h
   exact h2
 | r :: rs, els, g1, h, hd => by
   rw[OwnR] at h
   obtain⟨e,lV,ga,gb,rfl,rfl,h3,h4,h5,h6,h7⟩:=h
   have ih:=OwnR.append h2 h7 fun x hx=>hd x (List.mem_append_right _ hx)
   show OwnR bl sz (r::(rs++rs2)) (e::(lV++e2)) (ga++gb++g2)
   rw[OwnR]
   refine⟨e,lV++e2,ga,gb++g2,rfl,by simp,fun x hx hx2=> ?_,h4,h5,h6,ih⟩
   rcases List.mem_append.1 hx2 with hx2 | hx2
   ·exact h3 x hx hx2
   ·exact hd x (List.mem_append_left _ hx) hx2
structure MX where
 r:Int
 c:Int
 cells:List RT
def MX.c3 (m:MX):List V:= [.int .i64 m.r,.int .i64 m.c,.sl (rv m.cells)]
def dMx (m:MX):List D:= [.c (.int .i64 m.r),.c (.int .i64 m.c),dRs m.cells]
def aHZ (cells:List (List (Option Rat))):Bool:=cells.all cH
def aXB (r c:Int) (cells:List (List (Option Rat))):MX:=if aHZ cells=true then⟨r,c,(cells.map cL).flatten⟩ else⟨0,0,[]⟩
def dMB (m:MX) (b:Bool):D:= .t [.a (dMx m),.c (.bool b)]
def aR7 (cells:List (List (Option Rat))) (i:Nat):List RT:=((cells.take i).map cL).flatten

theorem Se (a b:Rat) (hb:b.num≠0):sg (decide (a.num<0) !=decide (b.num<0)) (a.num.natAbs*b.den)=a.num*(b.num.sign*b.den):=by
 have h1:b.num.sign.natAbs=1:=by rw[Int.natAbs_sign];simp[hb]
 have h2:(b.num.sign*(b.den:Int)).natAbs=b.den:=by rw[Int.natAbs_mul,h1,Nat.one_mul,Int.natAbs_natCast]
 have hd:=b.den_pos
 have h3:decide (b.num.sign*(b.den:Int)<0)=decide (b.num<0):=by
  rw[decide_eq_decide]
  constructor
  ·intro h
   by_cases h4:b.num<0
   ·exact h4
   ·have:b.num.sign=1:=Int.sign_eq_one_of_pos (by omega)
    rw[this] at h;omega
  ·intro h
   rw[Int.sign_eq_neg_one_of_neg h];omega
 have:=sH a.num (b.num.sign*b.den)
 rw[h2,h3] at this
 exact this

def iF (s:Str) (n:Nat):List Int:=((aQ s.js).take n).flatMap fun j=>dU s j++eL s j
def eC (s:Str):List Int:=(aQ s.js).flatMap fun j=>dU s j++eL s j
theorem wS (s:Str) (n:Nat) (h:n<(aQ s.js).length):iF s (n+1)=iF s n++dU s (aQ s.js)[n]++eL s (aQ s.js)[n]:=by
 unfold iF
 rw[List.take_add_one,List.getElem?_eq_getElem h,List.flatMap_append];simp
theorem kF (s:Str): ∀n,n≤(aQ s.js).length→(iF s n).length=2*s.ms.length*n
 | 0, _ => by simp [iF]
 | n + 1, h => by
   rw[wS s n (by omega),List.length_append,List.length_append,kF s n (by omega),mH,mN,Nat.mul_add];omega
structure Xk where
 i:Nat
 g:Int
 b:Int→Option Blk
def Nk (bl:Int→Option Blk) (s:Str) (gs:Int) (p:Xk):Prop:=
 p.i≤(aQ s.js).length∧p.g≠gs∧p.b p.g=some ⟨1,iv (iF s p.i)⟩∧p.b gs=some ⟨2,[[.sl (jv s.js),.sl (mv s.ms)]]⟩∧bl p.g=none∧Sub bl p.b∧(p.g<0→iF s p.i= [])
def xTo (s:Str) (j:Int) (n:Nat):List Int:=(s.ms.take n).map (eqX s j)
def yTo (s:Str) (j:Int) (n:Nat):List Int:=(s.ms.take n).map (eqY s j)
theorem Nl (s:Str) (j:Int) (n:Nat) (h:n<s.ms.length):xTo s j (n+1)=xTo s j n++ [eqX s j s.ms[n]]:=by
 unfold xTo;rw[List.take_add_one,List.getElem?_eq_getElem h,List.map_append];rfl
theorem Mj (s:Str) (j:Int) (n:Nat) (h:n<s.ms.length):yTo s j (n+1)=yTo s j n++ [eqY s j s.ms[n]]:=by
 unfold yTo;rw[List.take_add_one,List.getElem?_eq_getElem h,List.map_append];rfl
theorem Vz (s:Str) (j:Int):xTo s j s.ms.length=dU s j:=by simp[xTo,dU]
theorem Wb (s:Str) (j:Int):yTo s j s.ms.length=eL s j:=by simp[yTo,eL]
theorem Cy (s:Str) (j:Int) (n:Nat) (h:n≤s.ms.length):(xTo s j n).length=n:=by simp[xTo];omega
theorem Fu (s:Str) (j:Int) (n:Nat) (h:n≤s.ms.length):(yTo s j n).length=n:=by simp[yTo];omega
set_option maxHeartbeats 2000000 in
theorem Ev (s:Str) (hs:SOk s):NW Tryz.prog 193 [.agg s.c] (fl 1 (iv (eC s))):=by
 have h6:=hs.nj
 have h8:=hs.nm
 have hfr:=iU s.js s.js.length
 change(aQ s.js).length≤s.js.length at hfr
 refine iQ Tryz.func193 rfl rfl (by rw[Tryz.ntmps193];simp) fun bl=> ?_
 rw[Tryz.ntmps193,Tryz.results193]
 refine aB ?_
 simp[Str.c]
 intro gs Ti hgs ga aL7 I5 Fm
 simp[Str.c,I5,Ne.symm I5]
 refine aD (sT s (by omega)) ?_
 simp
 refine aG (fun p:Xk=> [(1,.loc gs 2 0 0),(3,.lsl p.g 1 0 (2*s.ms.length*p.i)),(14,.sl (iv (aQ s.js))),(15,.int .i64 (aQ s.js).length),(16,.int .i64 p.i)]) (fun p=>p.b) (Nk bl s gs) (fun p=>(aQ s.js).length - p.i) 78
  ⟨0,ga,upd (upd bl gs (some ⟨2,[[.sl (jv s.js),.sl (mv s.ms)]]⟩)) ga (some ⟨1,[]⟩)⟩ ⟨Nat.zero_le _,I5,by simp[iF,iv],by simp[Ne.symm I5],Fm,by simp[hgs,Fm],fun _=>rfl⟩ ⟨rfl,by simp,sub_eq (by simp[Str.c])⟩ ?_
 rintro⟨i,g,b⟩ ⟨hi,hgg,hbg,hbs,hg,hsb,h0⟩
 simp only at hi hgg hbg hbs hg hsb h0
 refine aB ?_
 simp
 refine⟨fun h=> ?_,fun h=> ?_⟩
 ·have q:=dN (aQ s.js) i h
  simp[h]
  obtain⟨j,hj⟩: ∃j,(aQ s.js)[i]=j:=⟨_,rfl⟩
  rw[hj]
  intro gx aJ7 hbx gy aT2 hyx hby
  have nxs:gx≠gs:=fun e=>by rw[e,hbs] at hbx;cases hbx
  have nys:gy≠gs:=fun e=>by rw[e,hbs] at hby;cases hby
  have nxg:gx≠g:=fun e=>by rw[e,hbg] at hbx;cases hbx
  have nyg:gy≠g:=fun e=>by rw[e,hbg] at hby;cases hby
  simp[nxs,Ne.symm nxs,nys,Ne.symm nys,hbs]
  refine aG (fun p:Two=> [(1,.loc gs 2 0 0),(3,.lsl g 1 0 (2*s.ms.length*i)),(5,.int .i64 j),(6,.lsl p.g 1 0 p.i),(7,.lsl p.h 1 0 p.i),(14,.sl (iv (aQ s.js))),(15,.int .i64 (aQ s.js).length),(16,.int .i64 i),(23,.sl (mv s.ms)),(24,.int .i64 s.ms.length),(25,.int .i64 p.i)])
   (fun p=>p.b) (fun p=>Rc b (xTo s j) (yTo s j) s.ms.length p∧0≤p.g∧0≤p.h) (fun p=>s.ms.length - p.i) 78 ⟨0,gx,gy,upd (upd b gx (some ⟨1,[]⟩)) gy (some ⟨1,[]⟩)⟩ ⟨⟨Nat.zero_le _,Ne.symm hyx,by simp[Ne.symm hyx,xTo,iv],by simp[yTo,iv],hbx,hby,by simp[hbx,hby],fun _=>rfl,fun _=>rfl⟩,aJ7,aT2⟩ ⟨rfl,by simp,sub_eq (by simp)⟩ ?_
  rintro⟨k,x,y,c⟩ ⟨⟨hk,hxy,hcx,hcy,An,Ax,hsc,_,_⟩,hx0,hy0⟩
  simp only at hk hxy hcx hcy An Ax hsc hx0 hy0
  have hcs:=hsc _ _ hbs
  have hcg:=hsc _ _ hbg
  have fr: ∀x,c x=none→b x=none:=fun x hx=>bZ hsc hx
  have lx:=Cy s j k hk
  have ly:=Fu s j k hk
  have tkx:(iv (xTo s j k)).take k=iv (xTo s j k):=List.take_of_length_le (by simp[lx])
  have tky:(iv (yTo s j k)).take k=iv (yTo s j k):=List.take_of_length_le (by simp[ly])
  refine aB ?_
  simp
  refine⟨fun hkl=> ?_,fun hkl=> ?_⟩
  ·have hv:=Lh hs (List.getElem_mem hkl)
   have hm:mat s (k:Int)=s.ms[k]:=yX hkl
   have E7:=P9 s k hs (by omega) (by omega)
   rw[hm] at E7
   have w1:IntKind.i64.wrap ((k:Int)+1)=k+1:=i64_in (by omega) (by omega)
   have nx:IntKind.i64.wrap (-vx s s.ms[k])= -vx s s.ms[k]:=i64_in (by omega) (by omega)
   have ny:IntKind.i64.wrap (-vy s s.ms[k])= -vy s s.ms[k]:=i64_in (by omega) (by omega)
   have sx:=Nl s j k hkl
   have sy:=Mj s j k hkl
   simp[hkl,Mb.c]
   intro g1 hg1 hb1
   have n1s:g1≠gs:=fun e=>by rw[e,hcs] at hb1;cases hb1
   have n1x:g1≠x:=fun e=>by rw[e,hcx] at hb1;cases hb1
   have n1y:g1≠y:=fun e=>by rw[e,hcy] at hb1;cases hb1
   simp[n1s,Ne.symm n1s,hcs]
   refine aD E7 ?_
   simp
   refine⟨fun e1=> ?_,fun e1=>⟨fun e2=> ?_,fun e2=> ?_⟩⟩
   ·intro g2 hg2 h21 hb2
    have n2x:g2≠x:=fun e=>by rw[e,hcx] at hb2;cases hb2
    have n2y:g2≠y:=fun e=>by rw[e,hcy] at hb2;cases hb2
    simp[hcx,n1x,h21,n2x,Ne.symm n1x,Ne.symm h21,Ne.symm n2x,lx,tkx,nx,ny,appV,elsV,Int.not_lt.2 hg2]
    refine⟨by omega,fun g3 hg3 hb3=> ?_⟩
    have n31:g3≠g1:=by grind
    have n3y:g3≠y:=by grind
    simp[n31,Ne.symm n31,n3y,Ne.symm n3y,nx,ny]
    intro g4 hg4 h43 hb4
    have n41:g4≠g1:=by grind
    have n4y:g4≠y:=by grind
    simp[hxy,Ne.symm hxy,hcy,n1y,Ne.symm n1y,n2y,Ne.symm n2y,n31,Ne.symm n31,n3y,Ne.symm n3y,n41,Ne.symm n41,n4y,Ne.symm n4y,h43,Ne.symm h43,ly,tky,lx,tkx,nx,ny,appV,elsV,Int.not_lt.2 hg4]
    refine⟨by omega,fun g5 hg5 hb5=> ?_⟩
    have n51:g5≠g1:=by grind
    have n53:g5≠g3:=by grind
    have f1:eqX s j s.ms[k]=vx s s.ms[k]:=by rw[eqX,if_pos e1]
    have f2:eqY s j s.ms[k]=vy s s.ms[k]:=by rw[eqY,if_pos e1]
    rw[f1] at sx
    rw[f2] at sy
    simp[w1,aA]
    refine⟨⟨k+1,g3,g5,_⟩,⟨⟨by simp only;omega,by simp only;grind,?_,?_,by simp only;grind,by simp only;grind,?_,fun e=>by simp only at e;omega,fun e=>by simp only at e;omega⟩,hg3,hg5⟩,by simp only;omega,rfl,by simp,sub_eq rfl⟩
    ·simp[hxy,Ne.symm hxy,n31,Ne.symm n31,n51,Ne.symm n51,n53,Ne.symm n53,n41,Ne.symm n41,h43,Ne.symm h43,n3y,Ne.symm n3y,n4y,Ne.symm n4y,sx,aV,iW,tkx,tky]
    ·simp[hxy,Ne.symm hxy,n31,Ne.symm n31,n51,Ne.symm n51,n53,Ne.symm n53,n41,Ne.symm n41,h43,Ne.symm h43,n3y,Ne.symm n3y,n4y,Ne.symm n4y,sy,aV,iW,tkx,tky]
    ·intro u z hx
     have hbx:=hsc u z hx
     have ng:u≠x:=fun e=>by rw[e,An] at hx;cases hx
     have nh:u≠y:=fun e=>by rw[e,Ax] at hx;cases hx
     simp[aC,aF]
     grind
   ·intro g2 hg2 h21 hb2
    have n2x:g2≠x:=fun e=>by rw[e,hcx] at hb2;cases hb2
    have n2y:g2≠y:=fun e=>by rw[e,hcy] at hb2;cases hb2
    simp[hcx,n1x,h21,n2x,Ne.symm n1x,Ne.symm h21,Ne.symm n2x,lx,tkx,nx,ny,appV,elsV,Int.not_lt.2 hg2]
    refine⟨by omega,fun g3 hg3 hb3=> ?_⟩
    have n31:g3≠g1:=by grind
    have n3y:g3≠y:=by grind
    simp[n31,Ne.symm n31,n3y,Ne.symm n3y,nx,ny]
    intro g4 hg4 h43 hb4
    have n41:g4≠g1:=by grind
    have n4y:g4≠y:=by grind
    simp[hxy,Ne.symm hxy,hcy,n1y,Ne.symm n1y,n2y,Ne.symm n2y,n31,Ne.symm n31,n3y,Ne.symm n3y,n41,Ne.symm n41,n4y,Ne.symm n4y,h43,Ne.symm h43,ly,tky,lx,tkx,nx,ny,appV,elsV,Int.not_lt.2 hg4]
    refine⟨by omega,fun g5 hg5 hb5=> ?_⟩
    have n51:g5≠g1:=by grind
    have n53:g5≠g3:=by grind
    have f1:eqX s j s.ms[k]= -vx s s.ms[k]:=by rw[eqX,if_neg e1,if_pos e2]
    have f2:eqY s j s.ms[k]= -vy s s.ms[k]:=by rw[eqY,if_neg e1,if_pos e2]
    rw[f1] at sx
    rw[f2] at sy
    simp[w1,aA]
    refine⟨⟨k+1,g3,g5,_⟩,⟨⟨by simp only;omega,by simp only;grind,?_,?_,by simp only;grind,by simp only;grind,?_,fun e=>by simp only at e;omega,fun e=>by simp only at e;omega⟩,hg3,hg5⟩,by simp only;omega,rfl,by simp,sub_eq rfl⟩
    ·simp[hxy,Ne.symm hxy,n31,Ne.symm n31,n51,Ne.symm n51,n53,Ne.symm n53,n41,Ne.symm n41,h43,Ne.symm h43,n3y,Ne.symm n3y,n4y,Ne.symm n4y,sx,aV,iW,tkx,tky]
    ·simp[hxy,Ne.symm hxy,n31,Ne.symm n31,n51,Ne.symm n51,n53,Ne.symm n53,n41,Ne.symm n41,h43,Ne.symm h43,n3y,Ne.symm n3y,n4y,Ne.symm n4y,sy,aV,iW,tkx,tky]
    ·intro u z hx
     have hbx:=hsc u z hx
     have ng:u≠x:=fun e=>by rw[e,An] at hx;cases hx
     have nh:u≠y:=fun e=>by rw[e,Ax] at hx;cases hx
     simp[aC,aF]
     grind
   ·intro g2 hg2 h21 hb2
    have n2x:g2≠x:=fun e=>by rw[e,hcx] at hb2;cases hb2
    have n2y:g2≠y:=fun e=>by rw[e,hcy] at hb2;cases hb2
    simp[hcx,n1x,h21,n2x,Ne.symm n1x,Ne.symm h21,Ne.symm n2x,lx,tkx,nx,ny,appV,elsV,Int.not_lt.2 hg2]
    refine⟨by omega,fun g3 hg3 hb3=> ?_⟩
    have n31:g3≠g1:=by grind
    have n3y:g3≠y:=by grind
    simp[n31,Ne.symm n31,n3y,Ne.symm n3y,nx,ny]
    intro g4 hg4 h43 hb4
    have n41:g4≠g1:=by grind
    have n4y:g4≠y:=by grind
    simp[hxy,Ne.symm hxy,hcy,n1y,Ne.symm n1y,n2y,Ne.symm n2y,n31,Ne.symm n31,n3y,Ne.symm n3y,n41,Ne.symm n41,n4y,Ne.symm n4y,h43,Ne.symm h43,ly,tky,lx,tkx,nx,ny,appV,elsV,Int.not_lt.2 hg4]
    refine⟨by omega,fun g5 hg5 hb5=> ?_⟩
    have n51:g5≠g1:=by grind
    have n53:g5≠g3:=by grind
    have f1:eqX s j s.ms[k]=0:=by rw[eqX,if_neg e1,if_neg e2]
    have f2:eqY s j s.ms[k]=0:=by rw[eqY,if_neg e1,if_neg e2]
    rw[f1] at sx
    rw[f2] at sy
    simp[w1,aA]
    refine⟨⟨k+1,g3,g5,_⟩,⟨⟨by simp only;omega,by simp only;grind,?_,?_,by simp only;grind,by simp only;grind,?_,fun e=>by simp only at e;omega,fun e=>by simp only at e;omega⟩,hg3,hg5⟩,by simp only;omega,rfl,by simp,sub_eq rfl⟩
    ·simp[hxy,Ne.symm hxy,n31,Ne.symm n31,n51,Ne.symm n51,n53,Ne.symm n53,n41,Ne.symm n41,h43,Ne.symm h43,n3y,Ne.symm n3y,n4y,Ne.symm n4y,sx,aV,iW,tkx,tky]
    ·simp[hxy,Ne.symm hxy,n31,Ne.symm n31,n51,Ne.symm n51,n53,Ne.symm n53,n41,Ne.symm n41,h43,Ne.symm h43,n3y,Ne.symm n3y,n4y,Ne.symm n4y,sy,aV,iW,tkx,tky]
    ·intro u z hx
     have hbx:=hsc u z hx
     have ng:u≠x:=fun e=>by rw[e,An] at hx;cases hx
     have nh:u≠y:=fun e=>by rw[e,Ax] at hx;cases hx
     simp[aC,aF]
     grind
  ·have:k=s.ms.length:=by omega
   subst this
   rw[Vz] at hcx
   rw[Wb] at hcy
   have aV5:x≠gs:=fun e=>by rw[e,hbs] at An;cases An
   have aWW:y≠gs:=fun e=>by rw[e,hbs] at Ax;cases Ax
   have Tr:x≠g:=fun e=>by rw[e,hbg] at An;cases An
   have Uo:y≠g:=fun e=>by rw[e,hbg] at Ax;cases Ax
   have lr:=kF s i (by omega)
   have tkr:(iv (iF s i)).take (2*s.ms.length*i)=iv (iF s i):=List.take_of_length_le (by simp[lr])
   have tkX:(iv (dU s j)).take s.ms.length=iv (dU s j):=List.take_of_length_le (by simp)
   have tkY:(iv (eL s j)).take s.ms.length=iv (eL s j):=List.take_of_length_le (by simp)
   have hi6:2*s.ms.length*i≤2*8*6:=Nat.mul_le_mul (by omega) (by omega)
   simp[hcg,hcx,hcy,Tr,Uo,Ne.symm Tr,Ne.symm Uo,Int.not_lt.2 hx0,Int.not_lt.2 hy0,appV,elsV,lr,tkr,tkX,tkY]
   refine⟨by omega,fun go hgo hbo=> ?_⟩
   have nos:go≠gs:=by grind
   have nox:go≠x:=by grind
   have noy:go≠y:=by grind
   simp[nox,noy,Ne.symm nox,Ne.symm noy,Tr,Uo,Ne.symm Tr,Ne.symm Uo,hcx,hcy,Int.not_lt.2 hx0,Int.not_lt.2 hy0,appV,elsV,lr,tkr,tkX,tkY]
   refine⟨by omega,fun gn hgn hbn=> ?_⟩
   have nns:gn≠gs:=by grind
   have w2:IntKind.i64.wrap ((i:Int)+1)=i+1:=i64_in (by omega) (by omega)
   subst hj
   have rs:=wS s i h
   have h1:bl go=none:=by
    by_cases e:go=g
    ·rw[e];exact hg
    ·exact bZ hsb (fr _ (hbo e))
   have h2:bl gn=none:=by
    by_cases e:gn=go
    ·rw[e];exact h1
    ·by_cases e2:gn=g
     ·rw[e2];exact hg
     ·exact bZ hsb (fr _ (by grind))
   simp[w2,aA]
   refine⟨⟨i+1,gn,_⟩,⟨by simp only;omega,nns,?_,?_,h2,?_,?_⟩,by simp only;omega,rfl,?_,sub_eq rfl⟩
   ·have tk2:(iv (iF s i)++iv (dU s (aQ s.js)[i])).take (2*s.ms.length*i+s.ms.length)=iv (iF s i)++iv (dU s (aQ s.js)[i]):=List.take_of_length_le (by simp[lr])
    simp[rs,aV,tk2]
   ·simp[Ne.symm nns,Ne.symm nos,Ne.symm hgg,hcs]
   ·intro u z hx
    have hbx:=hsc u z (hsb u z hx)
    have n1:u≠g:=fun e=>by rw[e,hg] at hx;cases hx
    have n2:u≠go:=fun e=>by rw[e,h1] at hx;cases hx
    have n3:u≠gn:=fun e=>by rw[e,h2] at hx;cases hx
    simp[n1,n2,n3,hbx]
   ·intro e
    simp only at e ⊢
    have ez:s.ms= []:=by
     rcases hgn with hn | ⟨_,hn⟩
     ·omega
     ·have:=congrArg List.length hn
      simpa using this
    have er:=lr
    rw[ez] at er
    rw[rs]
    simp[dU,eL,ez] at er ⊢
    exact er
   ·simp[Nat.mul_add];omega
 ·have:i=(aQ s.js).length:=by omega
  subst this
  refine fJ [.lsl g 1 0 (2*s.ms.length*(aQ s.js).length)] [g] (by simp) ?_ (by simpa using hg) hsb
  have e:eC s=iF s (aQ s.js).length:=by simp[eC,iF]
  refine dH.2 (.inr ⟨g,?_,rfl,by rw[e];exact hbg,by rw[e];exact h0⟩)
  rw[e,kF s _ (Nat.le_refl _)];rfl
theorem Ek (s:Str) (hs:SOk s):RO Tryz.prog 193 [.agg s.c] (.sl (iv (eC s))):=by
 have:=fU 1 (Ev s hs) (jL _ _ 0)
 simpa using this
def fR (s:Str) (l:List Int) (n:Nat):List Int:=((aQ s.js).take n).flatMap fun j=> [-lat l (2*j).toNat, -lat l (2*j+1).toNat]
def right (s:Str) (l:List Int):List Int:=(aQ s.js).flatMap fun j=> [-lat l (2*j).toNat, -lat l (2*j+1).toNat]
theorem tQ (s:Str) (l:List Int) (n:Nat) (h:n<(aQ s.js).length):fR s l (n+1)=fR s l n++ [-lat l (2*(aQ s.js)[n]).toNat, -lat l (2*(aQ s.js)[n]+1).toNat]:=by
 unfold fR
 rw[List.take_add_one,List.getElem?_eq_getElem h,List.flatMap_append];simp
theorem jN (s:Str) (l:List Int): ∀n,n≤(aQ s.js).length→(fR s l n).length=2*n
 | 0, _ => by simp [fR]
 | n + 1, h => by
   rw[tQ s l n (by omega),List.length_append,jN s l n (by omega)];simp;omega
theorem xJ {s:Str} {j:Int} (h:j∈aQ s.js):0≤j∧j<s.js.length:=by
 unfold aQ bS at h
 obtain⟨k,hk,rfl⟩:=List.mem_map.1 h
 have:=List.mem_range.1 (List.mem_filter.1 hk).1
 omega
theorem By (s:Str) (l:List Int) (hL:LOk s l):NW Tryz.prog 194 [.agg s.c,.sl (iv l)] (fl 1 (iv (right s l))):=by
 have h6:=hL.sok.nj
 have hfr:=iU s.js s.js.length
 change(aQ s.js).length≤s.js.length at hfr
 refine iQ Tryz.func194 rfl rfl (by rw[Tryz.ntmps194];simp) fun bl=> ?_
 rw[Tryz.ntmps194,Tryz.results194]
 refine aB ?_
 simp[Str.c]
 intro gs Ti hgs ga aL7 I5 Fm
 simp[Str.c,I5,Ne.symm I5]
 refine aD (sT s (by omega)) ?_
 simp
 refine aG (fun p:Nat×Int=> [(1,.sl (iv l)),(5,.lsl p.2 1 0 (2*p.1)),(10,.sl (iv (aQ s.js))),(11,.int .i64 (aQ s.js).length),(12,.int .i64 p.1)]) (fun p=>upd bl p.2 (some ⟨1,iv (fR s l p.1)⟩)) (fun p=>p.1≤(aQ s.js).length∧bl p.2=none∧(p.2<0→fR s l p.1= [])) (fun p=>(aQ s.js).length - p.1) 34 (0,ga) ⟨Nat.zero_le _,Fm,fun _=>rfl⟩ (by refine⟨rfl,by simp,?_⟩;exact dA (by simp[fR,iv]) (by simp[hgs])) ?_
 rintro⟨i,g⟩ ⟨hi,hg,h0⟩
 simp only at hi hg h0
 refine aB ?_
 simp
 refine⟨fun h=> ?_,fun h=> ?_⟩
 ·have q:=dN (aQ s.js) i h
  obtain⟨r1,r2⟩:=xJ (List.getElem_mem h)
  have rs:=tQ s l i h
  simp[h]
  obtain⟨j,hj⟩: ∃j,(aQ s.js)[i]=j:=⟨_,rfl⟩
  rw[hj] at r1 r2 rs ⊢
  have a1:(2*j).toNat<l.length:=by rw[hL.n];omega
  have a2:(2*j+1).toNat<l.length:=by rw[hL.n];omega
  have b1:=hL.f _ a1
  have b2:=hL.f _ a2
  have q1:=rV a1
  have q2:=rV a2
  have w1:IntKind.i64.wrap (2*j)=2*j:=i64_in (by omega) (by omega)
  have w2:IntKind.i64.wrap (2*j+1)=2*j+1:=i64_in (by omega) (by omega)
  have w3:IntKind.i64.wrap (-lat l (2*j).toNat)= -lat l (2*j).toNat:=i64_in (by omega) (by omega)
  have w4:IntKind.i64.wrap (-lat l (2*j+1).toNat)= -lat l (2*j+1).toNat:=i64_in (by omega) (by omega)
  have w5:IntKind.i64.wrap ((i:Int)+1)=i+1:=i64_in (by omega) (by omega)
  have p1:0≤2*j:=by omega
  have p2:0≤2*j+1:=by omega
  refine aW aM bl (by simp[hg]) [0,1,2,3,4,5,6,7,8,9,10,11,12,13] 3 (by kernel_rfl) ?_
  simp[-dN,w1,w2,w3,w4,q1,q2,p1,p2]
  have er2:List.range 2= [0,1]:=rfl
  have lr:=jN s l i (by omega)
  have tkr:(iv (fR s l i)).take (2*i)=iv (fR s l i):=List.take_of_length_le (by simp[lr])
  refine Dz 14 ?_
  simp
  intro gp hgp hpg hbp
  refine⟨by simp[hbp,hg],Dz 15 ?_⟩
  simp[er2,hpg,Ne.symm hpg,lr,tkr,appV,elsV,Int.not_lt.2 hgp]
  refine⟨by omega,fun gn hgn hbn=> ?_⟩
  have hgb:bl gn=none:=by grind
  have hsb: ∀X,Sub bl (upd (rem (upd (upd bl g (some ⟨1,iv (fR s l i)⟩)) gp (some ⟨1,[[.int .i64 (-lat l (2*j).toNat)],[.int .i64 (-lat l (2*j+1).toNat)]]⟩)) g) gn X):=fun X=>by simp[hg,hbp,hgb,hpg]
  refine⟨hsb _,Dz 16 ?_⟩
  simp
  refine⟨hsb _,Dy ?_⟩
  simp[w5,aA]
  refine⟨i+1,gn,⟨by omega,?_,by omega⟩,by omega,rfl,by simp;omega,?_⟩
  ·grind
  rw[rs,aV]
  exact dA (by rfl) (by simp[hg,hbp,hpg])
 ·have:i=(aQ s.js).length:=by omega
  subst this
  refine fJ [.lsl g 1 0 (2*(aQ s.js).length)] [g] (by simp) ?_ (by simpa using hg) (by simp[hg])
  have e:right s l=fR s l (aQ s.js).length:=by simp[right,fR]
  refine dH.2 (.inr ⟨g,?_,rfl,by rw[e];simp,by rw[e];exact h0⟩)
  rw[e,jN s l _ (Nat.le_refl _)];rfl
theorem V6 (s:Str) (l:List Int) (hL:LOk s l):RO Tryz.prog 194 [.agg s.c,.sl (iv l)] (.sl (iv (right s l))):=by
 have:=fU 1 (By s l hL) (jL _ _ 0)
 simpa using this

structure Pg where
 rows:Int
 aS:Int
 a:List Int
 b:List Int
 c:List Int
def Pg.v (p:Pg):List V:= [.int .i64 p.rows,.int .i64 p.aS,.sl (iv p.a),.sl (iv p.b),.sl (iv p.c)]
def nR (s:Str):Nat:=2*(aQ s.js).length
def nC (s:Str):Nat:=(aS s.ms).length
def jA (s:Str) (c:Nat):Int×Int:=(aS s.ms).getD c (0,0)
def ent (s:Str) (i c:Nat):Int:=(jA s c).2*lat (eC s) (i*s.ms.length+(jA s c).1.toNat)
def aTo (s:Str) (n:Nat):List Int:=(List.range n).map fun t=>ent s (t / nC s) (t % nC s)
def dQ (s:Str) (l:List Int):Pg:=⟨nR s,nC s,aTo s (nR s*nC s),right s l,List.replicate (nC s) 0⟩
@[simp] theorem aBK (s : Str) (n : Nat) : (aTo s n).length = n := by simp [aTo]
theorem A6 (s:Str) (i c:Nat) (h:c<nC s):aTo s (i*nC s+c+1)=aTo s (i*nC s+c)++ [ent s i c]:=by
 unfold aTo
 rw[List.range_succ,List.map_append]
 congr 1
 simp only[List.map_cons,List.map_nil]
 rw[Nat.mul_comm i,Nat.mul_add_div (by omega),Nat.mul_add_mod,Nat.div_eq_of_lt h,Nat.mod_eq_of_lt h,Nat.add_zero]
theorem nW (s:Str):(eC s).length=nR s*s.ms.length:=by
 have e:eC s=iF s (aQ s.js).length:=by simp[eC,iF]
 rw[e,kF s _ (Nat.le_refl _),nR,Nat.mul_right_comm]
theorem Rw {ms:List Mb} {n:Nat} {p:Int×Int} (h:p∈aR ms n):(0≤p.1∧p.1<n)∧(p.2=1∨p.2= -1):=by
 unfold aR at h
 obtain⟨k,hk,hp⟩:=List.mem_flatMap.1 h
 have:=List.mem_range.1 hk
 unfold nT at hp
 rcases List.mem_append.1 hp with hp | hp<;>split at hp<;>simp at hp<;>subst hp<;>simp<;>omega
theorem pP (s:Str) (c:Nat) (h:c<nC s):(0≤(jA s c).1∧(jA s c).1<s.ms.length)∧((jA s c).2=1∨(jA s c).2= -1):=by
 unfold nC at h
 have:jA s c=(aS s.ms)[c]:=by simp[jA,h]
 rw[this]
 exact Rw (List.getElem_mem h)
theorem Ej (s:Str) (c:Nat) (h:c<nC s):(iv (who s))[c]? =some [.int .i64 (jA s c).1]:=by
 unfold nC at h
 simp[who,jA,h,iv]
theorem Fg (s:Str) (c:Nat) (h:c<nC s):(iv (sgn s))[c]? =some [.int .i64 (jA s c).2]:=by
 unfold nC at h
 simp[sgn,jA,h,iv]
theorem qP {s:Str} (hs:SOk s) (n:Nat): -100≤lat (eC s) n∧lat (eC s) n≤100:=by
 have key: ∀x,x∈eC s→ -100≤x∧x≤100:=by
  intro x hx
  unfold eC at hx
  obtain⟨j,_,hx⟩:=List.mem_flatMap.1 hx
  rcases List.mem_append.1 hx with hx | hx
  ·obtain⟨m,hm,rfl⟩:=List.mem_map.1 hx
   have:=Lh hs hm
   unfold eqX;split
   ·omega
   ·split<;>omega
  ·obtain⟨m,hm,rfl⟩:=List.mem_map.1 hx
   have:=Lh hs hm
   unfold eqY;split
   ·omega
   ·split<;>omega
 unfold lat
 rw[List.getD_eq_getElem?_getD]
 cases h:(eC s)[n]? with
 | none => simp
 | some x => exact key x (List.mem_of_getElem? h)
structure PS where
 n:Nat
 g:Int
 b:Int→Option Blk
structure PI (bl : Int → Option Blk) (s : Str) (l : List Int) (gr gp gc : Int) (p : PS) : Prop where
 hr:p.b gr=some ⟨5,[[.int .i64 0,.int .i64 0,.nils,.nils,.nils]]⟩
 hp:p.b gp=some ⟨5,[[.int .i64 (nR s),.int .i64 (nC s),.lsl p.g 1 0 p.n,.sl (iv (right s l)),.lsl gc 1 0 (nC s)]]⟩
 hc:p.b gc=some ⟨1,iv (List.replicate (nC s) 0)⟩
 ha:p.b p.g=some ⟨1,iv (aTo s p.n)⟩
 pr:p.g≠gr
 pp:p.g≠gp
 pc:p.g≠gc
 f:bl p.g=none
 sub:Sub bl p.b
 neg:p.g<0→aTo s p.n= []
set_option maxHeartbeats 2000000 in
theorem I3 (s:Str) (l:List Int) (hL:LOk s l):RO Tryz.prog 117 [.agg s.c,.sl (iv l)] (.agg (dQ s l).v):=by
 have hs:=hL.sok
 have h6:=hs.nj
 have h8:=hs.nm
 have hfr:=iU s.js s.js.length
 change(aQ s.js).length≤s.js.length at hfr
 have hcn:nC s≤2*s.ms.length:=jD s.ms s.ms.length
 have hrn:nR s≤12:=by unfold nR;omega
 have ew:(who s).length=nC s:=by simp[who,nC]
 have w0:IntKind.i64.wrap (2*((aQ s.js).length:Int))=(nR s:Int):=by rw[i64_in (by omega) (by omega)];unfold nR;omega
 refine aH Tryz.func117 rfl rfl (by rw[Tryz.ntmps117];simp) fun bl=> ?_
 rw[Tryz.ntmps117,Tryz.results117]
 refine aB ?_
 simp[Str.c]
 intro gs Ti hgs gr Tz H3 hbr
 simp[H3,Ne.symm H3]
 refine aD (rS s (by omega)) ?_
 simp[H3,Ne.symm H3]
 refine aD (Ek s hs) ?_
 simp[H3,Ne.symm H3]
 refine nL aM [0,1,2,3,4,5,6,7,8,9,10] 4 (by kernel_rfl) ?_
 simp[H3,Ne.symm H3]
 refine aN (sT s (by omega)) ?_
 simp[H3,Ne.symm H3,w0]
 refine aN (V6 s l hL) ?_
 simp[ew]
 refine gI (i:=11) (j:=13) (by kernel_rfl) rfl rfl rfl rfl ?_ ?_
 ·simp
  refine⟨by omega,by unfold maxLen;omega,fun gc hgc hcr hcs hbc=>⟨by simp[hcs,hcr,hbc],?_⟩⟩
  refine gI (i:=12) (j:=13) (by kernel_rfl) rfl rfl rfl rfl ?_ ?_
  ·simp
   refine⟨by simp[hcs,hcr,hbc],Dz 13 ?_⟩
   simp
   intro gp hgp hpc hpr hps hbp
   refine⟨by simp[hcs,hcr,hbc,hpc,hpr,hps,hbp],Dz 14 ?_⟩
   simp
   refine⟨by simp[hcs,hcr,hbc,hpc,hpr,hps,hbp],Dy ?_⟩
   simp[Str.c]
   refine cQ (g:=gp) 0 2 1 (s:=5) (els:= [[.int .i64 (nR s),.int .i64 (nC s),.nils,.sl (iv (right s l)),.lsl gc 1 0 (nC s)]]) (by simp) rfl rfl fun ga hga zN=> ?_
   have Sx:bl ga=none∧ga≠gr∧ga≠gc:=by simp[zN] at hga;grind
   obtain⟨hba,har,hac⟩:=Sx
   clear hga
   refine aG (fun p:Nat×PS=> [(4,.loc gr 5 0 0),(5,.sl (iv (who s))),(6,.sl (iv (sgn s))),(7,.int .i64 s.ms.length),(8,.sl (iv (eC s))),(9,.loc gp 5 0 0),(10,.int .i64 p.1)]) (fun p=>p.2.b) (fun p=>p.1≤nR s∧p.2.n=p.1*nC s∧PI bl s l gr gp gc p.2) (fun p=>nR s - p.1) 69 (0,⟨0,ga,_⟩) ⟨Nat.zero_le _,by simp,⟨?_,?_,?_,?_,har,zN,hac,hba,?_,fun _=>rfl⟩⟩ ⟨rfl,by simp,sub_eq rfl⟩ ?_
   ·simp[Ne.symm har,hpr,Ne.symm hpr,hcr,Ne.symm hcr]
   ·simp[Ne.symm zN]
   ·simp[Ne.symm hac,hpc,Ne.symm hpc,iv]
   ·simp[aTo,iv]
   ·simp[hgs,hbr,hbc,hbp,hba]
   rintro⟨i,n,g,b⟩ ⟨hi,hn,P⟩
   simp only at hi hn
   subst hn
   have hP:=P.hp
   simp only at hP
   refine aB ?_
   simp[hP]
   refine⟨fun h=> ?_,fun h=> ?_⟩
   ·simp[ew]
    refine aG (fun p:Nat×PS=> [(4,.loc gr 5 0 0),(5,.sl (iv (who s))),(6,.sl (iv (sgn s))),(7,.int .i64 s.ms.length),(8,.sl (iv (eC s))),(9,.loc gp 5 0 0),(10,.int .i64 i),(42,.sl (iv (who s))),(43,.int .i64 (nC s)),(44,.int .i64 p.1)]) (fun p=>p.2.b) (fun p=>p.1≤nC s∧p.2.n=i*nC s+p.1∧PI bl s l gr gp gc p.2) (fun p=>nC s - p.1) 69 (0,⟨i*nC s,g,b⟩) ⟨Nat.zero_le _,rfl,P⟩ ⟨rfl,by simp,sub_eq rfl⟩ ?_
    rintro⟨c,n,g,b⟩ ⟨hc,hn,P⟩
    simp only at hc hn
    subst hn
    obtain⟨hr,hp,hcc,ha,npr,npp,npc,hf,dM,bP⟩:=P
    simp only at hr hp hcc ha npr npp npc hf dM bP
    refine aB ?_
    simp
    refine⟨fun hcl=> ?_,fun hcl=> ?_⟩
    ·have qw:=Ej s c hcl
     have qs:=Fg s c hcl
     obtain⟨⟨k0,k1⟩,k2⟩:=pP s c hcl
     simp[-dN,qw]
     obtain⟨⟨k,sg⟩,hk⟩: ∃k,jA s c=k:=⟨_,rfl⟩
     rw[hk] at qw qs k0 k1 k2 ⊢
     simp only at qw qs k0 k1 k2 ⊢
     have m1:i*s.ms.length≤12*8:=Nat.mul_le_mul (by omega) (by omega)
     have mi:((i*s.ms.length:Nat):Int)=(i:Int)*s.ms.length:=by simp
     have w1:IntKind.i64.wrap ((i:Int)*s.ms.length)=(i:Int)*s.ms.length:=i64_in (by omega) (by omega)
     have w2:IntKind.i64.wrap ((i:Int)*s.ms.length+k)=(i:Int)*s.ms.length+k:=i64_in (by omega) (by omega)
     have e1:((i:Int)*s.ms.length+k).toNat=i*s.ms.length+k.toNat:=by omega
     have ei:i*s.ms.length+k.toNat<(eC s).length:=by
      rw[nW]
      have:(i+1)*s.ms.length≤nR s*s.ms.length:=Nat.mul_le_mul_right _ h
      rw[Nat.add_mul] at this;omega
     have qr:=rV ei
     rw[←e1] at qr
     have bd:=qP hs (i*s.ms.length+k.toNat)
     rw[←e1] at bd
     have en:ent s i c=sg*lat (eC s) ((i:Int)*s.ms.length+k).toNat:=by unfold ent;rw[hk,e1]
     have w3:IntKind.i64.wrap (sg*lat (eC s) ((i:Int)*s.ms.length+k).toNat)=ent s i c:=by
      rw[en];rcases k2 with rfl | rfl<;>exact i64_in (by omega) (by omega)
     have p1:0≤(i:Int)*s.ms.length+k:=by omega
     have hK:Sub (upd bl gp (some ⟨5,[[.int .i64 (nR s),.int .i64 (nC s),.lsl g 1 0 (i*nC s+c),.sl (iv (right s l)),.lsl gc 1 0 (nC s)]]⟩)) b:=fun x y hx=>by
      rw[aC] at hx
      split at hx
      ·rename_i e;rw[e,hp];exact hx
      ·exact dM x y hx
     have mc:(i+1)*nC s≤12*16:=Nat.mul_le_mul (by omega) (by omega)
     rw[Nat.add_mul] at mc
     have tka:(iv (aTo s (i*nC s+c))).take (i*nC s+c)=iv (aTo s (i*nC s+c)):=List.take_of_length_le (by simp)
     refine sZ aM _ hK [0,1,2,3,4,5,6,7,8,9,10,11,12,13,14] 4 18 (by kernel_rfl) ?_
     simp[-dN,w1,w2,w3,qs,qr,p1]
     refine Dz 15 ?_
     simp
     intro g2 hg2 hb2
     have n2g:g2≠g:=fun e=>by rw[e,ha] at hb2;cases hb2
     have n2p:g2≠gp:=fun e=>by rw[e,hp] at hb2;cases hb2
     have hS: ∀(u:Int) (B:Int→Option Blk),u≠gp→bl u=none→(∀x y,x≠g→x≠g2→x≠u→b x=some y→B x=some y)→Sub (upd bl gp (some ⟨5,[[.int .i64 (nR s),.int .i64 (nC s),.lsl g 1 0 (i*nC s+c),.sl (iv (right s l)),.lsl gc 1 0 (nC s)]]⟩)) B:=by
      intro u B hu hbu hB x y hx
      refine hB x y ?_ ?_ ?_ (hK x y hx)
      ·intro e;rw[e,aC,if_neg npp,hf] at hx;cases hx
      ·intro e;have:=hK x y hx;rw[e,hb2] at this;cases this
      ·intro e;rw[e,aC,if_neg hu,hbu] at hx;cases hx
     refine⟨hS g _ npp hf (fun x y h1 h2 h3 hx=>by simp[h2,hx]),Dz 16 ?_⟩
     simp[n2g,Ne.symm n2g,ha,tka,appV,elsV,Int.not_lt.2 hg2]
     refine⟨by omega,fun g3 hg3 hb3=> ?_⟩
     have n3p:g3≠gp:=by grind
     have n3r:g3≠gr:=by grind
     have n3c:g3≠gc:=by grind
     have f3:bl g3=none:=by
      by_cases e:g3=g
      ·rw[e];exact hf
      ·exact bZ dM (hb3 e).2
     have n2r:g2≠gr:=fun e=>by rw[e,hr] at hb2;cases hb2
     have n2c:g2≠gc:=fun e=>by rw[e,hcc] at hb2;cases hb2
     refine⟨hS g3 _ n3p f3 (fun x y h1 h2 h3 hx=>by simp[h1,h2,h3,hx]),Dz 17 ?_⟩
     simp
     refine⟨hS g3 _ n3p f3 (fun x y h1 h2 h3 hx=>by simp[h1,h2,h3,hx]),cU (i:=18) (by kernel_rfl) rfl rfl rfl ?_⟩
     simp[n3p,Ne.symm n3p,n2p,Ne.symm n2p,npp,Ne.symm npp,hp]
     refine Dy ?_
     have w4:IntKind.i64.wrap ((c:Int)+1)=c+1:=i64_in (by omega) (by omega)
     simp[w4,aA]
     refine⟨c+1,⟨i*nC s+c+1,g3,_⟩,⟨by omega,rfl,⟨?_,?_,?_,?_,n3r,n3p,n3c,f3,?_,fun e=>by simp only at e;omega⟩⟩,by omega,rfl,by simp,sub_eq rfl⟩
     ·simp[n3r,Ne.symm n3r,n2r,Ne.symm n2r,npr,Ne.symm npr,hpr,Ne.symm hpr,hr]
     ·simp
     ·simp[n3c,Ne.symm n3c,n2c,Ne.symm n2c,npc,Ne.symm npc,hpc,Ne.symm hpc,hcc]
     ·simp[n3p,A6 s i c hcl,aV,iW]
     ·intro x y hx
      have h1:x≠g:=fun e=>by rw[e,hf] at hx;cases hx
      have h2:x≠g2:=fun e=>by have:=dM x y hx;rw[e,hb2] at this;cases this
      have h3:x≠g3:=fun e=>by rw[e,f3] at hx;cases hx
      have h4:x≠gp:=fun e=>by rw[e,hbp] at hx;cases hx
      simp[h1,h2,h3,h4,dM x y hx]
    ·have:c=nC s:=by omega
     subst this
     have w5:IntKind.i64.wrap ((i:Int)+1)=i+1:=i64_in (by omega) (by omega)
     simp[w5,aA]
     refine⟨i+1,⟨i*nC s+nC s,g,b⟩,⟨by omega,by rw[Nat.add_mul];simp,⟨hr,hp,hcc,ha,npr,npp,npc,hf,dM,bP⟩⟩,by omega,rfl,by simp,sub_eq rfl⟩
   ·have:i=nR s:=by omega
    subst this
    have hR:=P.hr
    simp only at hR
    simp[hR]
    obtain⟨hr,hp,hcc,ha,npr,npp,npc,hf,dM,bP⟩:=P
    simp only at hr hp hcc ha npr npp npc hf dM bP
    generalize hB:upd b gr (some ⟨5,[[.int .i64 (nR s),.int .i64 (nC s),.lsl g 1 0 (nR s*nC s),.sl (iv (right s l)),.lsl gc 1 0 (nC s)]]⟩)=B
    have oa:OwnD (dropB B bl) (fl 1 (iv (aTo s (nR s*nC s)))) (.lsl g 1 0 (nR s*nC s)) [g]:=dH.2 (.inr ⟨g,by simp,rfl,by unfold dropB;rw[hf,←hB];simp[npr,ha],bP⟩)
    have oc:OwnD (dropB B bl) (fl 1 (iv (List.replicate (nC s) 0))) (.lsl gc 1 0 (nC s)) [gc]:=dH.2 (.inr ⟨gc,by simp,rfl,by unfold dropB;rw[hbc,←hB];simp[hcr,hcc],by omega⟩)
    refine aJ [.agg [.int .i64 (nR s),.int .i64 (nC s),.lsl g 1 0 (nR s*nC s),.sl (iv (right s l)),.lsl gc 1 0 (nC s)]] 2 (by simp[←hB]) ?_ ?_
    ·show frz (dropB B bl) 2 (.agg [_,_,_,_,_])=_
     rw[mF,List.mapM_cons,lZ rfl,List.mapM_cons,lZ rfl,List.mapM_cons,qG oa 0,List.mapM_cons,lZ (by simp[V.cl]),List.mapM_cons,qG oc 0]
     simp[Pg.v,dQ]
    ·rw[←hB];simp[hbr,dM]
  ·simp
   intro gp hgp hpc hpr hps hbp
   refine⟨by simp[hcs,hcr,hbc,hpc,hpr,hps,hbp],Dz 12 ?_⟩
   simp
   refine⟨by simp[hcs,hcr,hbc,hpc,hpr,hps,hbp],Dz 14 ?_⟩
   simp
   refine⟨by simp[hcs,hcr,hbc,hpc,hpr,hps,hbp],Dy ?_⟩
   simp[Str.c]
   refine cQ (g:=gp) 0 2 1 (s:=5) (els:= [[.int .i64 (nR s),.int .i64 (nC s),.nils,.sl (iv (right s l)),.lsl gc 1 0 (nC s)]]) (by simp) rfl rfl fun ga hga zN=> ?_
   have Sx:bl ga=none∧ga≠gr∧ga≠gc:=by simp[zN] at hga;grind
   obtain⟨hba,har,hac⟩:=Sx
   clear hga
   refine aG (fun p:Nat×PS=> [(4,.loc gr 5 0 0),(5,.sl (iv (who s))),(6,.sl (iv (sgn s))),(7,.int .i64 s.ms.length),(8,.sl (iv (eC s))),(9,.loc gp 5 0 0),(10,.int .i64 p.1)]) (fun p=>p.2.b) (fun p=>p.1≤nR s∧p.2.n=p.1*nC s∧PI bl s l gr gp gc p.2) (fun p=>nR s - p.1) 69 (0,⟨0,ga,_⟩) ⟨Nat.zero_le _,by simp,⟨?_,?_,?_,?_,har,zN,hac,hba,?_,fun _=>rfl⟩⟩ ⟨rfl,by simp,sub_eq rfl⟩ ?_
   ·simp[Ne.symm har,hpr,Ne.symm hpr,hcr,Ne.symm hcr]
   ·simp[Ne.symm zN]
   ·simp[Ne.symm hac,hpc,Ne.symm hpc,iv]
   ·simp[aTo,iv]
   ·simp[hgs,hbr,hbc,hbp,hba]
   rintro⟨i,n,g,b⟩ ⟨hi,hn,P⟩
   simp only at hi hn
   subst hn
   have hP:=P.hp
   simp only at hP
   refine aB ?_
   simp[hP]
   refine⟨fun h=> ?_,fun h=> ?_⟩
   ·simp[ew]
    refine aG (fun p:Nat×PS=> [(4,.loc gr 5 0 0),(5,.sl (iv (who s))),(6,.sl (iv (sgn s))),(7,.int .i64 s.ms.length),(8,.sl (iv (eC s))),(9,.loc gp 5 0 0),(10,.int .i64 i),(42,.sl (iv (who s))),(43,.int .i64 (nC s)),(44,.int .i64 p.1)]) (fun p=>p.2.b) (fun p=>p.1≤nC s∧p.2.n=i*nC s+p.1∧PI bl s l gr gp gc p.2) (fun p=>nC s - p.1) 69 (0,⟨i*nC s,g,b⟩) ⟨Nat.zero_le _,rfl,P⟩ ⟨rfl,by simp,sub_eq rfl⟩ ?_
    rintro⟨c,n,g,b⟩ ⟨hc,hn,P⟩
    simp only at hc hn
    subst hn
    obtain⟨hr,hp,hcc,ha,npr,npp,npc,hf,dM,bP⟩:=P
    simp only at hr hp hcc ha npr npp npc hf dM bP
    refine aB ?_
    simp
    refine⟨fun hcl=> ?_,fun hcl=> ?_⟩
    ·have qw:=Ej s c hcl
     have qs:=Fg s c hcl
     obtain⟨⟨k0,k1⟩,k2⟩:=pP s c hcl
     simp[-dN,qw]
     obtain⟨⟨k,sg⟩,hk⟩: ∃k,jA s c=k:=⟨_,rfl⟩
     rw[hk] at qw qs k0 k1 k2 ⊢
     simp only at qw qs k0 k1 k2 ⊢
     have m1:i*s.ms.length≤12*8:=Nat.mul_le_mul (by omega) (by omega)
     have mi:((i*s.ms.length:Nat):Int)=(i:Int)*s.ms.length:=by simp
     have w1:IntKind.i64.wrap ((i:Int)*s.ms.length)=(i:Int)*s.ms.length:=i64_in (by omega) (by omega)
     have w2:IntKind.i64.wrap ((i:Int)*s.ms.length+k)=(i:Int)*s.ms.length+k:=i64_in (by omega) (by omega)
     have e1:((i:Int)*s.ms.length+k).toNat=i*s.ms.length+k.toNat:=by omega
     have ei:i*s.ms.length+k.toNat<(eC s).length:=by
      rw[nW]
      have:(i+1)*s.ms.length≤nR s*s.ms.length:=Nat.mul_le_mul_right _ h
      rw[Nat.add_mul] at this;omega
     have qr:=rV ei
     rw[←e1] at qr
     have bd:=qP hs (i*s.ms.length+k.toNat)
     rw[←e1] at bd
     have en:ent s i c=sg*lat (eC s) ((i:Int)*s.ms.length+k).toNat:=by unfold ent;rw[hk,e1]
     have w3:IntKind.i64.wrap (sg*lat (eC s) ((i:Int)*s.ms.length+k).toNat)=ent s i c:=by
      rw[en];rcases k2 with rfl | rfl<;>exact i64_in (by omega) (by omega)
     have p1:0≤(i:Int)*s.ms.length+k:=by omega
     have hK:Sub (upd bl gp (some ⟨5,[[.int .i64 (nR s),.int .i64 (nC s),.lsl g 1 0 (i*nC s+c),.sl (iv (right s l)),.lsl gc 1 0 (nC s)]]⟩)) b:=fun x y hx=>by
      rw[aC] at hx
      split at hx
      ·rename_i e;rw[e,hp];exact hx
      ·exact dM x y hx
     have mc:(i+1)*nC s≤12*16:=Nat.mul_le_mul (by omega) (by omega)
     rw[Nat.add_mul] at mc
     have tka:(iv (aTo s (i*nC s+c))).take (i*nC s+c)=iv (aTo s (i*nC s+c)):=List.take_of_length_le (by simp)
     refine sZ aM _ hK [0,1,2,3,4,5,6,7,8,9,10,11,12,13,14] 4 18 (by kernel_rfl) ?_
     simp[-dN,w1,w2,w3,qs,qr,p1]
     refine Dz 15 ?_
     simp
     intro g2 hg2 hb2
     have n2g:g2≠g:=fun e=>by rw[e,ha] at hb2;cases hb2
     have n2p:g2≠gp:=fun e=>by rw[e,hp] at hb2;cases hb2
     have hS: ∀(u:Int) (B:Int→Option Blk),u≠gp→bl u=none→(∀x y,x≠g→x≠g2→x≠u→b x=some y→B x=some y)→Sub (upd bl gp (some ⟨5,[[.int .i64 (nR s),.int .i64 (nC s),.lsl g 1 0 (i*nC s+c),.sl (iv (right s l)),.lsl gc 1 0 (nC s)]]⟩)) B:=by
      intro u B hu hbu hB x y hx
      refine hB x y ?_ ?_ ?_ (hK x y hx)
      ·intro e;rw[e,aC,if_neg npp,hf] at hx;cases hx
      ·intro e;have:=hK x y hx;rw[e,hb2] at this;cases this
      ·intro e;rw[e,aC,if_neg hu,hbu] at hx;cases hx
     refine⟨hS g _ npp hf (fun x y h1 h2 h3 hx=>by simp[h2,hx]),Dz 16 ?_⟩
     simp[n2g,Ne.symm n2g,ha,tka,appV,elsV,Int.not_lt.2 hg2]
     refine⟨by omega,fun g3 hg3 hb3=> ?_⟩
     have n3p:g3≠gp:=by grind
     have n3r:g3≠gr:=by grind
     have n3c:g3≠gc:=by grind
     have f3:bl g3=none:=by
      by_cases e:g3=g
      ·rw[e];exact hf
      ·exact bZ dM (hb3 e).2
     have n2r:g2≠gr:=fun e=>by rw[e,hr] at hb2;cases hb2
     have n2c:g2≠gc:=fun e=>by rw[e,hcc] at hb2;cases hb2
     refine⟨hS g3 _ n3p f3 (fun x y h1 h2 h3 hx=>by simp[h1,h2,h3,hx]),Dz 17 ?_⟩
     simp
     refine⟨hS g3 _ n3p f3 (fun x y h1 h2 h3 hx=>by simp[h1,h2,h3,hx]),cU (i:=18) (by kernel_rfl) rfl rfl rfl ?_⟩
     simp[n3p,Ne.symm n3p,n2p,Ne.symm n2p,npp,Ne.symm npp,hp]
     refine Dy ?_
     have w4:IntKind.i64.wrap ((c:Int)+1)=c+1:=i64_in (by omega) (by omega)
     simp[w4,aA]
     refine⟨c+1,⟨i*nC s+c+1,g3,_⟩,⟨by omega,rfl,⟨?_,?_,?_,?_,n3r,n3p,n3c,f3,?_,fun e=>by simp only at e;omega⟩⟩,by omega,rfl,by simp,sub_eq rfl⟩
     ·simp[n3r,Ne.symm n3r,n2r,Ne.symm n2r,npr,Ne.symm npr,hpr,Ne.symm hpr,hr]
     ·simp
     ·simp[n3c,Ne.symm n3c,n2c,Ne.symm n2c,npc,Ne.symm npc,hpc,Ne.symm hpc,hcc]
     ·simp[n3p,A6 s i c hcl,aV,iW]
     ·intro x y hx
      have h1:x≠g:=fun e=>by rw[e,hf] at hx;cases hx
      have h2:x≠g2:=fun e=>by have:=dM x y hx;rw[e,hb2] at this;cases this
      have h3:x≠g3:=fun e=>by rw[e,f3] at hx;cases hx
      have h4:x≠gp:=fun e=>by rw[e,hbp] at hx;cases hx
      simp[h1,h2,h3,h4,dM x y hx]
    ·have:c=nC s:=by omega
     subst this
     have w5:IntKind.i64.wrap ((i:Int)+1)=i+1:=i64_in (by omega) (by omega)
     simp[w5,aA]
     refine⟨i+1,⟨i*nC s+nC s,g,b⟩,⟨by omega,by rw[Nat.add_mul];simp,⟨hr,hp,hcc,ha,npr,npp,npc,hf,dM,bP⟩⟩,by omega,rfl,by simp,sub_eq rfl⟩
   ·have:i=nR s:=by omega
    subst this
    have hR:=P.hr
    simp only at hR
    simp[hR]
    obtain⟨hr,hp,hcc,ha,npr,npp,npc,hf,dM,bP⟩:=P
    simp only at hr hp hcc ha npr npp npc hf dM bP
    generalize hB:upd b gr (some ⟨5,[[.int .i64 (nR s),.int .i64 (nC s),.lsl g 1 0 (nR s*nC s),.sl (iv (right s l)),.lsl gc 1 0 (nC s)]]⟩)=B
    have oa:OwnD (dropB B bl) (fl 1 (iv (aTo s (nR s*nC s)))) (.lsl g 1 0 (nR s*nC s)) [g]:=dH.2 (.inr ⟨g,by simp,rfl,by unfold dropB;rw[hf,←hB];simp[npr,ha],bP⟩)
    have oc:OwnD (dropB B bl) (fl 1 (iv (List.replicate (nC s) 0))) (.lsl gc 1 0 (nC s)) [gc]:=dH.2 (.inr ⟨gc,by simp,rfl,by unfold dropB;rw[hbc,←hB];simp[hcr,hcc],by omega⟩)
    refine aJ [.agg [.int .i64 (nR s),.int .i64 (nC s),.lsl g 1 0 (nR s*nC s),.sl (iv (right s l)),.lsl gc 1 0 (nC s)]] 2 (by simp[←hB]) ?_ ?_
    ·show frz (dropB B bl) 2 (.agg [_,_,_,_,_])=_
     rw[mF,List.mapM_cons,lZ rfl,List.mapM_cons,lZ rfl,List.mapM_cons,qG oa 0,List.mapM_cons,lZ (by simp[V.cl]),List.mapM_cons,qG oc 0]
     simp[Pg.v,dQ]
    ·rw[←hB];simp[hbr,dM]
 ·simp
  intro gp hgp hpr hps hbp
  refine⟨by simp[hpr,hps,hbp],Dz 11 ?_⟩
  simp
  refine⟨by omega,by unfold maxLen;omega,fun gc hgc hcp hcr hcs hbc=>⟨by simp[hcs,hcr,hcp,hpr,hps,hbp,hbc],?_⟩⟩
  have hpc: ¬gp=gc:=Ne.symm hcp
  refine Dz 12 ?_
  simp
  refine⟨by simp[hcs,hcr,hbc,hpc,hcp,hpr,hps,hbp],Dz 14 ?_⟩
  simp[hpc,hcp]
  refine⟨by simp[hcs,hcr,hbc,hpc,hcp,hpr,hps,hbp],Dy ?_⟩
  simp[Str.c]
  refine cQ (g:=gp) 0 2 1 (s:=5) (els:= [[.int .i64 (nR s),.int .i64 (nC s),.nils,.sl (iv (right s l)),.lsl gc 1 0 (nC s)]]) (by simp) rfl rfl fun ga hga zN=> ?_
  have Sx:bl ga=none∧ga≠gr∧ga≠gc:=by simp[zN] at hga;grind
  obtain⟨hba,har,hac⟩:=Sx
  clear hga
  refine aG (fun p:Nat×PS=> [(4,.loc gr 5 0 0),(5,.sl (iv (who s))),(6,.sl (iv (sgn s))),(7,.int .i64 s.ms.length),(8,.sl (iv (eC s))),(9,.loc gp 5 0 0),(10,.int .i64 p.1)]) (fun p=>p.2.b) (fun p=>p.1≤nR s∧p.2.n=p.1*nC s∧PI bl s l gr gp gc p.2) (fun p=>nR s - p.1) 69 (0,⟨0,ga,_⟩) ⟨Nat.zero_le _,by simp,⟨?_,?_,?_,?_,har,zN,hac,hba,?_,fun _=>rfl⟩⟩ ⟨rfl,by simp,sub_eq rfl⟩ ?_
  ·simp[Ne.symm har,hpr,Ne.symm hpr,hcr,Ne.symm hcr]
  ·simp[Ne.symm zN]
  ·simp[Ne.symm hac,hpc,Ne.symm hpc,iv]
  ·simp[aTo,iv]
  ·simp[hgs,hbr,hbc,hbp,hba]
  rintro⟨i,n,g,b⟩ ⟨hi,hn,P⟩
  simp only at hi hn
  subst hn
  have hP:=P.hp
  simp only at hP
  refine aB ?_
  simp[hP]
  refine⟨fun h=> ?_,fun h=> ?_⟩
  ·simp[ew]
   refine aG (fun p:Nat×PS=> [(4,.loc gr 5 0 0),(5,.sl (iv (who s))),(6,.sl (iv (sgn s))),(7,.int .i64 s.ms.length),(8,.sl (iv (eC s))),(9,.loc gp 5 0 0),(10,.int .i64 i),(42,.sl (iv (who s))),(43,.int .i64 (nC s)),(44,.int .i64 p.1)]) (fun p=>p.2.b) (fun p=>p.1≤nC s∧p.2.n=i*nC s+p.1∧PI bl s l gr gp gc p.2) (fun p=>nC s - p.1) 69 (0,⟨i*nC s,g,b⟩) ⟨Nat.zero_le _,rfl,P⟩ ⟨rfl,by simp,sub_eq rfl⟩ ?_
   rintro⟨c,n,g,b⟩ ⟨hc,hn,P⟩
   simp only at hc hn
   subst hn
   obtain⟨hr,hp,hcc,ha,npr,npp,npc,hf,dM,bP⟩:=P
   simp only at hr hp hcc ha npr npp npc hf dM bP
   refine aB ?_
   simp
   refine⟨fun hcl=> ?_,fun hcl=> ?_⟩
   ·have qw:=Ej s c hcl
    have qs:=Fg s c hcl
    obtain⟨⟨k0,k1⟩,k2⟩:=pP s c hcl
    simp[-dN,qw]
    obtain⟨⟨k,sg⟩,hk⟩: ∃k,jA s c=k:=⟨_,rfl⟩
    rw[hk] at qw qs k0 k1 k2 ⊢
    simp only at qw qs k0 k1 k2 ⊢
    have m1:i*s.ms.length≤12*8:=Nat.mul_le_mul (by omega) (by omega)
    have mi:((i*s.ms.length:Nat):Int)=(i:Int)*s.ms.length:=by simp
    have w1:IntKind.i64.wrap ((i:Int)*s.ms.length)=(i:Int)*s.ms.length:=i64_in (by omega) (by omega)
    have w2:IntKind.i64.wrap ((i:Int)*s.ms.length+k)=(i:Int)*s.ms.length+k:=i64_in (by omega) (by omega)
    have e1:((i:Int)*s.ms.length+k).toNat=i*s.ms.length+k.toNat:=by omega
    have ei:i*s.ms.length+k.toNat<(eC s).length:=by
     rw[nW]
     have:(i+1)*s.ms.length≤nR s*s.ms.length:=Nat.mul_le_mul_right _ h
     rw[Nat.add_mul] at this;omega
    have qr:=rV ei
    rw[←e1] at qr
    have bd:=qP hs (i*s.ms.length+k.toNat)
    rw[←e1] at bd
    have en:ent s i c=sg*lat (eC s) ((i:Int)*s.ms.length+k).toNat:=by unfold ent;rw[hk,e1]
    have w3:IntKind.i64.wrap (sg*lat (eC s) ((i:Int)*s.ms.length+k).toNat)=ent s i c:=by
     rw[en];rcases k2 with rfl | rfl<;>exact i64_in (by omega) (by omega)
    have p1:0≤(i:Int)*s.ms.length+k:=by omega
    have hK:Sub (upd bl gp (some ⟨5,[[.int .i64 (nR s),.int .i64 (nC s),.lsl g 1 0 (i*nC s+c),.sl (iv (right s l)),.lsl gc 1 0 (nC s)]]⟩)) b:=fun x y hx=>by
     rw[aC] at hx
     split at hx
     ·rename_i e;rw[e,hp];exact hx
     ·exact dM x y hx
    have mc:(i+1)*nC s≤12*16:=Nat.mul_le_mul (by omega) (by omega)
    rw[Nat.add_mul] at mc
    have tka:(iv (aTo s (i*nC s+c))).take (i*nC s+c)=iv (aTo s (i*nC s+c)):=List.take_of_length_le (by simp)
    refine sZ aM _ hK [0,1,2,3,4,5,6,7,8,9,10,11,12,13,14] 4 18 (by kernel_rfl) ?_
    simp[-dN,w1,w2,w3,qs,qr,p1]
    refine Dz 15 ?_
    simp
    intro g2 hg2 hb2
    have n2g:g2≠g:=fun e=>by rw[e,ha] at hb2;cases hb2
    have n2p:g2≠gp:=fun e=>by rw[e,hp] at hb2;cases hb2
    have hS: ∀(u:Int) (B:Int→Option Blk),u≠gp→bl u=none→(∀x y,x≠g→x≠g2→x≠u→b x=some y→B x=some y)→Sub (upd bl gp (some ⟨5,[[.int .i64 (nR s),.int .i64 (nC s),.lsl g 1 0 (i*nC s+c),.sl (iv (right s l)),.lsl gc 1 0 (nC s)]]⟩)) B:=by
     intro u B hu hbu hB x y hx
     refine hB x y ?_ ?_ ?_ (hK x y hx)
     ·intro e;rw[e,aC,if_neg npp,hf] at hx;cases hx
     ·intro e;have:=hK x y hx;rw[e,hb2] at this;cases this
     ·intro e;rw[e,aC,if_neg hu,hbu] at hx;cases hx
    refine⟨hS g _ npp hf (fun x y h1 h2 h3 hx=>by simp[h2,hx]),Dz 16 ?_⟩
    simp[n2g,Ne.symm n2g,ha,tka,appV,elsV,Int.not_lt.2 hg2]
    refine⟨by omega,fun g3 hg3 hb3=> ?_⟩
    have n3p:g3≠gp:=by grind
    have n3r:g3≠gr:=by grind
    have n3c:g3≠gc:=by grind
    have f3:bl g3=none:=by
     by_cases e:g3=g
     ·rw[e];exact hf
     ·exact bZ dM (hb3 e).2
    have n2r:g2≠gr:=fun e=>by rw[e,hr] at hb2;cases hb2
    have n2c:g2≠gc:=fun e=>by rw[e,hcc] at hb2;cases hb2
    refine⟨hS g3 _ n3p f3 (fun x y h1 h2 h3 hx=>by simp[h1,h2,h3,hx]),Dz 17 ?_⟩
    simp
    refine⟨hS g3 _ n3p f3 (fun x y h1 h2 h3 hx=>by simp[h1,h2,h3,hx]),cU (i:=18) (by kernel_rfl) rfl rfl rfl ?_⟩
    simp[n3p,Ne.symm n3p,n2p,Ne.symm n2p,npp,Ne.symm npp,hp]
    refine Dy ?_
    have w4:IntKind.i64.wrap ((c:Int)+1)=c+1:=i64_in (by omega) (by omega)
    simp[w4,aA]
    refine⟨c+1,⟨i*nC s+c+1,g3,_⟩,⟨by omega,rfl,⟨?_,?_,?_,?_,n3r,n3p,n3c,f3,?_,fun e=>by simp only at e;omega⟩⟩,by omega,rfl,by simp,sub_eq rfl⟩
    ·simp[n3r,Ne.symm n3r,n2r,Ne.symm n2r,npr,Ne.symm npr,hpr,Ne.symm hpr,hr]
    ·simp
    ·simp[n3c,Ne.symm n3c,n2c,Ne.symm n2c,npc,Ne.symm npc,hpc,Ne.symm hpc,hcc]
    ·simp[n3p,A6 s i c hcl,aV,iW]
    ·intro x y hx
     have h1:x≠g:=fun e=>by rw[e,hf] at hx;cases hx
     have h2:x≠g2:=fun e=>by have:=dM x y hx;rw[e,hb2] at this;cases this
     have h3:x≠g3:=fun e=>by rw[e,f3] at hx;cases hx
     have h4:x≠gp:=fun e=>by rw[e,hbp] at hx;cases hx
     simp[h1,h2,h3,h4,dM x y hx]
   ·have:c=nC s:=by omega
    subst this
    have w5:IntKind.i64.wrap ((i:Int)+1)=i+1:=i64_in (by omega) (by omega)
    simp[w5,aA]
    refine⟨i+1,⟨i*nC s+nC s,g,b⟩,⟨by omega,by rw[Nat.add_mul];simp,⟨hr,hp,hcc,ha,npr,npp,npc,hf,dM,bP⟩⟩,by omega,rfl,by simp,sub_eq rfl⟩
  ·have:i=nR s:=by omega
   subst this
   have hR:=P.hr
   simp only at hR
   simp[hR]
   obtain⟨hr,hp,hcc,ha,npr,npp,npc,hf,dM,bP⟩:=P
   simp only at hr hp hcc ha npr npp npc hf dM bP
   generalize hB:upd b gr (some ⟨5,[[.int .i64 (nR s),.int .i64 (nC s),.lsl g 1 0 (nR s*nC s),.sl (iv (right s l)),.lsl gc 1 0 (nC s)]]⟩)=B
   have oa:OwnD (dropB B bl) (fl 1 (iv (aTo s (nR s*nC s)))) (.lsl g 1 0 (nR s*nC s)) [g]:=dH.2 (.inr ⟨g,by simp,rfl,by unfold dropB;rw[hf,←hB];simp[npr,ha],bP⟩)
   have oc:OwnD (dropB B bl) (fl 1 (iv (List.replicate (nC s) 0))) (.lsl gc 1 0 (nC s)) [gc]:=dH.2 (.inr ⟨gc,by simp,rfl,by unfold dropB;rw[hbc,←hB];simp[hcr,hcc],by omega⟩)
   refine aJ [.agg [.int .i64 (nR s),.int .i64 (nC s),.lsl g 1 0 (nR s*nC s),.sl (iv (right s l)),.lsl gc 1 0 (nC s)]] 2 (by simp[←hB]) ?_ ?_
   ·show frz (dropB B bl) 2 (.agg [_,_,_,_,_])=_
    rw[mF,List.mapM_cons,lZ rfl,List.mapM_cons,lZ rfl,List.mapM_cons,qG oa 0,List.mapM_cons,lZ (by simp[V.cl]),List.mapM_cons,qG oc 0]
    simp[Pg.v,dQ]
   ·rw[←hB];simp[hbr,dM]
end Go.Proofs.YticmgmemnpcbbaaGreat.Vm
