import Derived.Test.YticmgmemnpcbbaaGreatQCFnExactPretensionOf6

namespace Go.Proofs.YticmgmemnpcbbaaGreat.Vm
open Go Go.Proofs
set_option linter.unusedSimpArgs false
set_option linter.unusedVariables false
def msk (a b:Int):Int:=IntKind.i64.wrap ((BitVec.ofInt 64 a &&& BitVec.ofInt 64 b).toNat)

structure LD where
 k:Nat
 ns:List Int
 i:Int
 h:Int

def aZK (bl:Int→Option Blk) (K:V→(Int→Option Blk)→Prop) (bs:List Int) (g:Int):Prop:=
 ∀(s:Str) (i' h':Int) bl',sOk s=true→3≤s.js.length→aLD bs i'→bl' g=some (cur bs i' h')→(∀x y,x≠g→bl x=some y→bl' x=some y)→K (.agg s.c) bl'
def nmA :ByteArray:= { data:= #[97] }
def nmB :ByteArray:= { data:= #[98] }
def nmC :ByteArray:= { data:= #[99] }
def nmD :ByteArray:= { data:= #[100] }
def js3 (x1 x2 x3 x4 x5 x6:Int):List J:= [⟨nmA, -1 - x1,x2,true⟩,⟨nmB,3+x3,x4,true⟩,⟨nmC,x5 - 1, -1 - x6,false⟩]
def ms2 (x7:Int):List Mb:= [⟨0,2,1⟩,⟨1,2,x7⟩]
def js4 (x1 x2 x3 x4 x5 x6 x8:Int):List J:=js3 x1 x2 x3 x4 x5 x6++ [⟨nmD,x8 - 1, -7,true⟩]
def ms3 (x7 x9:Int):List Mb:=ms2 x7++ [⟨3,2,x9⟩]

theorem aG5 {P:Program} {ops:Array Oper} {blK:Int→Option Blk} {tl:Nat→Bool} {K:St→Prop} {l:Array Bool} {σ:St} (is:List Nat) (fuel:Nat) (hs:Sub blK σ.bl) (hn:(is.all (fun i=>decide (i<ops.size))&& hoistB ops is l && Q3 ops tl is)=true)
  (h:HoistF P (ops.toList.map (·.dst)) blK (is.filterMap fun i=>ops[i]?) (kF P ops blK tl K fuel (iS is l)) σ):kF P ops blK tl K (fuel+is.length) l σ:=by
 simp only[Bool.and_eq_true] at hn
 exact oU fuel is l σ (mJ hn.2) hn.1.2 hs (iE _ is σ (filter_some is hn.1.1) h)
def tj (x1 x2 x3 x4 x5 x6:Int):List J:= [⟨nmA, -2,x1,true⟩,⟨nmB,6,x2,true⟩,⟨nmC,x3, -1 - x4,false⟩,⟨nmD,3+x5, -1 - x6,false⟩]
structure TD where
 n:Nat
 ms:List Mb
 g:Int
 i:Int
 h:Int
def aXF (m:Mb):Prop:=(m.a=0∨m.a=1∨m.a=2∨m.a=3)∧(m.b=1∨m.b=2∨m.b=3)∧(1≤m.kind∧m.kind≤3)∧((m.a≤1∧2≤m.b)∨(m.a=2∧m.b=3)∨(m.a=3∧m.b=1))

end Go.Proofs.YticmgmemnpcbbaaGreat.Vm

namespace Go.Proofs.YticmgmemnpcbbaaGreat.Vm
open Go Go.Proofs
set_option linter.unusedSimpArgs false
set_option linter.unusedVariables false
structure MD where
 us:List Int
 g:Int
 i:Int
 h:Int
 b:Int→Option Blk
def rq6 (us:List Int):List RT:=us.map fun u=>ro (q6 u)

def MX.fit (m:MX):Prop:=Bm m.cells 1048576∧wK m.cells≤100000000
def aY0 (k:Nat) (m:MX):MX:=⟨m.r,m.c,mkQs k m.cells⟩

def aXS (cells:List (List (Option Rat))) (v:List (Option Rat)):List (Option Rat):=cells.map fun row=>aOE row v row.length

def aM1 (s:Str) (l:List Int) (j x y:Int):Bool:=lOk s l && (decide (0≤j)&& decide (j<s.js.length))&& (decide (-200≤x)&& decide (x≤200))&& (decide (-200≤y)&& decide (y≤200))&&
 U3 (lat l (2*j.toNat)+x)&& U3 (lat l (2*j.toNat+1)+y)
def aUZ (l:List Int) (j x:Int):List Int:=l.set (2*j.toNat) (lat l (2*j.toNat)+x)
def aT1 (l:List Int) (j x y:Int):List Int:=(aUZ l j x).set (2*j.toNat+1) (lat l (2*j.toNat+1)+y)
def aXW (s:Str) (l:List Int) (j x y:Int):List Int:=if aM1 s l j x y=true then aT1 l j x y else []
def aX5 (ns:List Int) (b:Bool):D:= .t [fl 1 (iv ns),.c (.bool b)]

end Go.Proofs.YticmgmemnpcbbaaGreat.Vm

namespace Go.Proofs.YticmgmemnpcbbaaGreat.Vm
open Go Go.Proofs
set_option linter.unusedSimpArgs false
set_option linter.unusedVariables false

def szW :List (List Int)→Int→Int
 | [], left => left
 | w :: ws, left => if less left w.length < 0 then -1 else szW ws (less left w.length)
def aZA (ws:List (List Int)) (left:Int):Int:=if less left ws.length<0 then -1 else szW ws (less left ws.length)
def aXH (ws:List (List Int)) (i:Nat):Nat:=(ws.take i).flatten.length
def aXA (bl:Int→Option Blk) (n:Nat) (v:V) (gs:List Int):Prop:= ∃rows els,rows.length=n∧((rows= []∧v= .nils∧gs= [])∨ ∃g gs',v= .lsl g 1 0 n∧gs=g::gs'∧g∉gs'∧bl g=some ⟨1,els⟩∧(g<0→els= [])∧OwnR bl 1 rows els gs')
structure St2 where
 i:Nat
 b:Int→Option Blk
structure aYD (ws : List (List Int)) : Prop where
 n:ws.length≤140737488351232
 w: ∀w,w∈ws→w.length≤140737488351232

def mixC (ws:List (List Int)) (wt:List Int) (i:Nat):Nat→Int
 | 0 => 0
 | c + 1 => mixC ws wt i c + lat wt c * lat (ws.getD c []) i
def aMX (m:Nat) (ws:List (List Int)) (wt:List Int) (c:Nat):List Int:=(List.range m).map fun i=>mixC ws wt i c
def cOk (s:Str) (ws:List (List Int)) (wt:List Int) (c:Nat):Bool:=Q6 s.js (ws.getD c [])&& (decide (0≤lat wt c)&& decide (lat wt c≤100))
def aNM (s:Str) (ws:List (List Int)) (wt:List Int):Bool:=decide (ws.length=wt.length)&& decide (ws.length≤10)&& sOk s && decide (∀c,c<ws.length→cOk s ws wt c=true)&& Q6 s.js (aMX (2*s.js.length) ws wt ws.length)
def aZD (s:Str) (ws:List (List Int)) (wt:List Int):List Int:=if aNM s ws wt=true then aMX (2*s.js.length) ws wt ws.length else []

end Go.Proofs.YticmgmemnpcbbaaGreat.Vm

namespace Go.Proofs.YticmgmemnpcbbaaGreat.Vm
open Go Go.Proofs
set_option linter.unusedSimpArgs false
set_option linter.unusedVariables false

def aWH (P:Program) (ops:Array Oper) (blK:Int→Option Blk) (last:List Nat) (K:St→Prop):List (List Nat×Nat)→St→Prop
 | [] => HoistF P (ops.toList.map (·.dst)) blK (last.filterMap fun i => ops[i]?) K
 | (is, i) :: r => HoistF P (ops.toList.map (·.dst)) blK (is.filterMap fun i => ops[i]?) (HStep P ops blK i (aWH P ops blK last K r))
def hIdx (last:List Nat):List (List Nat×Nat)→List Nat
 | [] => last
 | (is, i) :: r => is ++ i :: hIdx last r

def aYU (s:Str) (us:List Int):List Int:=(dF s).map fun w=>dotTo w us s.ms.length

def dMf (m:MX):List D:= [.c (.int .i64 m.r),.c (.int .i64 m.c),fl 3 (rv m.cells)]

structure MOk (m : MX) (r c : Nat) : Prop where
 hr:m.r=r
 hc:m.c=c
 r24:r≤24
 c24:c≤24
 len:m.cells.length=r*c
 ok:lO m.cells=true
 fq:Bm m.cells 1048576
def trC (cells:List RT) (r c k:Nat) (i:Nat):List RT:=(List.range i).map fun i=>cells.getD (i*c+k) rz
def aWA (cells:List RT) (r c k i:Nat):List RT:=((List.range k).flatMap fun k=>trC cells r c k r)++trC cells r c k i
def trM (m:MX) (r c:Nat):MX:=⟨c,r,aWA m.cells r c c 0⟩

abbrev MF :=Nat→Nat→Option Rat
def aYI (M:MF) (i j:Nat) (v:Option Rat):MF:=fun a b=>if a=i∧b=j then v else M a b
def aNR (r c:Nat) (M:MF):List RT:=(List.range (r*c)).map fun t=>ro (M (t / c) (t % c))
def Ci (M:MF) (i n:Nat):MF:=fun a b=>if a=i then M n b else if a=n then M i b else M a b
def aVK (M:MF) (n:Nat) (p:Option Rat):MF:=fun a b=>if a=n then op2 (· / ·) (M a b) p else M a b
def aP2 (M:MF) (n k:Nat):MF:=fun a b=>if a=n∨nm (M a k)=0 then M a b else op2 (· - ·) (M a b) (op2 (· * ·) (M a k) (M n b))
def aAA (M:MF) (n k i:Nat):MF:=aP2 (aVK (Ci M i n) n (Ci M i n n k)) n k
def Hm (M:MF) (r k:Nat) (n:Nat):Nat:=if n<r then if nm (M n k)=0 then Hm M r k (n+1) else n else r
termination_by r - n
def okM (r c:Nat) (M:MF):Bool:=(List.range r).all fun i=>(List.range c).all fun j=>(M i j).isSome
structure RS where
 M:MF
 P:List Nat
def Wp (r c k:Nat) (s:RS):Option RS:=
 if s.P.length<r then
  if Hm s.M r k s.P.length=r then some s
  else if okM r c (aAA s.M s.P.length k (Hm s.M r k s.P.length))=true then some ⟨aAA s.M s.P.length k (Hm s.M r k s.P.length),s.P++ [k]⟩ else none
 else some s
def redTo (r c:Nat) (M:MF):Nat→Option RS
 | 0 => some ⟨M, []⟩
 | k + 1 => (redTo r c M k).bind (Wp r c k)
structure RI (r c k : Nat) (s : RS) : Prop where
 le:s.P.length≤r
 ok:okM r c s.M=true
 fit: ∀i j,okQ (s.M i j)
 zero: ∀i j,s.P.length≤i→i<r→j<k→j<c→s.M i j=some 0
 piv: ∀n (h:n<s.P.length),s.P[n]<k
 inc: ∀m n (hm:m<n) (hn:n<s.P.length),s.P[m]<s.P[n]
def Zs (r c n k:Nat) (M:MF):Prop:= ∀i j,n≤i→i<r→j<k→j<c→M i j=some 0
def aU2 (M:MF) (n k:Nat) (p:Option Rat):MF:=fun a b=>if a=n∧k≤b then op2 (· / ·) (M a b) p else M a b
def aE9 (M:MF) (n k:Nat):MF:=fun a b=>if a=n∨nm (M a k)=0∨b<k∨nm (M n b)=0 then M a b else op2 (· - ·) (M a b) (op2 (· * ·) (M a k) (M n b))
def aWY (M:MF) (n k i:Nat):MF:=aE9 (aU2 (Ci M i n) n k (Ci M i n n k)) n k

def aZJ (M:MF) (n k i:Nat):MF:=fun a b=>if a<i then aE9 M n k a b else M a b
def aYQ (M:MF) (n k i j:Nat):MF:=fun a b=>if a<i∨a=i∧b<j then aE9 M n k a b else M a b

def pz (P:List Nat):List Int:=P.map fun(m:Nat)=>(m:Int)
def aX1 (M:MF) (i n j:Nat):MF:=fun a b=>if b<j then Ci M i n a b else M a b
def aX7 (M:MF) (n k j:Nat) (p:Option Rat):MF:=fun a b=>if a=n∧k≤b∧b<j then op2 (· / ·) (M a b) p else M a b
inductive Rd (r c : Nat) (M : MF) : MF → List Nat → Prop
 | good (s : RS) (h : redTo r c M c = some s) (P : List Nat) (e : P = s.P) : Rd r c M s.M P
 | bad (X : MF) (P : List Nat) (h : redTo r c M c = none) (ho : okM r c X = false) : Rd r c M X P
structure LR where
 k:Nat
 s:RS
 gp:Int
 gf:Int
 fs:List RT

def aYE (cells:List RT) (c:Nat):MF:=fun i j=>rd (cells.getD (i*c+j) rz)
def aXY (r c:Nat) (M:MF):V:=match redTo r c M c with
 | some s => .tup [.agg [.int .i64 r, .int .i64 c, .sl (rv (aNR r c s.M))], .sl (iv (pz s.P)), .bool true]
 | none => .tup [.agg [.int .i64 0, .int .i64 0, .sl []], .sl [], .bool false]

def ix :List Nat→Nat→Option Nat
 | [], _ => none
 | p :: ps, j => if p = j then some 0 else (ix ps j).map (· + 1)
def aE3 (M:MF) (P:List Nat) (k j:Nat):Option Rat:=match ix P j with
 | some i => (M i k).map (- ·)
 | none => if j = k then some 1 else some 0
def aNF (M:MF) (P:List Nat) (c k:Nat):List (Option Rat):=(List.range c).map (aE3 M P k)
def aFB (P:List Nat) (n:Nat):List Nat:=(List.range n).filter fun k=>(ix P k).isNone
def Vu (M:MF) (P:List Nat) (c n:Nat):List (List (Option Rat)):=(aFB P n).map (aNF M P c)

def rvv (ls:List (List RT)):List (List V):=ls.map fun w=> [.sl (rv w)]
def aX3 (r c:Nat) (M:MF):List (List RT)×Bool:=match redTo r c M c with
 | some s => ((Vu s.M s.P c c).map bA, true)
 | none => ([], false)
def aXV (x:List (List RT)×Bool):V:= .tup [.sl (rvv x.1),.bool x.2]
structure NG where
 k:Nat
 g:Int
end Go.Proofs.YticmgmemnpcbbaaGreat.Vm

namespace Go.Proofs.YticmgmemnpcbbaaGreat.Vm
open Go Go.RowKit Go.Proofs
set_option linter.unusedSimpArgs false
set_option linter.unusedVariables false
theorem mP {α:Type} {l:Array α} {i j:Nat} {x:α} (d:α) (h:i≠j):(l.setIfInBounds i x).getD j d=l.getD j d:=by simp[Array.getD_eq_getD_getElem?,Array.getElem?_setIfInBounds_ne h]
def pureOp :Op→Bool
 | .move _ | .nilCheck _ | .fieldAddr .. | .indexAddr .. => true
 | _ => false
theorem SV.pure {P:Program} {blK:Int→Option Blk} {o:Oper} {σ:St} {v:V} (hp:pureOp o.op=true) (h:SV P blK o σ v):SV P (fun _=>none) o σ v:=by
 rcases h with ⟨hq,hT⟩| ⟨c,f,p,n,ys,ho,hc,hp2,hro⟩
 ·refine .inl ⟨hq,?_⟩
  have fin: ∀ {v':V},(σ.iU blK).put o.dst v'=(σ.iU blK).put o.dst v→(σ.iU fun _=>none).put o.dst v'=(σ.iU fun _=>none).put o.dst v:=by
   intro v' h
   cases hd:o.dst with
   | none => rfl
   | some d =>
     rw[hd] at h
     have h2:upd σ.sl d v'=upd σ.sl d v:=congrArg St.sl h
     show({ n:=σ.n,sl:=upd σ.sl d v',bl:=fun _=>none } :St)= { n:=σ.n,sl:=upd σ.sl d v,bl:=fun _=>none }
     rw[h2]
  unfold Vm.T at hT ⊢
  cases ho:o.op<;>rw[ho] at hT hp<;>simp only[gU] at hT ⊢ <;>try (simp[pureOp] at hp;done)
  case move x=>exact fin hT
  case nilCheck x=>obtain⟨u,h1,h2⟩:=hT;exact⟨u,h1,fin h2⟩
  case fieldAddr=>obtain⟨u,h1,h2⟩:=hT;exact⟨u,h1,fin h2⟩
  case indexAddr=>obtain⟨u,h1,h2⟩:=hT;exact⟨u,h1,fin h2⟩
 ·rw[ho] at hp;simp[pureOp] at hp
theorem DY.pure {P:Program} {ops:Array Oper} {blK:Int→Option Blk} {o:Oper} {σ:St} {v:V} (hp:pureOp o.op=true) (h:DY P ops blK o σ v):DY P ops (fun _=>none) o σ v:=by
 unfold DY at h ⊢
 split
 ·rename_i hg;simp only[hg] at h;exact h.pure hp
 ·rename_i j b hg
  simp only[hg] at h
  split
  ·rename_i d hd
   simp only[hd] at h
   rcases jC h with ⟨q,hq,h1,h2⟩| ⟨hq,h1⟩
   ·rw[hq];exact⟨fun hh=>(h1 hh).pure hp,h2⟩
   ·rw[hq];exact h1
  ·rename_i hd;simp only[hd] at h
section
variable {P : Program} {ops : Array Oper}
theorem Ls {blK:Int→Option Blk} {tl:Nat→Bool} {K:St→Prop} {i:Nat} {oi:Oper} {v:V} (hi:ops[i]? =some oi) (hti:tl i=false): ∀(fuel:Nat) (l:Array Bool) (σ:St),
  (∀j oj,ops[j]? =some oj→j≠i→l.getD j true=false→(∀e∈oj.after,Region.binds .any e=true→e.on≠i)→oi.apart ops oj=true)→(late tl l i=false→Sub blK σ.bl)→
  i∈Region.ready .any ops l→DY P ops (fun _=>none) oi σ v→DL P ops blK tl K fuel (l.setIfInBounds i true) (σ.put oi.dst v)→DL P ops blK tl K (fuel+1) l σ:=by
 have hbl: ∀(σ:St),(σ.put oi.dst v).bl=σ.bl:=fun σ=>by cases oi.dst<;>rfl
 have R2: ∀(σ:St),Sub (fun _=>none) σ.bl:=fun σ g b h=>by cases h
 intro fuel
 induction fuel with
 | zero =>
   intro l σ _ hS hr hy H
   refine⟨fun h=>(by rw[h] at hr;cases hr),fun j hj=> ?_⟩
   by_cases hji:j=i
   ·subst hji;exact hy.step hi (R2 σ) ⟨fun h=>by rw[hbl];exact hS h,H⟩
   ·have:=ready_mono hj hji
    rw[H.1] at this
    cases this
 | succ fuel ih =>
   intro l σ xY hS hr hy H
   refine⟨fun h=>(by rw[h] at hr;cases hr),fun j hj=> ?_⟩
   by_cases hji:j=i
   ·subst hji;exact hy.step hi (R2 σ) ⟨fun h=>by rw[hbl];exact hS h,H⟩
   ·have h1:=H.2 j (ready_mono hj hji)
    obtain⟨T5,oj,hoj,bH⟩:=mem_ready.1 hj
    have Gj: ∀e∈oj.after,Region.binds .any e=true→e.on≠i:=fun e he hb heq=>by
     have h1:=bH e he hb
     have h0:=(mem_ready.1 hr).1
     rw[heq] at h1
     rcases Nat.lt_or_ge i l.size with h' | h'
     ·simp[h'] at h0 h1;rw[h0] at h1;cases h1
     ·simp[Array.getElem?_eq_none h'] at h1
    have h2:=DY.put hoj (xY j oj hoj hji T5 Gj) hy h1
    have F5: ∀k ok,ops[k]? =some ok→k≠i→(l.setIfInBounds j true).getD k true=false→
      (∀e∈ok.after,Region.binds .any e=true→e.on≠i)→oi.apart ops ok=true:=fun k ok hk hki hun hno=>by
     refine xY k ok hk hki ?_ hno
     by_cases hjk:j=k
     ·subst hjk;exact T5
     ·rw[mP true hjk] at hun;exact hun
    refine T8 h2 fun σ' ⟨h3,h4,h5⟩=> ?_
    have Wh:(σ'.put oi.dst v).bl=σ'.bl:=hbl σ'
    have hS':late tl (l.setIfInBounds j true) i=false→Sub blK σ'.bl:=fun hl=>by
     rw[←Wh]
     refine h4 ?_
     unfold late at hl ⊢
     rw[Bool.or_eq_false_iff,List.any_eq_false] at hl ⊢
     have hjs:j<l.size:=by
      rcases Nat.lt_or_ge j l.size with h' | h'
      ·exact h'
      ·simp[Array.getD_eq_getD_getElem?,Array.getElem?_eq_none h'] at T5
     have htj:tl j=false:=by
      have:=hl.2 j (by simp[hjs])
      rw[Array.getD_eq_getD_getElem?,Array.getElem?_setIfInBounds_self_of_lt hjs] at this
      simpa using this
     refine⟨htj,fun k hk hh=> ?_⟩
     simp only[Bool.and_eq_true] at hh
     have hkj:k≠j:=fun e=>by rw[e,htj] at hh;cases hh.1
     have hki:k≠i:=fun e=>by rw[e,hti] at hh;cases hh.1
     refine hl.2 k (by simpa using hk) ?_
     rw[mP false (Ne.symm hki)] at hh
     rw[mP false (Ne.symm hkj),hh.1,hh.2];rfl
    refine⟨fun h=>hS' ?_,ih (l.setIfInBounds j true) σ' F5 hS' (ready_mono hr (Ne.symm hji)) h3 ?_⟩
    ·unfold late at h ⊢
     rw[Bool.or_eq_false_iff,List.any_eq_false] at h ⊢
     refine⟨hti,fun k hk hh=> ?_⟩
     simp only[Bool.and_eq_true] at hh
     by_cases hkj:k=j
     ·subst hkj;rw[h.1] at hh;cases hh.1
     ·rw[mP false (Ne.symm hkj)] at hh
      exact h.2 k (by simpa using hk) (by rw[hh.1,hh.2];rfl)
    ·rw[Array.setIfInBounds_comm _ _ hji]
     exact h5
theorem P8 {blK:Int→Option Blk} {tl:Nat→Bool} {K:St→Prop} (fuel:Nat): ∀(is:List Nat) (l:Array Bool) (σ:St),(∀i,i∈is→tl i=false)→(∀k,tl k=true→l.getD k false=false)→(∀i,i∈is→(∃o,ops[i]? =some o∧pureOp o.op=true)∨ ∀j oj,tl j=true→ops[j]? =some oj→ ∃e∈oj.after,Region.binds .any e=true∧e.on=i)→hoistB ops is l=true→Sub blK σ.bl→
  Hoist P ops blK is (DL P ops blK tl K fuel (iS is l)) σ→DL P ops blK tl K (fuel+is.length) l σ
 | [], l, σ, _, _, _, _, _, h => h
 | i :: is, l, σ, hI, hN, hT, hB, hs, h => by
   simp only[hoistB,Bool.and_eq_true] at hB
   obtain⟨⟨hr,hf⟩,hB'⟩:=hB
   unfold Hoist at h
   split at h
   ·rename_i o ho
    obtain⟨v,hy,hK⟩:=h
    have:fuel+(i::is).length=(fuel+is.length)+1:=by simp;omega
    rw[this]
    have hN': ∀k,tl k=true→(l.setIfInBounds i true).getD k false=false:=fun k hk=>by
     by_cases hki:i=k
     ·subst hki;rw[hI i List.mem_cons_self] at hk;cases hk
     ·rw[mP false hki];exact hN k hk
    have next:=P8 fuel is (l.setIfInBounds i true) (σ.put o.dst v) (fun i hi=>hI i (List.mem_cons_of_mem _ hi)) hN' (fun i hi=>hT i (List.mem_cons_of_mem _ hi)) hB' (by cases o.dst<;>exact hs) hK
    rcases hT i List.mem_cons_self with ⟨o',ho',hp⟩| hT'
    ·rw[ho] at ho';cases ho'
     exact Ls ho (hI i List.mem_cons_self) _ _ _ (Region.free_spec ho hf) (fun _=>hs) (by simpa using hr) (hy.pure hp) next
    ·exact Bb ho (hI i List.mem_cons_self) hT' _ _ _ (Region.free_spec ho hf) hN (by simpa using hr) hs hy next
   ·exact h.elim
def tailP (ops:Array Oper) (tl:Nat→Bool) (is:List Nat):Bool:=is.all fun i=>(match ops[i]? with | some o=>pureOp o.op | none=>false)|| Q3 ops tl [i]
theorem dK {id:Nat} {K:Ex→St→Prop} {σ:St} (hm:P.follows .mixedOrders=true) (blK:Int→Option Blk) (hs:Sub blK σ.bl) (is:List Nat) (fuel n:Nat) (hn:(ops.size==fuel+is.length && is.all (fun i=>decide (i<ops.size))&& hoistB ops is (Array.replicate ops.size false)&& tailP ops (fun j=>decide (n≤j)) is && is.all (fun i=>decide (i<n)))=true)
  (h:HoistF P (ops.toList.map (·.dst)) blK (is.filterMap fun i=>ops[i]?) (DL P ops blK (fun j=>decide (n≤j)) (K .normal) fuel (iS is (Array.replicate ops.size false))) σ):AW P (.region id ops true) K σ:=by
 simp only[Bool.and_eq_true,beq_iff_eq] at hn
 refine Az hm blK (tl:=fun j=>decide (n≤j)) ?_
 have:=P8 (P:=P) (ops:=ops) (blK:=blK) (tl:=fun j=>decide (n≤j)) (K:=K .normal) fuel is (Array.replicate ops.size false) σ
  (fun i hi=>by have:=List.all_eq_true.1 hn.2 i hi;simp at this ⊢;exact this) (fun k _=>by
    rw[Array.getD_eq_getD_getElem?,Array.getElem?_replicate];split<;>rfl) (fun i hi=>by
    have h5:=List.all_eq_true.1 hn.1.2 i hi
    rw[Bool.or_eq_true] at h5
    rcases h5 with h5 | h5
    ·refine .inl ?_
     split at h5
     ·rename_i o ho;exact⟨o,ho,h5⟩
     ·cases h5
    ·exact .inr (mJ h5 i (by simp))) hn.1.1.2 hs (iE _ is σ (filter_some is hn.1.1.1.2) h)
 rw[←hn.1.1.1.1] at this
 exact this
end

theorem A5 {P:Program} {c:Code} {K:Ex→St→Prop} {σ:St} {g:Int} {s:Nat} {els:List (List V)} {e:List V} {v:V} {xs:List Int} {gs:List Int} (k j:Nat) (hb:σ.bl g=some ⟨s,els⟩) (he:els[k]? =some e) (hj:e[j]? =some v) (o:OwnD σ.bl (fl 1 (iv xs)) v gs) (hg:g∉gs)
  (h: ∀(g':Int) (b':Int→Option Blk),b' g=some ⟨s,els.set k (e.set j (.lsl g' 1 0 xs.length))⟩→b' g'=some ⟨1,iv xs⟩→g'≠g→(g'<0→xs= [])→(g'∈gs∨σ.bl g'=none)→(∀x,x≠g→x≠g'→b' x=σ.bl x)→AW P c K ⟨σ.n,σ.sl,b'⟩):AW P c K σ:=by
 rcases dP.1 o with ⟨rfl,rfl,rfl⟩| ⟨g',rfl,rfl,h1,h2⟩
 ·refine dD (g:=g) (s:=s) (els:=els) k j 1 hb he hj fun g' hn hne=> ?_
  refine h g' _ (by rw[aG _ _ _ _ (Ne.symm hne),aV];rfl) (by rw[aV];rfl) hne (fun _=>rfl) (.inr hn) fun x x1 x2=>by rw[aG _ _ _ _ x2,aG _ _ _ _ x1]
 ·have hne:g'≠g:=fun e=>hg (by rw[e];exact List.mem_singleton.2 rfl)
  have e1:e.set j (.lsl g' 1 0 xs.length)=e:=by
   obtain⟨hl,hj2⟩:=List.getElem?_eq_some_iff.1 hj
   rw[←hj2];exact List.set_getElem_self hl
  have e2:els.set k e=els:=by
   obtain⟨hl,he2⟩:=List.getElem?_eq_some_iff.1 he
   rw[←he2];exact List.set_getElem_self hl
  exact h g' σ.bl (by rw[e1,e2];exact hb) h1 hne h2 (.inl (List.mem_singleton.2 rfl)) fun _ _ _=>rfl
structure PJ (bl : Int → Option Blk) (s : Str) (l : List Int) (gp gB gc : Int) (p : PS) : Prop where
 hp:p.b gp=some ⟨5,[[.int .i64 (nR s),.int .i64 (nC s),.lsl p.g 1 0 p.n,.lsl gB 1 0 (nR s),.lsl gc 1 0 (nC s)]]⟩
 hc:p.b gc=some ⟨1,iv (List.replicate (nC s) 0)⟩
 hB:p.b gB=some ⟨1,iv (right s l)⟩
 ha:p.b p.g=some ⟨1,iv (aTo s p.n)⟩
 pp:p.g≠gp
 pc:p.g≠gc
 pB:p.g≠gB
 f:bl p.g=none
 sub:Sub bl p.b
 neg:p.g<0→aTo s p.n= []
theorem eR {bl:Int→Option Blk} {xs:List Int} {v:V} {gs:List Int} (o:OwnD bl (fl 1 (iv xs)) v gs):v.cells= [v]∧v.one=true:=by
 rcases dP.1 o with ⟨_,rfl,_⟩| ⟨g,rfl,_⟩<;>exact⟨rfl,rfl⟩
structure R4 where
 v:V
 gs:List Int
 gc:Int
 gp:Int
 b:Int→Option Blk
set_option maxHeartbeats 2000000 in
theorem K0 (s:Str) (l:List Int) (hL:LOk s l):NW Tryz.prog 117 [.agg s.c,.sl (iv l)] (dPg (dA s l)):=by
 have hs:=hL.sok
 have h6:=hs.nj
 have h8:=hs.nm
 have hfr:=jK s.js s.js.length
 change(aQ s.js).length≤s.js.length at hfr
 have hcn:nC s≤2*s.ms.length:=iI s.ms s.ms.length
 have hrn:nR s≤12:=by unfold nR;omega
 have ew:(who s).length=nC s:=by simp[who,nC]
 have w0:IntKind.i64.wrap (2*((aQ s.js).length:Int))=(nR s:Int):=by rw[i64_in (by omega) (by omega)];unfold nR;omega
 refine fU Tryz.func117 rfl rfl (by rw[Tryz.ntmps117];simp) fun bl=> ?_
 rw[Tryz.ntmps117,Tryz.results117]
 refine aE ?_
 simp[Str.c]
 intro g1 hg1 hb1 gr hgr hr1 hbr
 obtain⟨b0,hb0⟩: ∃b0,b0=upd bl gr (some ⟨5,[[.int .i64 0,.int .i64 0,.nils,.nils,.nils]]⟩):=⟨_,rfl⟩
 refine cW 1 2 (.ptr s.c) b0 (by rw[hb0];intro z b hz;simp only[aA] at hz ⊢;grind) (by simp[frz,dropB,hb0,hb1,hr1,Ne.symm hr1,V.cl,Str.c]) ?_
 refine dJ [(1,.sl (iv l)),(2,.ptr s.c),(4,.loc gr 5 0 0)] 69 b0 ⟨rfl,by simp[Str.c],Sub.refl _⟩ ?_
 have b0r:b0 gr=some ⟨5,[[.int .i64 0,.int .i64 0,.nils,.nils,.nils]]⟩:=by rw[hb0];simp
 have s0:Sub bl b0:=fun x y hx=>by rw[hb0,aG _ _ _ _ (fun e=>by rw[e,hbr] at hx;cases hx)];exact hx
 clear hb0 hb1 hg1 hr1
 refine aE ?_
 simp[Str.c]
 refine aD (kQ s (by omega)) ?_
 simp
 refine aE ?_
 simp[Str.c]
 refine aE ?_
 simp[Str.c]
 refine aD (Gd s hs) ?_
 simp
 refine gV (fun a:R4=> [(4,.loc gr 5 0 0),(5,.sl (iv (who s))),(6,.sl (iv (sgn s))),(7,.int .i64 s.ms.length),(8,.sl (iv (iD s))),(9,.loc a.gp 5 0 0)]) (fun a=>a.b) (fun a=>OwnD a.b (fl 1 (iv (right s l))) a.v a.gs∧(∀x,x∈a.gs→b0 x=none)∧b0 a.gc=none∧b0 a.gp=none∧a.gc≠a.gp∧a.gc∉a.gs∧a.gp∉a.gs∧a.b a.gc=some ⟨1,List.replicate (nC s) [.int .i64 0]⟩∧a.b a.gp=some ⟨5,[[.int .i64 (nR s),.int .i64 (nC s),.nils,a.v,.lsl a.gc 1 0 (nC s)]]⟩∧Sub b0 a.b∧0≤a.gc∧0≤a.gp) 69 ?_ ?_
 ·refine dK aL b0 (Sub.refl _) [0,1,2,3,4,5,6,7,9,10] 5 14 (by kernel_rfl) ?_
  simp[Str.c,ew]
  refine aN (tU s (by omega)) ?_
  simp[w0,ew]
  refine uE (i:=8) (j:=11) (m:=13) false false false (by kernel_rfl) rfl rfl (by kernel_rfl) rfl rfl (by kernel_rfl) rfl rfl (by kernel_rfl) ?_ ?_ ?_
  ·simp[ew]
   refine bU (kW s l hL) fun vb gb b1 o f fr=> ?_
   have hgb: ∀x,x∈gb→ ∃y,b1 x=some y:=o.has
   have hv:=eR o
   have f0: ∀x,x∈gb→b0 x=none:=fun x hx=>aR (Sub.refl b0) (f x hx)
   have s8:Sub b0 b1:=fun x y hx=>bI f fr ((Sub.refl b0) x y hx)
   simp
   refine⟨by first | exact s8 | (intro x y hx;have:=s8 x y hx;simp only[aA] at this ⊢;grind),?_⟩
   refine Dw 11 13 false false ?_ ?_
   ·simp[ew,hv]
    refine⟨by omega,by unfold maxLen;omega,fun gc hgc=> ?_⟩
    intros
    have hbc:b1 gc=none:=by first | assumption | (simp only[aA];grind)
    have fc:=aR s8 hbc
    have s11:Sub b0 (upd (b1) gc (some ⟨1,List.replicate (nC s) [.int .i64 0]⟩)):=fun x y hx=>(by rw[aG _ _ _ _ (fun e=>by rw[e,fc] at hx;cases hx)];exact s8 x y hx)
    refine⟨by first | exact s11 | (intro x y hx;have:=s11 x y hx;simp only[aA] at this ⊢;grind),?_⟩
    refine Dw 12 13 false false ?_ ?_
    ·simp[ew,hv]
     refine⟨by first | exact s11 | (intro x y hx;have:=s11 x y hx;simp only[aA] at this ⊢;grind),?_⟩
     refine Dq 13 false ?_
     simp[ew,hv]
     intro gp hgp
     intros
     have hbp:upd (b1) gc (some ⟨1,List.replicate (nC s) [.int .i64 0]⟩) gp=none:=by first | assumption | (simp only[aA];grind)
     have fp:=aR s11 hbp
     have s13:Sub b0 (upd (upd (b1) gc (some ⟨1,List.replicate (nC s) [.int .i64 0]⟩)) gp (some ⟨5,[[.int .i64 0,.int .i64 0,.nils,.nils,.nils]]⟩)):=fun x y hx=>(by rw[aG _ _ _ _ (fun e=>by rw[e,fp] at hx;cases hx)];exact s11 x y hx)
     refine⟨by first | exact s13 | (intro x y hx;have:=s13 x y hx;simp only[aA] at this ⊢;grind),?_⟩
     refine Dq 14 true ?_
     have ncp:gp≠gc:=by grind [aA]
     simp[ew,hv,hbp,ncp,Ne.symm ncp]
     have s14:Sub b0 (upd (upd (upd (b1) gc (some ⟨1,List.replicate (nC s) [.int .i64 0]⟩)) gp (some ⟨5,[[.int .i64 0,.int .i64 0,.nils,.nils,.nils]]⟩)) gp (some ⟨5,[[.int .i64 (nR s),.int .i64 (nC s),.nils,vb,.lsl gc 1 0 (nC s)]]⟩)):=fun x y hx=>(by rw[aG _ _ _ _ (fun e=>by rw[e,fp] at hx;cases hx)];exact s13 x y hx)
     refine Dd ?_
     rw[aH]
     exact⟨⟨vb,gb,gc,gp,upd (upd (upd (b1) gc (some ⟨1,List.replicate (nC s) [.int .i64 0]⟩)) gp (some ⟨5,[[.int .i64 0,.int .i64 0,.nils,.nils,.nils]]⟩)) gp (some ⟨5,[[.int .i64 (nR s),.int .i64 (nC s),.nils,vb,.lsl gc 1 0 (nC s)]]⟩)⟩,⟨by first | exact o | exact o.cZ fun x hx y hy=>(by grind [aA]),f0,fc,fp,Ne.symm ncp,(by grind [aA]),(by grind [aA]),(by grind [aA]),(by grind [aA]),s14,hgc,hgp⟩,rfl,by simp,by first | exact Sub.refl _ | exact sub_eq (by simp)| (intro x y hx;simp only[aA] at hx ⊢;grind)⟩
    ·simp[ew,hv]
     intro gp hgp
     intros
     have hbp:upd (b1) gc (some ⟨1,List.replicate (nC s) [.int .i64 0]⟩) gp=none:=by first | assumption | (simp only[aA];grind)
     have fp:=aR s11 hbp
     have s13:Sub b0 (upd (upd (b1) gc (some ⟨1,List.replicate (nC s) [.int .i64 0]⟩)) gp (some ⟨5,[[.int .i64 0,.int .i64 0,.nils,.nils,.nils]]⟩)):=fun x y hx=>(by rw[aG _ _ _ _ (fun e=>by rw[e,fp] at hx;cases hx)];exact s11 x y hx)
     refine⟨by first | exact s13 | (intro x y hx;have:=s13 x y hx;simp only[aA] at this ⊢;grind),?_⟩
     refine Dq 12 false ?_
     simp[ew,hv]
     refine⟨by first | exact s13 | (intro x y hx;have:=s13 x y hx;simp only[aA] at this ⊢;grind),?_⟩
     refine Dq 14 true ?_
     have ncp:gp≠gc:=by grind [aA]
     simp[ew,hv,hbp,ncp,Ne.symm ncp]
     have s14:Sub b0 (upd (upd (upd (b1) gc (some ⟨1,List.replicate (nC s) [.int .i64 0]⟩)) gp (some ⟨5,[[.int .i64 0,.int .i64 0,.nils,.nils,.nils]]⟩)) gp (some ⟨5,[[.int .i64 (nR s),.int .i64 (nC s),.nils,vb,.lsl gc 1 0 (nC s)]]⟩)):=fun x y hx=>(by rw[aG _ _ _ _ (fun e=>by rw[e,fp] at hx;cases hx)];exact s13 x y hx)
     refine Dd ?_
     rw[aH]
     exact⟨⟨vb,gb,gc,gp,upd (upd (upd (b1) gc (some ⟨1,List.replicate (nC s) [.int .i64 0]⟩)) gp (some ⟨5,[[.int .i64 0,.int .i64 0,.nils,.nils,.nils]]⟩)) gp (some ⟨5,[[.int .i64 (nR s),.int .i64 (nC s),.nils,vb,.lsl gc 1 0 (nC s)]]⟩)⟩,⟨by first | exact o | exact o.cZ fun x hx y hy=>(by grind [aA]),f0,fc,fp,Ne.symm ncp,(by grind [aA]),(by grind [aA]),(by grind [aA]),(by grind [aA]),s14,hgc,hgp⟩,rfl,by simp,by first | exact Sub.refl _ | exact sub_eq (by simp)| (intro x y hx;simp only[aA] at hx ⊢;grind)⟩
   ·simp[ew,hv]
    intro gp hgp
    intros
    have hbp:b1 gp=none:=by first | assumption | (simp only[aA];grind)
    have fp:=aR s8 hbp
    have s13:Sub b0 (upd (b1) gp (some ⟨5,[[.int .i64 0,.int .i64 0,.nils,.nils,.nils]]⟩)):=fun x y hx=>(by rw[aG _ _ _ _ (fun e=>by rw[e,fp] at hx;cases hx)];exact s8 x y hx)
    refine⟨by first | exact s13 | (intro x y hx;have:=s13 x y hx;simp only[aA] at this ⊢;grind),?_⟩
    refine Dq 11 false ?_
    simp[ew,hv]
    refine⟨by omega,by unfold maxLen;omega,fun gc hgc=> ?_⟩
    intros
    have hbc:upd (b1) gp (some ⟨5,[[.int .i64 0,.int .i64 0,.nils,.nils,.nils]]⟩) gc=none:=by first | assumption | (simp only[aA];grind)
    have fc:=aR s13 hbc
    have s11:Sub b0 (upd (upd (b1) gp (some ⟨5,[[.int .i64 0,.int .i64 0,.nils,.nils,.nils]]⟩)) gc (some ⟨1,List.replicate (nC s) [.int .i64 0]⟩)):=fun x y hx=>(by rw[aG _ _ _ _ (fun e=>by rw[e,fc] at hx;cases hx)];exact s13 x y hx)
    refine⟨by first | exact s11 | (intro x y hx;have:=s11 x y hx;simp only[aA] at this ⊢;grind),?_⟩
    refine Dq 12 false ?_
    simp[ew,hv]
    refine⟨by first | exact s11 | (intro x y hx;have:=s11 x y hx;simp only[aA] at this ⊢;grind),?_⟩
    refine Dq 14 true ?_
    have ncp:gp≠gc:=by grind [aA]
    simp[ew,hv,hbp,ncp,Ne.symm ncp]
    have s14:Sub b0 (upd (upd (upd (b1) gp (some ⟨5,[[.int .i64 0,.int .i64 0,.nils,.nils,.nils]]⟩)) gc (some ⟨1,List.replicate (nC s) [.int .i64 0]⟩)) gp (some ⟨5,[[.int .i64 (nR s),.int .i64 (nC s),.nils,vb,.lsl gc 1 0 (nC s)]]⟩)):=fun x y hx=>(by rw[aG _ _ _ _ (fun e=>by rw[e,fp] at hx;cases hx)];exact s11 x y hx)
    refine Dd ?_
    rw[aH]
    exact⟨⟨vb,gb,gc,gp,upd (upd (upd (b1) gp (some ⟨5,[[.int .i64 0,.int .i64 0,.nils,.nils,.nils]]⟩)) gc (some ⟨1,List.replicate (nC s) [.int .i64 0]⟩)) gp (some ⟨5,[[.int .i64 (nR s),.int .i64 (nC s),.nils,vb,.lsl gc 1 0 (nC s)]]⟩)⟩,⟨by first | exact o | exact o.cZ fun x hx y hy=>(by grind [aA]),f0,fc,fp,Ne.symm ncp,(by grind [aA]),(by grind [aA]),(by grind [aA]),(by grind [aA]),s14,hgc,hgp⟩,rfl,by simp,by first | exact Sub.refl _ | exact sub_eq (by simp)| (intro x y hx;simp only[aA] at hx ⊢;grind)⟩
  ·simp[ew]
   refine⟨by omega,by unfold maxLen;omega,fun gc hgc=> ?_⟩
   intros
   have hbc:b0 gc=none:=by first | assumption | (simp only[aA];grind)
   have fc:=aR (Sub.refl b0) hbc
   have s11:Sub b0 (upd (b0) gc (some ⟨1,List.replicate (nC s) [.int .i64 0]⟩)):=fun x y hx=>(by rw[aG _ _ _ _ (fun e=>by rw[e,fc] at hx;cases hx)];exact(Sub.refl b0) x y hx)
   refine⟨by first | exact s11 | (intro x y hx;have:=s11 x y hx;simp only[aA] at this ⊢;grind),?_⟩
   refine Dw 8 13 false false ?_ ?_
   ·simp[ew]
    refine bU (kW s l hL) fun vb gb b1 o f fr=> ?_
    have hgb: ∀x,x∈gb→ ∃y,b1 x=some y:=o.has
    have hv:=eR o
    have f0: ∀x,x∈gb→b0 x=none:=fun x hx=>aR s11 (f x hx)
    have s8:Sub b0 b1:=fun x y hx=>bI f fr (s11 x y hx)
    simp
    refine⟨by first | exact s8 | (intro x y hx;have:=s8 x y hx;simp only[aA] at this ⊢;grind),?_⟩
    refine Dw 12 13 false false ?_ ?_
    ·simp[ew,hv]
     refine⟨by first | exact s8 | (intro x y hx;have:=s8 x y hx;simp only[aA] at this ⊢;grind),?_⟩
     refine Dq 13 false ?_
     simp[ew,hv]
     intro gp hgp
     intros
     have hbp:b1 gp=none:=by first | assumption | (simp only[aA];grind)
     have fp:=aR s8 hbp
     have s13:Sub b0 (upd (b1) gp (some ⟨5,[[.int .i64 0,.int .i64 0,.nils,.nils,.nils]]⟩)):=fun x y hx=>(by rw[aG _ _ _ _ (fun e=>by rw[e,fp] at hx;cases hx)];exact s8 x y hx)
     refine⟨by first | exact s13 | (intro x y hx;have:=s13 x y hx;simp only[aA] at this ⊢;grind),?_⟩
     refine Dq 14 true ?_
     have ncp:gp≠gc:=by grind [aA]
     simp[ew,hv,hbp,ncp,Ne.symm ncp]
     have s14:Sub b0 (upd (upd (b1) gp (some ⟨5,[[.int .i64 0,.int .i64 0,.nils,.nils,.nils]]⟩)) gp (some ⟨5,[[.int .i64 (nR s),.int .i64 (nC s),.nils,vb,.lsl gc 1 0 (nC s)]]⟩)):=fun x y hx=>(by rw[aG _ _ _ _ (fun e=>by rw[e,fp] at hx;cases hx)];exact s13 x y hx)
     refine Dd ?_
     rw[aH]
     exact⟨⟨vb,gb,gc,gp,upd (upd (b1) gp (some ⟨5,[[.int .i64 0,.int .i64 0,.nils,.nils,.nils]]⟩)) gp (some ⟨5,[[.int .i64 (nR s),.int .i64 (nC s),.nils,vb,.lsl gc 1 0 (nC s)]]⟩)⟩,⟨by first | exact o | exact o.cZ fun x hx y hy=>(by grind [aA]),f0,fc,fp,Ne.symm ncp,(by grind [aA]),(by grind [aA]),(by grind [aA]),(by grind [aA]),s14,hgc,hgp⟩,rfl,by simp,by first | exact Sub.refl _ | exact sub_eq (by simp)| (intro x y hx;simp only[aA] at hx ⊢;grind)⟩
    ·simp[ew,hv]
     intro gp hgp
     intros
     have hbp:b1 gp=none:=by first | assumption | (simp only[aA];grind)
     have fp:=aR s8 hbp
     have s13:Sub b0 (upd (b1) gp (some ⟨5,[[.int .i64 0,.int .i64 0,.nils,.nils,.nils]]⟩)):=fun x y hx=>(by rw[aG _ _ _ _ (fun e=>by rw[e,fp] at hx;cases hx)];exact s8 x y hx)
     refine⟨by first | exact s13 | (intro x y hx;have:=s13 x y hx;simp only[aA] at this ⊢;grind),?_⟩
     refine Dq 12 false ?_
     simp[ew,hv]
     refine⟨by first | exact s13 | (intro x y hx;have:=s13 x y hx;simp only[aA] at this ⊢;grind),?_⟩
     refine Dq 14 true ?_
     have ncp:gp≠gc:=by grind [aA]
     simp[ew,hv,hbp,ncp,Ne.symm ncp]
     have s14:Sub b0 (upd (upd (b1) gp (some ⟨5,[[.int .i64 0,.int .i64 0,.nils,.nils,.nils]]⟩)) gp (some ⟨5,[[.int .i64 (nR s),.int .i64 (nC s),.nils,vb,.lsl gc 1 0 (nC s)]]⟩)):=fun x y hx=>(by rw[aG _ _ _ _ (fun e=>by rw[e,fp] at hx;cases hx)];exact s13 x y hx)
     refine Dd ?_
     rw[aH]
     exact⟨⟨vb,gb,gc,gp,upd (upd (b1) gp (some ⟨5,[[.int .i64 0,.int .i64 0,.nils,.nils,.nils]]⟩)) gp (some ⟨5,[[.int .i64 (nR s),.int .i64 (nC s),.nils,vb,.lsl gc 1 0 (nC s)]]⟩)⟩,⟨by first | exact o | exact o.cZ fun x hx y hy=>(by grind [aA]),f0,fc,fp,Ne.symm ncp,(by grind [aA]),(by grind [aA]),(by grind [aA]),(by grind [aA]),s14,hgc,hgp⟩,rfl,by simp,by first | exact Sub.refl _ | exact sub_eq (by simp)| (intro x y hx;simp only[aA] at hx ⊢;grind)⟩
   ·simp[ew]
    intro gp hgp
    intros
    have hbp:upd (b0) gc (some ⟨1,List.replicate (nC s) [.int .i64 0]⟩) gp=none:=by first | assumption | (simp only[aA];grind)
    have fp:=aR s11 hbp
    have s13:Sub b0 (upd (upd (b0) gc (some ⟨1,List.replicate (nC s) [.int .i64 0]⟩)) gp (some ⟨5,[[.int .i64 0,.int .i64 0,.nils,.nils,.nils]]⟩)):=fun x y hx=>(by rw[aG _ _ _ _ (fun e=>by rw[e,fp] at hx;cases hx)];exact s11 x y hx)
    refine⟨by first | exact s13 | (intro x y hx;have:=s13 x y hx;simp only[aA] at this ⊢;grind),?_⟩
    refine Dq 8 false ?_
    simp[ew]
    refine bU (kW s l hL) fun vb gb b1 o f fr=> ?_
    have hgb: ∀x,x∈gb→ ∃y,b1 x=some y:=o.has
    have hv:=eR o
    have f0: ∀x,x∈gb→b0 x=none:=fun x hx=>aR s13 (f x hx)
    have s8:Sub b0 b1:=fun x y hx=>bI f fr (s13 x y hx)
    simp
    refine⟨by first | exact s8 | (intro x y hx;have:=s8 x y hx;simp only[aA] at this ⊢;grind),?_⟩
    refine Dq 12 false ?_
    simp[ew,hv]
    refine⟨by first | exact s8 | (intro x y hx;have:=s8 x y hx;simp only[aA] at this ⊢;grind),?_⟩
    refine Dq 14 true ?_
    have ncp:gp≠gc:=by grind [aA]
    have hq:b1 gp=some ⟨5,[[.int .i64 0,.int .i64 0,.nils,.nils,.nils]]⟩:=by grind [aA]
    simp[ew,hv,hbp,ncp,Ne.symm ncp,hq]
    have s14:Sub b0 (upd (b1) gp (some ⟨5,[[.int .i64 (nR s),.int .i64 (nC s),.nils,vb,.lsl gc 1 0 (nC s)]]⟩)):=fun x y hx=>(by rw[aG _ _ _ _ (fun e=>by rw[e,fp] at hx;cases hx)];exact s8 x y hx)
    refine Dd ?_
    rw[aH]
    exact⟨⟨vb,gb,gc,gp,upd (b1) gp (some ⟨5,[[.int .i64 (nR s),.int .i64 (nC s),.nils,vb,.lsl gc 1 0 (nC s)]]⟩)⟩,⟨by first | exact o | exact o.cZ fun x hx y hy=>(by grind [aA]),f0,fc,fp,Ne.symm ncp,(by grind [aA]),(by grind [aA]),(by grind [aA]),(by grind [aA]),s14,hgc,hgp⟩,rfl,by simp,by first | exact Sub.refl _ | exact sub_eq (by simp)| (intro x y hx;simp only[aA] at hx ⊢;grind)⟩
  ·simp[ew]
   intro gp hgp
   intros
   have hbp:b0 gp=none:=by first | assumption | (simp only[aA];grind)
   have fp:=aR (Sub.refl b0) hbp
   have s13:Sub b0 (upd (b0) gp (some ⟨5,[[.int .i64 0,.int .i64 0,.nils,.nils,.nils]]⟩)):=fun x y hx=>(by rw[aG _ _ _ _ (fun e=>by rw[e,fp] at hx;cases hx)];exact(Sub.refl b0) x y hx)
   refine⟨by first | exact s13 | (intro x y hx;have:=s13 x y hx;simp only[aA] at this ⊢;grind),?_⟩
   refine Dw 8 11 false false ?_ ?_
   ·simp[ew]
    refine bU (kW s l hL) fun vb gb b1 o f fr=> ?_
    have hgb: ∀x,x∈gb→ ∃y,b1 x=some y:=o.has
    have hv:=eR o
    have f0: ∀x,x∈gb→b0 x=none:=fun x hx=>aR s13 (f x hx)
    have s8:Sub b0 b1:=fun x y hx=>bI f fr (s13 x y hx)
    simp
    refine⟨by first | exact s8 | (intro x y hx;have:=s8 x y hx;simp only[aA] at this ⊢;grind),?_⟩
    refine Dq 11 false ?_
    simp[ew,hv]
    refine⟨by omega,by unfold maxLen;omega,fun gc hgc=> ?_⟩
    intros
    have hbc:b1 gc=none:=by first | assumption | (simp only[aA];grind)
    have fc:=aR s8 hbc
    have s11:Sub b0 (upd (b1) gc (some ⟨1,List.replicate (nC s) [.int .i64 0]⟩)):=fun x y hx=>(by rw[aG _ _ _ _ (fun e=>by rw[e,fc] at hx;cases hx)];exact s8 x y hx)
    refine⟨by first | exact s11 | (intro x y hx;have:=s11 x y hx;simp only[aA] at this ⊢;grind),?_⟩
    refine Dq 12 false ?_
    simp[ew,hv]
    refine⟨by first | exact s11 | (intro x y hx;have:=s11 x y hx;simp only[aA] at this ⊢;grind),?_⟩
    refine Dq 14 true ?_
    have ncp:gp≠gc:=by grind [aA]
    have hq:b1 gp=some ⟨5,[[.int .i64 0,.int .i64 0,.nils,.nils,.nils]]⟩:=by grind [aA]
    simp[ew,hv,hbp,ncp,Ne.symm ncp,hq]
    have s14:Sub b0 (upd (upd (b1) gc (some ⟨1,List.replicate (nC s) [.int .i64 0]⟩)) gp (some ⟨5,[[.int .i64 (nR s),.int .i64 (nC s),.nils,vb,.lsl gc 1 0 (nC s)]]⟩)):=fun x y hx=>(by rw[aG _ _ _ _ (fun e=>by rw[e,fp] at hx;cases hx)];exact s11 x y hx)
    refine Dd ?_
    rw[aH]
    exact⟨⟨vb,gb,gc,gp,upd (upd (b1) gc (some ⟨1,List.replicate (nC s) [.int .i64 0]⟩)) gp (some ⟨5,[[.int .i64 (nR s),.int .i64 (nC s),.nils,vb,.lsl gc 1 0 (nC s)]]⟩)⟩,⟨by first | exact o | exact o.cZ fun x hx y hy=>(by grind [aA]),f0,fc,fp,Ne.symm ncp,(by grind [aA]),(by grind [aA]),(by grind [aA]),(by grind [aA]),s14,hgc,hgp⟩,rfl,by simp,by first | exact Sub.refl _ | exact sub_eq (by simp)| (intro x y hx;simp only[aA] at hx ⊢;grind)⟩
   ·simp[ew]
    refine⟨by omega,by unfold maxLen;omega,fun gc hgc=> ?_⟩
    intros
    have hbc:upd (b0) gp (some ⟨5,[[.int .i64 0,.int .i64 0,.nils,.nils,.nils]]⟩) gc=none:=by first | assumption | (simp only[aA];grind)
    have fc:=aR s13 hbc
    have s11:Sub b0 (upd (upd (b0) gp (some ⟨5,[[.int .i64 0,.int .i64 0,.nils,.nils,.nils]]⟩)) gc (some ⟨1,List.replicate (nC s) [.int .i64 0]⟩)):=fun x y hx=>(by rw[aG _ _ _ _ (fun e=>by rw[e,fc] at hx;cases hx)];exact s13 x y hx)
    refine⟨by first | exact s11 | (intro x y hx;have:=s11 x y hx;simp only[aA] at this ⊢;grind),?_⟩
    refine Dq 8 false ?_
    simp[ew]
    refine bU (kW s l hL) fun vb gb b1 o f fr=> ?_
    have hgb: ∀x,x∈gb→ ∃y,b1 x=some y:=o.has
    have hv:=eR o
    have f0: ∀x,x∈gb→b0 x=none:=fun x hx=>aR s11 (f x hx)
    have s8:Sub b0 b1:=fun x y hx=>bI f fr (s11 x y hx)
    simp
    refine⟨by first | exact s8 | (intro x y hx;have:=s8 x y hx;simp only[aA] at this ⊢;grind),?_⟩
    refine Dq 12 false ?_
    simp[ew,hv]
    refine⟨by first | exact s8 | (intro x y hx;have:=s8 x y hx;simp only[aA] at this ⊢;grind),?_⟩
    refine Dq 14 true ?_
    have ncp:gp≠gc:=by grind [aA]
    have hq:b1 gp=some ⟨5,[[.int .i64 0,.int .i64 0,.nils,.nils,.nils]]⟩:=by grind [aA]
    simp[ew,hv,hbp,ncp,Ne.symm ncp,hq]
    have s14:Sub b0 (upd (b1) gp (some ⟨5,[[.int .i64 (nR s),.int .i64 (nC s),.nils,vb,.lsl gc 1 0 (nC s)]]⟩)):=fun x y hx=>(by rw[aG _ _ _ _ (fun e=>by rw[e,fp] at hx;cases hx)];exact s8 x y hx)
    refine Dd ?_
    rw[aH]
    exact⟨⟨vb,gb,gc,gp,upd (b1) gp (some ⟨5,[[.int .i64 (nR s),.int .i64 (nC s),.nils,vb,.lsl gc 1 0 (nC s)]]⟩)⟩,⟨by first | exact o | exact o.cZ fun x hx y hy=>(by grind [aA]),f0,fc,fp,Ne.symm ncp,(by grind [aA]),(by grind [aA]),(by grind [aA]),(by grind [aA]),s14,hgc,hgp⟩,rfl,by simp,by first | exact Sub.refl _ | exact sub_eq (by simp)| (intro x y hx;simp only[aA] at hx ⊢;grind)⟩
 rintro⟨vb,gb,gc,gp,b1⟩ ⟨o,f0,fc,fp,ncp,nc,np,bc,bp,hsb,hgc,hgp⟩
 simp only at o f0 fc fp ncp nc np bc bp hsb hgc hgp
 refine A5 (g:=gp) (s:=5) (els:= [[.int .i64 (nR s),.int .i64 (nC s),.nils,vb,.lsl gc 1 0 (nC s)]]) 0 3 bp rfl rfl o np fun gB b2 b2p b2B nBp Tv Bor b2x=> ?_
 have nBc:gB≠gc:=fun e=>by
  rcases Bor with h | h
  ·exact nc (e▸h)
  ·have h:b1 gB=none:=h
   rw[e,bc] at h;cases h
 have fB:b0 gB=none:=by
  rcases Bor with h | h
  ·exact f0 gB h
  ·exact aR hsb h
 have b2c:=(b2x gc ncp (Ne.symm nBc)).trans bc
 have s2:Sub b0 b2:=fun x y hx=>by
  rw[b2x x (fun e=>by rw[e,fp] at hx;cases hx) (fun e=>by rw[e,fB] at hx;cases hx)];exact hsb x y hx
 clear bp bc b2x hsb Bor o f0 nc np
 rw[show(right s l).length=nR s from eJ s l] at b2p
 refine dD (g:=gp) 0 2 1 (s:=5) (els:= [[.int .i64 (nR s),.int .i64 (nC s),.nils,.lsl gB 1 0 (nR s),.lsl gc 1 0 (nC s)]]) b2p rfl rfl fun ga hga aC1=> ?_
 have hga:b2 ga=none:=hga
 have fa:b0 ga=none:=aR s2 hga
 have nac:ga≠gc:=fun e=>by rw[e,b2c] at hga;cases hga
 have naB:ga≠gB:=fun e=>by rw[e,b2B] at hga;cases hga
 refine aO ?_
 refine aC ?_
 simp
 refine aI (fun p:Nat×PS=> [(4,.loc gr 5 0 0),(5,.sl (iv (who s))),(6,.sl (iv (sgn s))),(7,.int .i64 s.ms.length),(8,.sl (iv (iD s))),(9,.loc gp 5 0 0),(10,.int .i64 p.1)]) (fun p=>p.2.b) (fun p=>p.1≤nR s∧p.2.n=p.1*nC s∧PJ b0 s l gp gB gc p.2) (fun p=>nR s - p.1) _ (0,⟨0,ga,_⟩) ⟨Nat.zero_le _,by simp,⟨?_,?_,?_,?_,aC1,nac,naB,fa,?_,fun _=>rfl⟩⟩ ⟨rfl,by simp,sub_eq rfl⟩ ?_
 ·simp[Ne.symm aC1]
 ·simp[Ne.symm nac,Ne.symm ncp,ncp,b2c,iv]
 ·simp[Ne.symm naB,nBp,b2B]
 ·simp[aTo,iv]
 ·intro x y hx
  have h1:x≠gp:=fun e=>by rw[e,fp] at hx;cases hx
  have h2:x≠ga:=fun e=>by rw[e,fa] at hx;cases hx
  simp[h1,h2,s2 x y hx]
 clear hga aC1 nac naB fa b2p s2
 rintro⟨i,n,g,b⟩ ⟨hi,hn,P⟩
 simp only at hi hn
 subst hn
 have hP:=P.hp
 simp only at hP
 refine aO ?_
 refine aC ?_
 simp[hP]
 refine⟨fun h=> ?_,fun h=> ?_⟩
 ·refine aO (aT ?_)
  refine aC ?_
  simp[ew]
  refine aI (fun p:Nat×PS=> [(4,.loc gr 5 0 0),(5,.sl (iv (who s))),(6,.sl (iv (sgn s))),(7,.int .i64 s.ms.length),(8,.sl (iv (iD s))),(9,.loc gp 5 0 0),(10,.int .i64 i),(42,.sl (iv (who s))),(43,.int .i64 (nC s)),(44,.int .i64 p.1)]) (fun p=>p.2.b) (fun p=>p.1≤nC s∧p.2.n=i*nC s+p.1∧PJ b0 s l gp gB gc p.2) (fun p=>nC s - p.1) _ (0,⟨i*nC s,g,b⟩) ⟨Nat.zero_le _,rfl,P⟩ ⟨rfl,by simp,sub_eq rfl⟩ ?_
  rintro⟨c,n,g,b⟩ ⟨hc,hn,P⟩
  simp only at hc hn
  subst hn
  obtain⟨hp,hcc,hBB,ha,npp,npc,npB,hf,jZ,cO⟩:=P
  simp only at hp hcc hBB ha npp npc npB hf jZ cO
  refine aE ?_
  simp
  refine aE ?_
  simp
  refine⟨fun hcl=> ?_,fun hcl=> ?_⟩
  ·refine aO (aT ?_)
   have qw:=Qj s c hcl
   have qs:=aCM s c hcl
   obtain⟨⟨k0,k1⟩,k2⟩:=rL s c hcl
   refine aE ?_
   simp[-eC,qw]
   obtain⟨⟨k,sg⟩,hk⟩: ∃k,fL s c=k:=⟨_,rfl⟩
   rw[hk] at qw qs k0 k1 k2 ⊢
   simp only at qw qs k0 k1 k2 ⊢
   have m1:i*s.ms.length≤12*8:=Nat.mul_le_mul (by omega) (by omega)
   have mi:((i*s.ms.length:Nat):Int)=(i:Int)*s.ms.length:=by simp
   have w1:IntKind.i64.wrap ((i:Int)*s.ms.length)=(i:Int)*s.ms.length:=i64_in (by omega) (by omega)
   have w2:IntKind.i64.wrap ((i:Int)*s.ms.length+k)=(i:Int)*s.ms.length+k:=i64_in (by omega) (by omega)
   have e1:((i:Int)*s.ms.length+k).toNat=i*s.ms.length+k.toNat:=by omega
   have ei:i*s.ms.length+k.toNat<(iD s).length:=by
    rw[U8]
    have:(i+1)*s.ms.length≤nR s*s.ms.length:=Nat.mul_le_mul_right _ h
    rw[Nat.add_mul] at this;omega
   have qr:=yQ ei
   rw[←e1] at qr
   have bd:=vU hs (i*s.ms.length+k.toNat)
   rw[←e1] at bd
   have en:ent s i c=sg*lat (iD s) ((i:Int)*s.ms.length+k).toNat:=by unfold ent;rw[hk,e1]
   have w3:IntKind.i64.wrap (sg*lat (iD s) ((i:Int)*s.ms.length+k).toNat)=ent s i c:=by
    rw[en];rcases k2 with rfl | rfl<;>exact i64_in (by omega) (by omega)
   have p1:0≤(i:Int)*s.ms.length+k:=by omega
   have mc:(i+1)*nC s≤12*16:=Nat.mul_le_mul (by omega) (by omega)
   rw[Nat.add_mul] at mc
   obtain⟨m,hm⟩: ∃m,i*nC s+c=m:=⟨_,rfl⟩
   rw[hm] at hp ha cO
   have tka:(iv (aTo s m)).take m=iv (aTo s m):=List.take_of_length_le (by simp)
   refine dK aL (rem b g) (eH b g) [0,1,2,3,4,5,6,7,8,9,10,11,12,13,14] 4 18 (by kernel_rfl) ?_
   simp[-eC,Ne.symm npp,hp,w1,w2,w3,qs,qr,p1]
   refine Dq 15 false ?_
   simp
   intro g4 hg4 hb4
   have n4g:g4≠g:=fun e=>by rw[e,ha] at hb4;cases hb4
   have n4p:g4≠gp:=fun e=>by rw[e,hp] at hb4;cases hb4
   have sQ: ∀X,Sub (rem b g) (upd b g4 X):=fun X z y hz=>by
    rw[aF] at hz
    rw[aA]
    grind
   refine⟨sQ _,Dq 16 false ?_⟩
   simp[n4g,Ne.symm n4g,appV,elsV,Int.not_lt.2 hg4,ha,tka]
   have hsn:iv (aTo s m)++ [[.int .i64 (ent s i c)]]=iv (aTo s (m+1)):=by rw[←hm,Ny s i c hcl,aZ,kJ]
   rw[hsn]
   refine⟨by omega,fun gN hgN hbN=> ?_⟩
   have nN:gN≠gp∧gN≠gc∧gN≠gB∧gN≠g4∧b0 gN=none:=by
    by_cases e:gN=g
    ·subst e
     exact⟨npp,npc,npB,Ne.symm n4g,hf⟩
    ·obtain⟨q1,q2⟩:=hbN e
     exact⟨fun e=>(by rw[e,hp] at q2;cases q2),fun e=>(by rw[e,hcc] at q2;cases q2),fun e=>(by rw[e,hBB] at q2;cases q2),q1,aR jZ q2⟩
   obtain⟨nNp,nNc,nNB,nN4,fN⟩:=nN
   have iO: ∀X Y,Sub (rem b g) (upd (rem (upd b g4 X) g) gN Y):=fun X Y z y hz=>by
    rw[aF] at hz
    rw[aA,aF,aA]
    grind
   have lJ: ∀X Y Z,Sub (upd (upd (rem b g) gN Y) gp Z) (upd (upd (rem (upd b g4 X) g) gN Y) gp Z):=fun X Y Z z y hz=>by
    simp only[aA,aF] at hz ⊢
    grind
   refine⟨iO _ _,Dq 17 false ?_⟩
   simp
   refine⟨iO _ _,Dq 18 true ?_⟩
   simp[Ne.symm nNp,Ne.symm npp,n4p,Ne.symm n4p,hp]
   refine Dd ?_
   have w4:IntKind.i64.wrap ((c:Int)+1)=c+1:=i64_in (by omega) (by omega)
   simp
   refine aC ?_
   simp[w4,aB]
   obtain⟨b4,jH⟩: ∃b4,b4=upd (upd (rem b g) gN (some ⟨1,iv (aTo s (m+1))⟩)) gp (some ⟨5,[[.int .i64 (nR s),.int .i64 (nC s),.lsl gN 1 0 (m+1),.lsl gB 1 0 (nR s),.lsl gc 1 0 (nC s)]]⟩):=⟨_,rfl⟩
   refine⟨c+1,⟨m+1,gN,b4⟩,⟨by omega,by simp only;omega,⟨by rw[jH];simp,by rw[jH];simp[Ne.symm nNc,Ne.symm npc,ncp,hcc],by rw[jH];simp[Ne.symm nNB,Ne.symm npB,nBp,hBB],by rw[jH];simp[nNp],nNp,nNc,nNB,fN,fun x y hx=> ?_,fun e=>by simp only at e;omega⟩⟩,by omega,rfl,by simp,by rw[jH];exact lJ _ _ _⟩
   have h1:x≠gp:=fun e=>by rw[e,fp] at hx;cases hx
   have h2:x≠gN:=fun e=>by rw[e,fN] at hx;cases hx
   have h3:x≠g:=fun e=>by rw[e,hf] at hx;cases hx
   simp only
   rw[jH];simp[h1,h2,h3];exact jZ x y hx
  ·have:c=nC s:=by omega
   subst this
   have w5:IntKind.i64.wrap ((i:Int)+1)=i+1:=i64_in (by omega) (by omega)
   refine aC ?_
   simp[w5,aB]
   refine⟨i+1,⟨i*nC s+nC s,g,b⟩,⟨by omega,by rw[Nat.add_mul];simp,⟨hp,hcc,hBB,ha,npp,npc,npB,hf,jZ,cO⟩⟩,by omega,rfl,by simp,sub_eq rfl⟩
 ·have:i=nR s:=by omega
  subst this
  obtain⟨hp,hcc,hBB,ha,npp,npc,npB,hf,jZ,cO⟩:=P
  simp only at hp hcc hBB ha npp npc npB hf jZ cO
  have nrp:gr≠gp:=fun e=>by rw[e,fp] at b0r;cases b0r
  have nrg:gr≠g:=fun e=>by rw[e,hf] at b0r;cases b0r
  have nrB:gr≠gB:=fun e=>by rw[e,fB] at b0r;cases b0r
  have nrc:gr≠gc:=fun e=>by rw[e,fc] at b0r;cases b0r
  have bgr:=jZ _ _ b0r
  refine aC ?_
  simp[hp,bgr]
  have fl: ∀x,b0 x=none→bl x=none:=fun x hx=>aR s0 hx
  refine dI [.agg [.int .i64 (nR s),.int .i64 (nC s),.lsl g 1 0 (nR s*nC s),.lsl gB 1 0 (nR s),.lsl gc 1 0 (nC s)]] ([g]++([gB]++ [gc])) (by simp) (tP.2 ⟨_,_,_,[g],[gB],[gc],rfl,rfl,by simp[npB,npc],by simp[nBc],dP.2 (.inr ⟨g,by simp[dA],rfl,?_,cO⟩),dP.2 (.inr ⟨gB,by simp[dA,eJ],rfl,?_,Tv⟩),dP.2 (.inr ⟨gc,by simp[dA],rfl,?_,by omega⟩)⟩) (by simp[fl _ hf,fl _ fB,fl _ fc]) fun x y hx=> ?_
  ·show upd b gr _ g=_
   rw[aG _ _ _ _ (Ne.symm nrg)];exact ha
  ·show upd b gr _ gB=_
   rw[aG _ _ _ _ (Ne.symm nrB)];exact hBB
  ·show upd b gr _ gc=_
   rw[aG _ _ _ _ (Ne.symm nrc)];exact hcc
  ·show upd b gr _ x=_
   rw[aG _ _ _ _ (fun e=>by rw[e,hbr] at hx;cases hx)]
   exact jZ x y (s0 x y hx)
end Go.Proofs.YticmgmemnpcbbaaGreat.Vm

namespace Go.Proofs.YticmgmemnpcbbaaGreat.Vm
open Go Go.Proofs
set_option linter.unusedSimpArgs false
set_option linter.unusedVariables false
structure nS (b : Int → Option Blk) (g0 : Int) (ids : List Int) (r c : Nat) (M : MF) : Prop where
 len:ids.length=r
 top:b g0=some ⟨1,ids.map fun g=> [.lsl g 1 0 c]⟩
 row: ∀(i:Nat) (g:Int),ids[i]? =some g→b g=some ⟨1,fvs (rowOf c M i)⟩
 pos: ∀g,g∈ids→0≤g
 inj: ∀(i j:Nat) (g:Int),ids[i]? =some g→ids[j]? =some g→i=j
 no0:g0∉ids
theorem yJ {c:Nat} {M M':MF} {i:Nat} (h: ∀j,j<c→M i j=M' i j):rowOf c M i=rowOf c M' i:=by
 unfold rowOf
 exact List.map_congr_left fun j hj=>h j (by simpa using hj)
theorem nS.congr {b:Int→Option Blk} {g0:Int} {ids:List Int} {r c:Nat} {M M':MF} (h:nS b g0 ids r c M) (hM: ∀i j,i<r→j<c→M i j=M' i j):nS b g0 ids r c M':=
 ⟨h.len,h.top,fun i g hi=>by
   rw[h.row i g hi,yJ fun j hj=>hM i j (by rw[←h.len];exact(List.getElem?_eq_some_iff.1 hi).1) hj],h.pos,h.inj,h.no0⟩
theorem nS.put {b:Int→Option Blk} {g0 g:Int} {ids:List Int} {r c i:Nat} {M M':MF} (h:nS b g0 ids r c M) (hi:ids[i]? =some g) (hM: ∀a j,a≠i→j<c→M a j=M' a j):nS (upd b g (some ⟨1,fvs (rowOf c M' i)⟩)) g0 ids r c M':=by
 have hm:=List.mem_of_getElem? hi
 refine⟨h.len,?_,fun k g' hk=> ?_,h.pos,h.inj,h.no0⟩
 ·rw[aG _ _ _ _ (fun e=>h.no0 (by rw[e];exact hm))];exact h.top
 ·by_cases e:k=i
  ·subst e
   rw[hi] at hk;cases hk
   rw[aV]
  ·have hne:g'≠g:=fun e2=>e (h.inj k i g (by rw[hk,e2]) hi)
   rw[aG _ _ _ _ hne,h.row k g' hk,yJ fun j hj=>hM k j e hj]
theorem nS.cZ {b b':Int→Option Blk} {g0:Int} {ids:List Int} {r c:Nat} {M:MF} (h:nS b g0 ids r c M) (hk: ∀x y,x=g0∨x∈ids→b x=some y→b' x=some y):nS b' g0 ids r c M:=
 ⟨h.len,hk _ _ (.inl rfl) h.top,fun i g hi=>hk _ _ (.inr (List.mem_of_getElem? hi)) (h.row i g hi),h.pos,h.inj,h.no0⟩
def aXD (ids:List Int) (i n:Nat) (gi gn:Int):List Int:=(ids.set i gn).set n gi
structure aW9 (b : Int → Option Blk) (gr g0 gp : Int) (ids : List Int) (r c : Nat) (s : RS) (d : Option Rat) : Prop where
 fM:nS b g0 ids r c s.M
 hd:b gr=some ⟨5,[[.int .i64 r,.int .i64 c,.lsl g0 1 0 r,.lsl gp 1 0 s.P.length,fv d]]⟩
 pv:b gp=some ⟨1,iv (pz s.P)⟩
 pn:gp<0→s.P= []
 dq:okQ d
 g00:0≤g0
 d1:gr≠g0
 d2:gr∉ids
 d3:gp≠gr
 d4:gp≠g0
 d5:gp∉ids
def Fr (bl b:Int→Option Blk) (gr g0:Int) (ids:List Int):Prop:= ∀x y,bl x=some y→x≠gr→x≠g0→x∉ids→b x=some y
def aZL (M:MF) (n k i j:Nat):MF:=fun a b=>if a<i∨a=i∧b<j then aP2 M n k a b else M a b
end Go.Proofs.YticmgmemnpcbbaaGreat.Vm

namespace Go.Proofs.YticmgmemnpcbbaaGreat.Lp
set_option linter.unusedSimpArgs false
set_option linter.unusedVariables false
def S :Nat→(Nat→Rat)→Rat
 | 0, _ => 0
 | n + 1, f => S n f + f n
theorem bS {f g:Nat→Rat} : ∀ {n:Nat},(∀i,i<n→f i=g i)→S n f=S n g
 | 0, _ => rfl
 | n + 1, h => by rw [S, S, bS (n := n) fun i hi => h i (by omega), h n (by omega)]
theorem jU {f:Nat→Rat} : ∀ {n:Nat},(∀i,i<n→f i=0)→S n f=0
 | 0, _ => rfl
 | n + 1, h => by rw [S, jU (n := n) fun i hi => h i (by omega), h n (by omega)]; grind
theorem Am (f g:Nat→Rat): ∀n,S n (fun i=>f i+g i)=S n f+S n g
 | 0 => by simp [S]; grind
 | n + 1 => by rw [S, S, S, Am f g n]; grind
theorem Q4 (f g:Nat→Rat): ∀n,S n (fun i=>f i - g i)=S n f - S n g
 | 0 => by simp [S]; grind
 | n + 1 => by rw [S, S, S, Q4 f g n]; grind
theorem jV (a:Rat) (f:Nat→Rat): ∀n,S n (fun i=>a*f i)=a*S n f
 | 0 => by simp [S]
 | n + 1 => by rw [S, S, jV a f n]; grind
theorem pO (a:Rat) (f:Nat→Rat) (n:Nat):S n (fun i=>f i*a)=S n f*a:=by
 rw[show(fun i=>f i*a)=fun i=>a*f i from funext fun i=>Rat.mul_comm _ _,jV,Rat.mul_comm]
theorem tO (f:Nat→Nat→Rat) (m:Nat): ∀n,S n (fun i=>S m fun j=>f i j)=S m fun j=>S n fun i=>f i j
 | 0 => by
   rw[S];symm;exact jU fun i _=>rfl
 | n + 1 => by
   rw[S,tO f m n,←Am]
   rfl
theorem eG {f:Nat→Rat} {k:Nat} : ∀ {n:Nat},k<n→(∀i,i<n→i≠k→f i=0)→S n f=f k
 | n + 1, hk, h => by
   rw[S]
   by_cases e:k=n
   ·subst e
    rw[jU fun i hi=>h i (by omega) (by omega)]
    grind
   ·rw[eG (n:=n) (by omega) fun i hi hik=>h i (by omega) hik,h n (by omega) (by omega)]
    grind
theorem jX {f:Nat→Rat} : ∀ {n:Nat},(∀i,i<n→0≤f i)→0≤S n f
 | 0, _ => Rat.le_refl
 | n + 1, h => by
   have h1:=jX (n:=n) fun i hi=>h i (by omega)
   have h2:=h n (by omega)
   rw[S];grind
theorem Uc {f:Nat→Rat} {k:Nat} : ∀ {n:Nat},(∀i,i<n→0≤f i)→k<n→0<f k→0<S n f
 | n + 1, h, hk, hp => by
   have h1:=jX (n:=n) fun i hi=>h i (by omega)
   have h2:=h n (by omega)
   rw[S]
   by_cases e:k=n
   ·subst e;grind
   ·have:=Uc (n:=n) (fun i hi=>h i (by omega)) (by omega) hp
    grind
def skip (v:Nat→Nat→Rat) (j:Nat):Nat→Nat→Rat:=fun c i=>v (if c<j then c else c+1) (i+1)
def sg (j:Nat):Rat:=if j % 2=0 then 1 else -1
theorem Wa (j:Nat):sg (j+1)= - sg j:=by
 unfold sg
 by_cases h:j % 2=0
 ·rw[if_pos h,if_neg (by omega)]
 ·rw[if_neg h,if_pos (by omega)];grind
def det :Nat→(Nat→Nat→Rat)→Rat
 | 0, _ => 1
 | m + 1, v => S (m + 1) fun j => sg j * v j 0 * det m (skip v j)
theorem rY : ∀ {m:Nat} {v w:Nat→Nat→Rat},(∀j i,j<m→i<m→v j i=w j i)→det m v=det m w
 | 0, _, _, _ => rfl
 | m + 1, v, w, h => by
   rw[det,det]
   refine bS fun j hj=> ?_
   rw[h j 0 hj (by omega),rY (m:=m) (v:=skip v j) (w:=skip w j) fun c i hc hi=> ?_]
   unfold skip
   split
   ·exact h c (i+1) (by omega) (by omega)
   ·exact h (c+1) (i+1) (by omega) (by omega)
def put (v:Nat→Nat→Rat) (p:Nat) (x:Nat→Rat):Nat→Nat→Rat:=fun j=>if j=p then x else v j
theorem Db (v:Nat→Nat→Rat) (p:Nat) (x:Nat→Rat):skip (put v p x) p=skip v p:=by
 funext c i
 unfold skip put
 split<;>(rw[if_neg (by omega)])
theorem qN (v:Nat→Nat→Rat) (p j:Nat) (x:Nat→Rat) (h:p≠j):skip (put v p x) j=put (skip v j) (if p<j then p else p - 1) fun i=>x (i+1):=by
 funext c i
 unfold skip put
 by_cases h1:c<j
 ·by_cases h2:p<j
  ·simp only[h1,h2,if_true]
   split<;>rfl
  ·simp only[h1,h2,if_true,if_false]
   rw[if_neg (by omega),if_neg (by omega)]
 ·by_cases h2:p<j
  ·simp only[h1,h2,if_true,if_false]
   rw[if_neg (by omega),if_neg (by omega)]
  ·simp only[h1,h2,if_false]
   by_cases h3:c+1=p
   ·rw[if_pos h3,if_pos (by omega)]
   ·rw[if_neg h3,if_neg (by omega)]
theorem rW (a b:Rat) (x y:Nat→Rat): ∀ {m:Nat} {p:Nat} (v:Nat→Nat→Rat),p<m→det m (put v p fun i=>a*x i+b*y i)=a*det m (put v p x)+b*det m (put v p y)
 | 0, p, v, hp => by omega
 | m + 1, p, v, hp => by
   rw[det,det,det,←jV,←jV,←Am]
   refine bS fun j hj=> ?_
   by_cases h:p=j
   ·subst h
    simp only[Db]
    simp only[put,if_true]
    grind
   ·rw[qN _ _ _ _ h,qN _ _ _ _ h,qN _ _ _ _ h]
    have ih:=rW a b (fun i=>x (i+1)) (fun i=>y (i+1)) (m:=m) (p:=if p<j then p else p - 1) (skip v j) (by split<;>omega)
    rw[ih]
    have e: ∀z:Nat→Rat,put v p z j 0=v j 0:=fun z=>by simp[put,Ne.symm h]
    simp only[e]
    grind
theorem rQ : ∀ {m:Nat} {p:Nat} (v:Nat→Nat→Rat),p+1<m→(∀i,i<m→v p i=v (p+1) i)→det m v=0
 | 0, p, v, hp, h => by omega
 | m + 1, p, v, hp, h => by
   rw[det]
   have hz: ∀j,j<m+1→j≠p→j≠p+1→sg j*v j 0*det m (skip v j)=0:=fun j hj h1 h2=>by
    have:det m (skip v j)=0:=by
     by_cases h3:j<p
     ·refine rQ (p:=p - 1) _ (by omega) fun i hi=> ?_
      unfold skip
      rw[if_neg (by omega),if_neg (by omega),show p - 1+1=p by omega]
      exact h (i+1) (by omega)
     ·refine rQ (p:=p) _ (by omega) fun i hi=> ?_
      unfold skip
      rw[if_pos (by omega),if_pos (by omega)]
      exact h (i+1) (by omega)
    rw[this];grind
   have he:det m (skip v p)=det m (skip v (p+1)):=rY fun c i hc hi=>by
    unfold skip
    by_cases h1:c<p
    ·rw[if_pos h1,if_pos (by omega)]
    ·by_cases h2:c=p
     ·subst h2
      rw[if_neg (by omega),if_pos (by omega)]
      exact(h (i+1) (by omega)).symm
     ·rw[if_neg (by omega),if_neg (by omega)]
   have h0:=h 0 (by omega)
   have key: ∀n,n≤m+1→S n (fun j=>sg j*v j 0*det m (skip v j))=if n=p+1 then sg p*v p 0*det m (skip v p) else 0:=by
    intro n
    induction n with
    | zero => intro _; rw [if_neg (by omega)]; rfl
    | succ n ih =>
      intro hn
      rw[S,ih (by omega)]
      by_cases e1:n=p
      ·subst e1
       rw[if_neg (by omega),if_pos rfl];grind
      ·by_cases e2:n=p+1
       ·subst e2
        rw[if_pos rfl,if_neg (by omega),Wa,he,h0];grind
       ·rw[if_neg (by omega),if_neg (by omega),hz n (by omega) e1 e2];grind
   rw[key (m+1) (Nat.le_refl _),if_neg (by omega)]
theorem I9 (v:Nat→Nat→Rat) (p:Nat):put v p (v p)=v:=by
 funext j;unfold put;split
 ·rename_i h;rw[h]
 ·rfl
theorem put_comm (v:Nat→Nat→Rat) {p q:Nat} (h:p≠q) (x y:Nat→Rat):put (put v p x) q y=put (put v q y) p x:=by
 funext j;unfold put
 by_cases h1:j=q
 ·rw[if_pos h1,if_neg (by omega),if_pos h1]
 ·rw[if_neg h1]
  by_cases h2:j=p
  ·rw[if_pos h2];rw[if_pos h2]
  ·rw[if_neg h2,if_neg h2];rw[if_neg h1]
theorem Tg {m p:Nat} (v:Nat→Nat→Rat) (hp:p+1<m) (x y:Nat→Rat):det m (put (put v p x) (p+1) y)= - det m (put (put v p y) (p+1) x):=by
 have hz:det m (put (put v p fun i=>1*x i+1*y i) (p+1) fun i=>1*x i+1*y i)=0:=rQ (p:=p) _ hp fun i hi=>by
  simp[put]
 rw[rW 1 1 x y (p:=p+1) _ hp,put_comm v (show p≠p+1 by omega) _ x,put_comm v (show p≠p+1 by omega) _ y,rW 1 1 x y (p:=p) _ (by omega),rW 1 1 x y (p:=p) _ (by omega)] at hz
 have z1:det m (put (put v (p+1) x) p x)=0:=rQ (p:=p) _ hp fun i hi=>by simp[put]
 have z2:det m (put (put v (p+1) y) p y)=0:=rQ (p:=p) _ hp fun i hi=>by simp[put]
 rw[put_comm v (show p≠p+1 by omega) x y,put_comm v (show p≠p+1 by omega) y x]
 rw[z1,z2] at hz
 grind
theorem S7 {m:Nat} : ∀(d p:Nat) (v:Nat→Nat→Rat),p+1+d<m→(∀i,i<m→v p i=v (p+1+d) i)→det m v=0
 | 0, p, v, hp, h => rQ v hp h
 | d + 1, p, v, hp, h => by
   have e:v=put (put v (p+1+d) (v (p+1+d))) (p+1+d+1) (v (p+1+d+1)):=by rw[I9,I9]
   rw[e,Tg v (by omega)]
   have:det m (put (put v (p+1+d) (v (p+1+d+1))) (p+1+d+1) (v (p+1+d)))=0:=by
    refine S7 d p _ (by omega) fun i hi=> ?_
    unfold put
    rw[if_neg (show ¬ p=p+1+d+1 by omega),if_neg (show ¬ p=p+1+d by omega),if_neg (show ¬ p+1+d=p+1+d+1 by omega),if_pos rfl]
    exact h i hi
   rw[this];grind
theorem Qi {m p q:Nat} (v:Nat→Nat→Rat) (hp:p<m) (hq:q<m) (hn:p≠q) (h: ∀i,i<m→v p i=v q i):det m v=0:=by
 rcases Nat.lt_or_gt_of_ne hn with h1 | h1
 ·exact S7 (q - p - 1) p v (by omega) (by rw[show p+1+(q - p - 1)=q by omega];exact h)
 ·exact S7 (p - q - 1) q v (by omega) (by rw[show q+1+(p - q - 1)=p by omega];exact fun i hi=>(h i hi).symm)
theorem Pq {m p:Nat} (v:Nat→Nat→Rat) (hp:p<m):det m (put v p fun _=>0)=0:=by
 have:=rW 0 0 (fun _=>0) (fun _=>0) v hp
 simp only[Rat.zero_mul,Rat.zero_add] at this
 exact this
theorem Jd {m p:Nat} (v:Nat→Nat→Rat) (hp:p<m) (x:Nat→Rat) (u:Nat→Nat→Rat): ∀n,det m (put v p fun i=>S n fun j=>x j*u j i)=S n fun j=>x j*det m (put v p (u j))
 | 0 => by simp only [S]; exact Pq v hp
 | n + 1 => by
   have:=rW 1 (x n) (fun i=>S n fun j=>x j*u j i) (u n) v hp
   simp only[S]
   rw[←Jd v hp x u n]
   simp only[Rat.one_mul] at this
   exact this
theorem aA8 {m p:Nat} (v:Nat→Nat→Rat) (hp:p<m) (x y:Nat→Rat) (h: ∀i,i<m→y i=S m fun j=>x j*v j i):det m (put v p y)=x p*det m v:=by
 have e:det m (put v p y)=det m (put v p fun i=>S m fun j=>x j*v j i):=rY fun j i hj hi=>by
  unfold put;split
  ·exact h i hi
  ·rfl
 rw[e,Jd v hp,eG hp,I9]
 intro j hj hjp
 rw[Qi (p:=p) (q:=j) _ hp hj (Ne.symm hjp) (fun i hi=>by simp[put,hjp])]
 grind
def isInt (q:Rat):Prop:= ∃z:Int,q=z
theorem P2 {a b:Rat} :isInt a→isInt b→isInt (a+b):=fun⟨x,hx⟩ ⟨y,hy⟩=>⟨x+y,by rw[hx,hy,Rat.intCast_add]⟩
theorem lX {a b:Rat} :isInt a→isInt b→isInt (a*b):=fun⟨x,hx⟩ ⟨y,hy⟩=>⟨x*y,by rw[hx,hy,Rat.intCast_mul]⟩
theorem zR {f:Nat→Rat} : ∀ {n:Nat},(∀i,i<n→isInt (f i))→isInt (S n f)
 | 0, _ => ⟨0, rfl⟩
 | n + 1, h => P2 (zR fun i hi => h i (by omega)) (h n (by omega))
theorem Ra (j:Nat):isInt (sg j):=by
 unfold sg;split
 ·exact⟨1,rfl⟩
 ·exact⟨-1,rfl⟩
theorem X5 : ∀ {m:Nat} {v:Nat→Nat→Rat},(∀j i,j<m→i<m→isInt (v j i))→isInt (det m v)
 | 0, _, _ => ⟨1, rfl⟩
 | m + 1, v, h => by
   rw[det]
   refine zR fun j hj=>lX (lX (Ra j) (h j 0 hj (by omega))) (X5 fun c i hc hi=> ?_)
   unfold skip
   split
   ·exact h c (i+1) (by omega) (by omega)
   ·exact h (c+1) (i+1) (by omega) (by omega)
def lid (K:Nat):Nat→Nat
 | 0 => 1
 | m + 1 => (m + 1) * (K * lid K m)
theorem Ju {f:Nat→Rat} {B:Rat} : ∀ {n:Nat},(∀i,i<n→ -B≤f i∧f i≤B)→ -((n:Rat)*B)≤S n f∧S n f≤(n:Rat)*B
 | 0, _ => by simp [S]
 | n + 1, h => by
   have h1:=Ju (n:=n) fun i hi=>h i (by omega)
   have h2:=h n (by omega)
   rw[S,show((n+1:Nat):Rat)=(n:Rat)+1 by simp[Rat.natCast_add]]
   grind
theorem vF {a b A B:Rat} (ha: -A≤a∧a≤A) (hb: -B≤b∧b≤B): -(A*B)≤a*b∧a*b≤A*B:=by
 have h1:0≤(A - a)*(B+b):=Rat.mul_nonneg (by grind) (by grind)
 have h2:0≤(A+a)*(B - b):=Rat.mul_nonneg (by grind) (by grind)
 have h3:0≤(A - a)*(B - b):=Rat.mul_nonneg (by grind) (by grind)
 have h4:0≤(A+a)*(B+b):=Rat.mul_nonneg (by grind) (by grind)
 constructor<;>grind
theorem Hb {K:Nat} : ∀ {m:Nat} {v:Nat→Nat→Rat},(∀j i,j<m→i<m→ -(K:Rat)≤v j i∧v j i≤K)→ -(lid K m:Rat)≤det m v∧det m v≤lid K m
 | 0, _, _ => by simp [det, lid]; decide
 | m + 1, v, h => by
   rw[det,lid,Rat.natCast_mul,Rat.natCast_mul]
   refine Ju fun j hj=> ?_
   have h1:=h j 0 hj (by omega)
   have h2: -(lid K m:Rat)≤det m (skip v j)∧det m (skip v j)≤lid K m:=Hb fun c i hc hi=>by
    unfold skip
    split
    ·exact h c (i+1) (by omega) (by omega)
    ·exact h (c+1) (i+1) (by omega) (by omega)
   refine vF ?_ h2
   unfold sg
   split<;>grind
theorem Fs : ∀(m:Nat) (v:Nat→Nat→Rat),(∀j i,j<m→i<m→v j i=if j=i then 1 else 0)→det m v=1
 | 0, _, _ => rfl
 | m + 1, v, h => by
   rw[det,eG (k:=0) (by omega)]
   ·rw[h 0 0 (by omega) (by omega),if_pos rfl,Fs m (skip v 0) fun c i hc hi=> ?_]
    ·simp[sg]
    ·unfold skip
     rw[if_neg (by omega),h (c+1) (i+1) (by omega) (by omega)]
     by_cases e:c=i
     ·rw[if_pos e,if_pos (by omega)]
     ·rw[if_neg e,if_neg (by omega)]
   ·intro j hj h0
    rw[h j 0 hj (by omega),if_neg h0]
    grind

structure Tab where
 X:Nat→Nat→Rat
 bs:Nat→Nat
def piv (t:Tab) (r k:Nat):Tab:=⟨fun i c=>if i=r then t.X r c / t.X r k else t.X i c - t.X i k*(t.X r c / t.X r k),fun i=>if i=r then k else t.bs i⟩
structure TI (m : Nat) (E : Nat → Nat → Rat) (t : Tab) : Prop where
 row: ∀i,i<m→ ∃U:Nat→Rat,∀c,t.X i c=S m fun l=>U l*E l c
 col: ∀l,l<m→ ∀c,E l c=S m fun i=>t.X i c*E l (t.bs i)
 unit: ∀i j,i<m→j<m→t.X i (t.bs j)=if i=j then 1 else 0
theorem sR (t:Tab) (r k c:Nat):(piv t r k).X r c=t.X r c / t.X r k:=by simp[piv]
theorem nX (t:Tab) {r i:Nat} (k c:Nat) (h:i≠r):(piv t r k).X i c=t.X i c - t.X i k*(t.X r c / t.X r k):=by simp[piv,h]
theorem eE (t:Tab) (r k:Nat):(piv t r k).bs r=k:=by simp[piv]
theorem dE (t:Tab) {r i:Nat} (k:Nat) (h:i≠r):(piv t r k).bs i=t.bs i:=by simp[piv,h]
theorem Iw {m:Nat} (t:Tab) {r k:Nat} (hr:r<m) (hp:t.X r k≠0) (g:Nat→Rat) (c:Nat):
  S m (fun i=>(piv t r k).X i c*g ((piv t r k).bs i))=S m (fun i=>t.X i c*g (t.bs i)) - (t.X r c / t.X r k)*(S m (fun i=>t.X i k*g (t.bs i)) - g k):=by
 have e:S m (fun i=>(piv t r k).X i c*g ((piv t r k).bs i))=S m (fun i=>(t.X i c*g (t.bs i) - (t.X r c / t.X r k)*(t.X i k*g (t.bs i)))+if i=r then(t.X r c / t.X r k)*g k else 0):=bS fun i hi=>by
  by_cases h:i=r
  ·subst h
   rw[sR,eE,if_pos rfl]
   grind
  ·rw[nX t k c h,dE t k h,if_neg h]
   grind
 rw[e,Am,Q4,jV,eG (f:=fun i=>if i=r then(t.X r c / t.X r k)*g k else 0) hr (fun i _ h=>if_neg h),if_pos rfl]
 grind
theorem TI.piv {m:Nat} {E:Nat→Nat→Rat} {t:Tab} (h:TI m E t) {r k:Nat} (hr:r<m) (hp:t.X r k≠0):TI m E (piv t r k):=by
 refine⟨fun i hi=> ?_,fun l hl c=> ?_,fun i j hi hj=> ?_⟩
 ·obtain⟨V,hV⟩:=h.row r hr
  by_cases e:i=r
  ·subst e
   refine⟨fun l=>V l / t.X i k,fun c=> ?_⟩
   rw[sR,hV c]
   rw[show(fun l=>V l / t.X i k*E l c)=fun l=>(t.X i k)⁻¹*(V l*E l c) from funext fun l=>by grind,jV]
   grind
  ·obtain⟨U,hU⟩:=h.row i hi
   refine⟨fun l=>U l - t.X i k / t.X r k*V l,fun c=> ?_⟩
   rw[nX t k c e,hU c,hV c]
   rw[show(fun l=>(U l - t.X i k / t.X r k*V l)*E l c)=fun l=>U l*E l c - (t.X i k / t.X r k)*(V l*E l c) from funext fun l=>by grind,Q4,jV]
   grind
 ·rw[Iw t hr hp (fun x=>E l x) c,←h.col l hl c,←h.col l hl k]
  grind
 ·by_cases ej:j=r
  ·subst ej
   rw[eE]
   by_cases ei:i=j
   ·subst ei;rw[sR,if_pos rfl];grind
   ·rw[nX t k k ei,if_neg ei];grind
  ·rw[dE t k ej]
   have hrj:=h.unit r j hr hj
   rw[if_neg (Ne.symm ej)] at hrj
   by_cases ei:i=r
   ·subst ei;rw[sR,if_neg (Ne.symm ej),hrj];grind
   ·rw[nX t k _ ei,h.unit i j hi hj,hrj];grind
theorem TI.aA0 {m:Nat} {E:Nat→Nat→Rat} {t t':Tab} (h:TI m E t) (h':TI m E t') {i:Nat} (hi:i<m) (c:Nat):t'.X i c=S m fun j=>t.X j c*t'.X i (t.bs j):=by
 obtain⟨U,hU⟩:=h'.row i hi
 rw[hU c]
 have e1:S m (fun l=>U l*E l c)=S m fun l=>S m fun j=>t.X j c*(U l*E l (t.bs j)):=bS fun l hl=>by
  rw[h.col l hl c,←jV]
  exact bS fun j _=>by grind
 rw[e1,tO]
 refine bS fun j hj=> ?_
 rw[jV,hU (t.bs j)]
theorem TI.uniq {m:Nat} {E:Nat→Nat→Rat} {t t':Tab} (h:TI m E t) (h':TI m E t') (hb: ∀i,i<m→t.bs i=t'.bs i) {i:Nat} (hi:i<m) (c:Nat):t'.X i c=t.X i c:=by
 rw[h.aA0 h' hi c,eG hi]
 ·rw[hb i hi,h'.unit i i hi hi,if_pos rfl];grind
 ·intro j hj hne
  rw[hb j hj,h'.unit i j hi hj,if_neg (Ne.symm hne)];grind
theorem TI.inj {m:Nat} {E:Nat→Nat→Rat} {t:Tab} (h:TI m E t) {i j:Nat} (hi:i<m) (hj:j<m) (e:t.bs i=t.bs j):i=j:=by
 have h1:=h.unit i i hi hi
 have h2:=h.unit i j hi hj
 rw[←e,h1] at h2
 by_cases hij:i=j
 ·exact hij
 ·rw[if_pos rfl,if_neg hij] at h2;exact absurd h2 (by decide)
def rc (m:Nat) (w:Nat→Rat) (t:Tab) (c:Nat):Rat:=w c - S m fun i=>t.X i c*w (t.bs i)
theorem mI {m:Nat} {E:Nat→Nat→Rat} {t:Tab} (h:TI m E t) (w:Nat→Rat) {j:Nat} (hj:j<m):rc m w t (t.bs j)=0:=by
 unfold rc
 rw[eG hj,h.unit j j hj hj,if_pos rfl]
 ·grind
 ·intro i hi hne
  rw[h.unit i j hi hj,if_neg hne];grind
theorem Py {m:Nat} (w:Nat→Rat) (t:Tab) {r k:Nat} (hr:r<m) (hp:t.X r k≠0) (c:Nat):rc m w (piv t r k) c=rc m w t c - rc m w t k*(t.X r c / t.X r k):=by
 unfold rc
 rw[Iw t hr hp w c]
 grind
theorem Rn {m:Nat} {E:Nat→Nat→Rat} {t t':Tab} (h:TI m E t) (h':TI m E t') (w:Nat→Rat) (c:Nat):rc m w t' c=rc m w t c+S m fun i=>t.X i c*rc m w t' (t.bs i):=by
 unfold rc
 have e1:S m (fun i=>t.X i c*(w (t.bs i) - S m fun j=>t'.X j (t.bs i)*w (t'.bs j)))=S m (fun i=>t.X i c*w (t.bs i)) - S m fun j=>t'.X j c*w (t'.bs j):=by
  rw[show(fun i=>t.X i c*(w (t.bs i) - S m fun j=>t'.X j (t.bs i)*w (t'.bs j)))=fun i=>t.X i c*w (t.bs i) - S m fun j=>t.X i c*t'.X j (t.bs i)*w (t'.bs j) from funext fun i=>by
   rw[←show t.X i c*(S m fun j=>t'.X j (t.bs i)*w (t'.bs j))=S m fun j=>t.X i c*t'.X j (t.bs i)*w (t'.bs j) from by
    rw[←jV];exact bS fun j _=>by grind]
   grind,Q4,tO]
  congr 1
  refine bS fun j hj=> ?_
  rw[h.aA0 h' hj c,←pO]
 rw[e1]
 grind
def Sol (m N:Nat) (X:Nat→Nat→Rat) (b:Nat) (x:Nat→Rat):Prop:= ∀i,i<m→S N (fun c=>X i c*x c)=X i b
theorem qD {m:Nat} {E:Nat→Nat→Rat} {t:Tab} (h:TI m E t) (N b:Nat) (x:Nat→Rat):Sol m N E b x ↔ Sol m N t.X b x:=by
 constructor
 ·intro hE i hi
  obtain⟨U,hU⟩:=h.row i hi
  have e:S N (fun c=>t.X i c*x c)=S m fun l=>U l*S N fun c=>E l c*x c:=by
   rw[show(fun c=>t.X i c*x c)=fun c=>S m fun l=>U l*E l c*x c from funext fun c=>by rw[hU c,←pO],tO]
   refine bS fun l _=> ?_
   rw[←jV]
   exact bS fun c _=>by grind
  rw[e,hU b]
  exact bS fun l hl=>by rw[hE l hl]
 ·intro hX l hl
  have e:S N (fun c=>E l c*x c)=S m fun i=>(S N fun c=>t.X i c*x c)*E l (t.bs i):=by
   rw[show(fun c=>E l c*x c)=fun c=>S m fun i=>t.X i c*E l (t.bs i)*x c from funext fun c=>by rw[h.col l hl c,←pO],tO]
   refine bS fun i _=> ?_
   rw[←pO]
   exact bS fun c _=>by grind
  rw[e,h.col l hl b]
  exact bS fun i hi=>by rw[hX i hi]
def iX (Q:Nat) (v:Nat→Rat):Prop:= ∃q,q<Q∧0<v q∧ ∀j,j<q→v j=0
def G1 (Q:Nat) (v:Nat→Rat):Prop:= ∀q,q<Q→v q=0
theorem Xl : ∀(Q:Nat) (v:Nat→Rat),iX Q v∨G1 Q v∨iX Q fun q=> - v q
 | 0, v => .inr (.inl fun q hq => by omega)
 | Q + 1, v => by
   rcases Xl Q v with ⟨q,h1,h2,h3⟩| h | ⟨q,h1,h2,h3⟩
   ·exact .inl ⟨q,by omega,h2,h3⟩
   ·by_cases h0:0<v Q
    ·exact .inl ⟨Q,by omega,h0,fun j hj=>h j hj⟩
    ·by_cases h1:v Q=0
     ·refine .inr (.inl fun q hq=> ?_)
      by_cases e:q=Q
      ·rw[e];exact h1
      ·exact h q (by omega)
     ·exact .inr (.inr ⟨Q,by omega,by grind,fun j hj=>by have:=h j hj;grind⟩)
   ·exact .inr (.inr ⟨q,by omega,h2,h3⟩)
theorem jD {Q:Nat} {v:Nat→Rat} (h:iX Q v) (h0:G1 Q v):False:=by
 obtain⟨q,h1,h2,_⟩:=h
 rw[h0 q h1] at h2
 exact absurd h2 (by decide)
theorem Y6 {Q:Nat} {v:Nat→Rat} (h:iX Q v) (h':iX Q fun q=> - v q):False:=by
 obtain⟨q,h1,h2,h3⟩:=h
 obtain⟨q',h1',h2',h3'⟩:=h'
 rcases Nat.lt_trichotomy q q' with h | h | h
 ·have:=h3' q h;grind
 ·subst h;grind
 ·have:=h3 q' h;grind
theorem Ba {Q:Nat} {u v:Nat→Rat} (h:iX Q u) (h':iX Q v):iX Q fun q=>u q+v q:=by
 obtain⟨q,h1,h2,h3⟩:=h
 obtain⟨q',h1',h2',h3'⟩:=h'
 rcases Nat.lt_trichotomy q q' with h | h | h
 ·exact⟨q,h1,by have:=h3' q h;grind,fun j hj=>by have:=h3 j hj;have:=h3' j (by omega);grind⟩
 ·subst h;exact⟨q,h1,by grind,fun j hj=>by have:=h3 j hj;have:=h3' j hj;grind⟩
 ·exact⟨q',h1',by have:=h3 q' h;grind,fun j hj=>by have:=h3 j (by omega);have:=h3' j hj;grind⟩
theorem O9 {Q:Nat} {u v:Nat→Rat} (h:iX Q u) (h':G1 Q v):iX Q fun q=>u q+v q:=by
 obtain⟨q,h1,h2,h3⟩:=h
 exact⟨q,h1,by have:=h' q h1;grind,fun j hj=>by have:=h3 j hj;have:=h' j (by omega);grind⟩
theorem uY {Q:Nat} {v:Nat→Rat} {a:Rat} (ha:0<a) (h:iX Q v):iX Q fun q=>a*v q:=by
 obtain⟨q,h1,h2,h3⟩:=h
 exact⟨q,h1,Rat.mul_pos ha h2,fun j hj=>by have:=h3 j hj;grind⟩
theorem eO {Q:Nat} {u v:Nat→Rat} (h:iX Q u) (e: ∀q,q<Q→u q=v q):iX Q v:=by
 obtain⟨q,h1,h2,h3⟩:=h
 exact⟨q,h1,by rw[←e q h1];exact h2,fun j hj=>by rw[←e j (by omega)];exact h3 j hj⟩
theorem B3 {Q:Nat} {f:Nat→Nat→Rat} : ∀ {n:Nat} {u:Nat→Rat},iX Q u→(∀i,i<n→iX Q (f i)∨G1 Q (f i))→iX Q fun q=>u q+S n fun i=>f i q
 | 0, u, h, _ => eO h fun q _ => by rw [S]; grind
 | n + 1, u, h, hf => by
   have ih:=B3 (n:=n) h fun i hi=>hf i (by omega)
   rcases hf n (by omega) with h1 | h1
   ·exact eO (Ba ih h1) fun q _=>by rw[S];grind
   ·exact eO (O9 ih h1) fun q _=>by rw[S];grind

structure Step (m b Q : Nat) (w : Nat → Nat → Rat) (F : Nat → Prop) (t : Tab) (r k : Nat) : Prop where
 hF:F k
 pos:iX Q fun q=>rc m (w q) t k
 first: ∀j,F j→j<k→ ¬ iX Q fun q=>rc m (w q) t j
 hr:r<m
 prk:0<t.X r k
 min: ∀i,i<m→0<t.X i k→t.X r b*t.X i k≤t.X i b*t.X r k
 tie: ∀i,i<m→0<t.X i k→t.X i b*t.X r k=t.X r b*t.X i k→t.bs r≤t.bs i
theorem gW (a b:Rat):a≤b∨b<a:=by grind
theorem aBF {a b:Rat} (ha:0≤a) (hb:0<b):0≤a / b:=by
 rcases gW 0 (a / b) with h | h
 ·exact h
 ·have h1:0<(- (a / b))*b:=Rat.mul_pos (by grind) hb
  have h2:a / b*b=a:=by grind
  grind
theorem Zw {a b:Rat} (ha:0<a) (hb:0<b):0<a / b:=by
 rcases gW (a / b) 0 with h | h
 ·have h1:0≤(- (a / b))*b:=Rat.mul_nonneg (by grind) (by grind)
  have h2:a / b*b=a:=by grind
  grind
 ·exact h
theorem Step.rhs {m b Q:Nat} {w:Nat→Nat→Rat} {F:Nat→Prop} {t:Tab} {r k:Nat} (h:Step m b Q w F t r k) (hb: ∀i,i<m→0≤t.X i b): ∀i,i<m→0≤(piv t r k).X i b:=by
 intro i hi
 have hr:=hb r h.hr
 have hth:=aBF hr h.prk
 by_cases e:i=r
 ·subst e;rw[sR];exact hth
 ·rw[nX t k b e]
  have hpk:=h.prk
  have h2:t.X r b / t.X r k*t.X r k=t.X r b:=by grind
  generalize t.X r b / t.X r k=θ at *
  by_cases hp:0<t.X i k
  ·have h1:=h.min i hi hp
   rw[←h2] at h1
   rcases gW 0 (t.X i b - t.X i k*θ) with h4 | h4
   ·exact h4
   ·have:=Rat.mul_pos (show 0< -(t.X i b - t.X i k*θ) by grind) hpk
    grind
  ·have h1:=hb i hi
   have h2:0≤(- t.X i k)*θ:=Rat.mul_nonneg (by grind) hth
   grind
theorem max_lt (f:Nat→Nat): ∀n,0<n→ ∃i,i<n∧ ∀j,j<n→f j≤f i
 | 1, _ => ⟨0, by omega, fun j hj => by rw [show j = 0 by omega]; exact Nat.le_refl _⟩
 | n + 2, _ => by
   obtain⟨i,h1,h2⟩:=max_lt f (n+1) (by omega)
   rcases Nat.lt_or_ge (f i) (f (n+1)) with h | h
   ·exact⟨n+1,by omega,fun j hj=>by
     by_cases e:j=n+1
     ·rw[e];exact Nat.le_refl _
     ·have:=h2 j (by omega);omega⟩
   ·exact⟨i,by omega,fun j hj=>by
     by_cases e:j=n+1
     ·rw[e];exact h
     ·exact h2 j (by omega)⟩
theorem aBO {P:Nat→Prop} {a c:Nat} (hac:a≤c) (ha:P a) (hc: ¬ P c): ∃n,a≤n∧n<c∧P n∧ ¬ P (n+1):=by
 induction c with
 | zero => exact absurd (by rw [show (0 : Nat) = a by omega]; exact ha) hc
 | succ c ih =>
   by_cases h:P c
   ·exact⟨c,by
     by_cases e:a=c+1
     ·exact absurd (e▸ha) hc
     ·omega,by omega,h,hc⟩
   ·have aV4:a≤c:=by
     by_cases e:a=c+1
     ·exact absurd (e▸ha) hc
     ·omega
    obtain⟨n,h1,h2,h3,h4⟩:=ih aV4 h
    exact⟨n,h1,by omega,h3,h4⟩
section
variable {m b Q L : Nat} {E : Nat → Nat → Rat} {w : Nat → Nat → Rat} {F : Nat → Prop} {t : Nat → Tab} {r k : Nat → Nat}
theorem aKD (hT: ∀n,n≤L→TI m E (t n)) (hb: ∀n,n≤L→ ∀i,i<m→0≤(t n).X i b) (hs: ∀n,n<L→Step m b Q w F (t n) (r n) (k n)) (hn: ∀n,n<L→t (n+1)=piv (t n) (r n) (k n))
  (hL:0<L) (he: ∀i,i<m→(t 0).bs i=(t L).bs i):False:=by
 have hne: ∀n,n<L→(t n).X (r n) (k n)≠0:=fun n h=>by have:=(hs n h).prk;grind
 have huq: ∀i,i<m→ ∀c,(t L).X i c=(t 0).X i c:=fun i hi c=>(hT 0 (by omega)).uniq (hT L (Nat.le_refl _)) he hi c
 have hzL: ∀q,rc m (w q) (t L) b=rc m (w q) (t 0) b:=fun q=>by
  unfold rc
  congr 1
  exact bS fun i hi=>by rw[huq i hi,he i hi]
 have aTW: ∀n,n≤L→(iX Q (fun q=>rc m (w q) (t 0) b - rc m (w q) (t n) b)∨(G1 Q fun q=>rc m (w q) (t 0) b - rc m (w q) (t n) b)∧ ∀n',n'<n→(t n').X (r n') b=0):=by
  intro n
  induction n with
  | zero => exact fun _ => .inr ⟨fun q _ => by grind, fun n' h => by omega⟩
  | succ n ih =>
    intro hnl
    have hst:=hs n (by omega)
    have hr0:=hb n (by omega) (r n) hst.hr
    have Tr: ∀q,rc m (w q) (t (n+1)) b=rc m (w q) (t n) b - rc m (w q) (t n) (k n)*((t n).X (r n) b / (t n).X (r n) (k n)):=fun q=>by
     rw[hn n (by omega),Py _ _ hst.hr (hne n (by omega))]
    by_cases hz:(t n).X (r n) b=0
    ·have e: ∀q,rc m (w q) (t (n+1)) b=rc m (w q) (t n) b:=fun q=>by rw[Tr q,hz];grind
     rcases ih (by omega) with h | ⟨h1,h2⟩
     ·exact .inl (eO h fun q _=>by rw[e q])
     ·exact .inr ⟨fun q hq=>by have:=h1 q hq;simp only at this ⊢;rw[e q];exact this,fun n' h=>by
       by_cases en:n'=n
       ·rw[en];exact hz
       ·exact h2 n' (by omega)⟩
    ·have hth:=Zw (show 0<(t n).X (r n) b by grind) hst.prk
     have hp:=uY hth hst.pos
     refine .inl ?_
     rcases ih (by omega) with h | ⟨h1,h2⟩
     ·exact eO (Ba h hp) fun q _=>by rw[Tr q];grind
     ·exact eO (O9 hp h1) fun q _=>by rw[Tr q];grind
 have hz: ∀n,n<L→(t n).X (r n) b=0:=by
  rcases aTW L (Nat.le_refl _) with h | ⟨_,h⟩
  ·exact absurd (fun q _=>by have:=hzL q;grind) fun h0=>jD h h0
  ·exact h
 have hconst: ∀n,n<L→ ∀i,i<m→(t (n+1)).X i b=(t n).X i b:=fun n h i hi=>by
  rw[hn n h]
  by_cases e:i=r n
  ·subst e;rw[sR,hz n h];grind
  ·rw[nX _ _ _ e,hz n h];grind
 have Tp: ∀n,n≤L→ ∀c,(∃i,i<m∧(t n).bs i=c)→ ¬ iX Q fun q=>rc m (w q) (t n) c:=fun n h c ⟨i,hi,hc⟩ hp=>
  jD hp fun q _=>by rw[←hc];exact mI (hT n h) _ hi
 have Ql: ∀n,n<L→ ∀c,(∃i,i<m∧(t n).bs i=c)→ ¬ (∃i,i<m∧(t (n+1)).bs i=c)→(t n).bs (r n)=c:=fun n h c ⟨i,hi,hc⟩ hno=>by
  by_cases e:i=r n
  ·rw[←e];exact hc
  ·exact absurd ⟨i,hi,by rw[hn n h,dE _ _ e];exact hc⟩ hno
 have aD4: ∀n,n<L→ ∀c, ¬ (∃i,i<m∧(t n).bs i=c)→(∃i,i<m∧(t (n+1)).bs i=c)→k n=c:=fun n h c hno ⟨i,hi,hc⟩=>by
  rw[hn n h] at hc
  by_cases e:i=r n
  ·rw[e,eE] at hc;exact hc
  ·rw[dE _ _ e] at hc;exact absurd ⟨i,hi,hc⟩ hno
 have aKM: ∀c,(∃i,i<m∧(t 0).bs i=c) ↔ (∃i,i<m∧(t L).bs i=c):=fun c=>by
  constructor
  ·rintro⟨i,hi,h⟩;exact⟨i,hi,by rw[←he i hi];exact h⟩
  ·rintro⟨i,hi,h⟩;exact⟨i,hi,by rw[he i hi];exact h⟩
 obtain⟨n1,hn1,aNI⟩:=max_lt k L hL
 have aWW: ¬ (∃i,i<m∧(t n1).bs i=k n1):=fun h=>Tp n1 (by omega) _ h (hs n1 hn1).pos
 have aWC: ∃i,i<m∧(t (n1+1)).bs i=k n1:=⟨r n1,(hs n1 hn1).hr,by rw[hn n1 hn1,eE]⟩
 obtain⟨n0,hn0,hl0⟩: ∃n0,n0<L∧(t n0).bs (r n0)=k n1:=by
  by_cases h0: ∃i,i<m∧(t 0).bs i=k n1
  ·obtain⟨n,_,h2,h3,h4⟩:=aBO (P:=fun n=> ∃i,i<m∧(t n).bs i=k n1) (Nat.zero_le n1) h0 aWW
   exact⟨n,by omega,Ql n (by omega) _ h3 h4⟩
  ·have hL0: ¬ ∃i,i<m∧(t L).bs i=k n1:=fun h=>h0 ((aKM _).2 h)
   obtain⟨n,_,h2,h3,h4⟩:=aBO (P:=fun n=> ∃i,i<m∧(t n).bs i=k n1) (show n1+1≤L by omega) aWC hL0
   exact⟨n,by omega,Ql n (by omega) _ h3 h4⟩
 have Ff:=hs n0 hn0
 have aDF:=hs n1 hn1
 have hT0:=hT n0 (by omega)
 have hT1:=hT n1 (by omega)
 have hs1:k n0<k n1:=by
  rcases Nat.lt_or_ge (k n0) (k n1) with h | h
  ·exact h
  ·have e:k n0=k n1:=by have:=aNI n0 hn0;omega
   exact absurd Ff.pos (Tp n0 (by omega) _ ⟨r n0,Ff.hr,by rw[hl0,e]⟩)
 have hnp:=aDF.first (k n0) Ff.hF hs1
 have hex: ∃i,i<m∧iX Q fun q=> - ((t n0).X i (k n0)*rc m (w q) (t n1) ((t n0).bs i)):=by
  rcases Classical.em (∃i,i<m∧iX Q fun q=> - ((t n0).X i (k n0)*rc m (w q) (t n1) ((t n0).bs i))) with h | h
  ·exact h
  ·refine absurd ?_ hnp
   have:=B3 (n:=m) (f:=fun i q=>(t n0).X i (k n0)*rc m (w q) (t n1) ((t n0).bs i)) Ff.pos fun i hi=>by
    rcases Xl Q fun q=>(t n0).X i (k n0)*rc m (w q) (t n1) ((t n0).bs i) with h1 | h1 | h1
    ·exact .inl h1
    ·exact .inr h1
    ·exact absurd ⟨i,hi,h1⟩ h
   exact eO this fun q _=>(Rn hT0 hT1 (w q) (k n0)).symm
 obtain⟨i,hi,cO⟩:=hex
 obtain⟨c,hc⟩: ∃c,(t n0).bs i=c:=⟨_,rfl⟩
 rw[hc] at cO
 have hnb: ¬ (∃j,j<m∧(t n1).bs j=c):=fun⟨j,hj,h⟩=>by
  refine jD cO fun q _=> ?_
  rw[←h,mI hT1 _ hj];grind
 have aJD: ∃n,n<L∧k n=c:=by
  have hin: ∃j,j<m∧(t n0).bs j=c:=⟨i,hi,hc⟩
  have go: ∀a e,a≤e→e≤L→ ¬ (∃j,j<m∧(t a).bs j=c)→(∃j,j<m∧(t e).bs j=c)→ ∃n,n<L∧k n=c:=fun a e h1 h2 h3 h4=>by
   obtain⟨n,_,g2,g3,g4⟩:=aBO (P:=fun n=> ¬ ∃j,j<m∧(t n).bs j=c) h1 h3 (fun h=>h h4)
   exact⟨n,by omega,aD4 n (by omega) c g3 (Classical.not_not.1 g4)⟩
  rcases Nat.lt_or_ge n1 n0 with h | h
  ·exact go n1 n0 (by omega) (by omega) hnb hin
  ·by_cases h0: ∃j,j<m∧(t 0).bs j=c
   ·exact go n1 L (by omega) (Nat.le_refl _) hnb ((aKM c).1 h0)
   ·exact go 0 n0 (by omega) (by omega) h0 hin
 obtain⟨nc,hnc,hkc⟩:=aJD
 have aY6:c≤k n1:=by rw[←hkc];exact aNI nc hnc
 have Es: ∀n,n≤L→ ∀j,j<m→(t n).bs j=c→(t n).X j b=0:=by
  have fwd: ∀n,n<L→(∀j,j<m→(t n).bs j=c→(t n).X j b=0)→ ∀j,j<m→(t (n+1)).bs j=c→(t (n+1)).X j b=0:=fun n h ih j hj hbj=>by
   rw[hconst n h j hj]
   by_cases e:j=r n
   ·rw[e];exact hz n h
   ·rw[hn n h,dE _ _ e] at hbj;exact ih j hj hbj
  have bwd: ∀n,n<L→(∀j,j<m→(t (n+1)).bs j=c→(t (n+1)).X j b=0)→ ∀j,j<m→(t n).bs j=c→(t n).X j b=0:=fun n h ih j hj hbj=>by
   by_cases e:j=r n
   ·rw[e];exact hz n h
   ·rw[←hconst n h j hj]
    exact ih j hj (by rw[hn n h,dE _ _ e];exact hbj)
  have h1: ∀j,j<m→(t n1).bs j=c→(t n1).X j b=0:=fun j hj h=>absurd ⟨j,hj,h⟩ hnb
  intro n hnL
  rcases Nat.le_total n n1 with h | h
  ·have: ∀d,d≤n1→ ∀j,j<m→(t (n1 - d)).bs j=c→(t (n1 - d)).X j b=0:=by
    intro d
    induction d with
    | zero => exact fun _ => h1
    | succ d ih =>
      intro hd
      refine bwd (n1 - (d+1)) (by omega) ?_
      rw[show n1 - (d+1)+1=n1 - d by omega]
      exact ih (by omega)
   have:=this (n1 - n) (by omega)
   rwa [show n1 - (n1 - n)=n by omega] at this
  ·have: ∀d,n1+d≤L→ ∀j,j<m→(t (n1+d)).bs j=c→(t (n1+d)).X j b=0:=by
    intro d
    induction d with
    | zero => exact fun _ => h1
    | succ d ih => exact fun hd => fwd (n1 + d) (by omega) (ih (by omega))
   have:=this (n - n1) (by omega)
   rwa [show n1+(n - n1)=n by omega] at this
 have hxi:(t n0).X i b=0:=Es n0 (by omega) i hi hc
 have hFc:F c:=by rw[←hkc];exact(hs nc hnc).hF
 have hx0:(t n0).X i (k n0)≠0:=fun h=>jD cO fun q _=>by rw[h];grind
 have aWI:(0<(t n0).X i (k n0))∧c≠k n1:=by
  rcases gW ((t n0).X i (k n0)) 0 with h | h
  ·
   have hp:iX Q fun q=>rc m (w q) (t n1) c:=by
    have:=uY (Zw (show(0:Rat)<1 by decide) (show 0< - (t n0).X i (k n0) by grind)) cO
    exact eO this fun q _=>by grind
   have hge: ¬ c<k n1:=fun hl=>aDF.first c hFc hl hp
   have e:c=k n1:=by omega
   have:i=r n0:=hT0.inj hi Ff.hr (by rw[hc,hl0,e])
   rw[this] at h
   have:=Ff.prk
   grind
  ·refine⟨h,fun e=> ?_⟩
   have hp:=uY h aDF.pos
   rw[e] at cO
   exact Y6 hp cO
 have aVH:=Ff.tie i hi aWI.1 (by rw[hxi,hz n0 hn0];grind)
 rw[hl0,hc] at aVH
 omega
end
theorem Fv {α:Type} [DecidableEq α]: ∀(l:List α) (f:Nat→α),(∀n,n≤l.length→f n∈l)→ ∃a b,a<b∧b≤l.length∧f a=f b
 | [], f, h => absurd (h 0 (Nat.le_refl _)) (by simp)
 | x :: l, f, h => by
   rcases Classical.em (∃n0,n0≤l.length+1∧f n0=x) with ⟨n0,h0,hx⟩| hno
   ·rcases Classical.em (∃n1,n1≤l.length+1∧n1≠n0∧f n1=x) with ⟨n1,h1,hne,hx1⟩| hno
    ·rcases Nat.lt_or_gt_of_ne hne with h | h
     ·exact⟨n1,n0,h,by simpa using h0,by rw[hx,hx1]⟩
     ·exact⟨n0,n1,h,by simpa using h1,by rw[hx,hx1]⟩
    ·obtain⟨a,b,h1,h2,h3⟩:=Fv l (fun n=>if n<n0 then f n else f (n+1)) fun n hn=>by
      have hm: ∀k,k≤l.length+1→k≠n0→f k∈l:=fun k hk hkn=>by
       have:=h k (by simpa using hk)
       rcases List.mem_cons.1 this with e | e
       ·exact absurd ⟨k,hk,hkn,e⟩ hno
       ·exact e
      split
      ·exact hm n (by omega) (by omega)
      ·exact hm (n+1) (by omega) (by omega)
     by_cases ha:a<n0
     ·by_cases hb:b<n0
      ·simp only[ha,hb,if_true] at h3
       exact⟨a,b,h1,by simp;omega,h3⟩
      ·simp only[ha,hb,if_true,if_false] at h3
       exact⟨a,b+1,by omega,by simp;omega,h3⟩
     ·simp only[ha,show ¬ b<n0 by omega,if_false] at h3
      exact⟨a+1,b+1,by omega,by simp;omega,h3⟩
   ·obtain⟨a,b,h1,h2,h3⟩:=Fv l f fun n hn=>by
     rcases List.mem_cons.1 (h n (by simp;omega)) with e | e
     ·exact absurd ⟨n,by omega,e⟩ hno
     ·exact e
    exact⟨a,b,h1,by simp;omega,h3⟩
def allL (N:Nat):Nat→List (List Nat)
 | 0 => [[]]
 | m + 1 => (allL N m).flatMap fun l => (List.range N).map fun x => l ++ [x]
theorem Z9 (N:Nat) (f:Nat→Nat): ∀m,(∀i,i<m→f i<N)→(List.range m).map f∈allL N m
 | 0, _ => by simp [allL]
 | m + 1, h => by
   rw[allL,List.mem_flatMap]
   exact⟨_,Z9 N f m fun i hi=>h i (by omega),List.mem_map.2 ⟨f m,by simpa using h m (by omega),by simp[List.range_succ]⟩⟩
def orb (nx:Tab→Option (Nat×Nat)) (t:Tab):Nat→Tab
 | 0 => t
 | n + 1 => match nx (orb nx t n) with
   | some (r,k)=>piv (orb nx t n) r k
   | none=>orb nx t n

structure kB (n m : Nat) (E : Nat → Nat → Rat) (b : Nat) (x : Nat → Rat) : Prop where
 nn: ∀c,c<n→0≤x c
 sol:Sol m n E b x
def dot (n:Nat) (w x:Nat→Rat):Rat:=S n fun c=>w c*x c
theorem Y1 {n m b:Nat} (w:Nat→Rat) (t:Tab) {x:Nat→Rat} (h:Sol m n t.X b x):dot n w x=dot n (rc m w t) x - rc m w t b+w b:=by
 have e:dot n (rc m w t) x=dot n w x - S m fun i=>w (t.bs i)*S n fun c=>t.X i c*x c:=by
  unfold dot rc
  rw[show(fun c=>(w c - S m fun i=>t.X i c*w (t.bs i))*x c)=fun c=>w c*x c - S m fun i=>w (t.bs i)*(t.X i c*x c) from funext fun c=>by
   rw[show(S m fun i=>w (t.bs i)*(t.X i c*x c))=(S m fun i=>t.X i c*w (t.bs i))*x c by rw[←pO];exact bS fun i _=>by grind]
   grind,Q4,tO]
  congr 1
  exact bS fun i _=>by rw[jV]
 have e2:(S m fun i=>w (t.bs i)*S n fun c=>t.X i c*x c)=S m fun i=>t.X i b*w (t.bs i):=bS fun i hi=>by rw[h i hi];grind
 rw[e,e2]
 unfold rc
 grind
def xb (m b:Nat) (t:Tab) (c:Nat):Rat:=S m fun i=>if t.bs i=c then t.X i b else 0
theorem aMD {m b:Nat} {E:Nat→Nat→Rat} {t:Tab} (h:TI m E t) {i:Nat} (hi:i<m):xb m b t (t.bs i)=t.X i b:=by
 unfold xb
 rw[eG hi,if_pos rfl]
 intro j hj hne
 rw[if_neg fun e=>hne (h.inj hj hi e)]
theorem aEU {m b:Nat} {t:Tab} {c:Nat} (h: ∀i,i<m→t.bs i≠c):xb m b t c=0:=jU fun i hi=>if_neg (h i hi)
theorem aK2 {m b:Nat} {t:Tab} (h: ∀i,i<m→0≤t.X i b) (c:Nat):0≤xb m b t c:=jX fun i hi=>by
 split
 ·exact h i hi
 ·exact Rat.le_refl
theorem A4 {n m:Nat} (bs:Nat→Nat) (f g:Nat→Rat) (hz: ∀i,i<m→ ¬ bs i<n→f i=0):(S n fun c=>g c*S m fun i=>if bs i=c then f i else 0)=S m fun i=>f i*g (bs i):=by
 rw[show(fun c=>g c*S m fun i=>if bs i=c then f i else 0)=fun c=>S m fun i=>if bs i=c then f i*g c else 0 from funext fun c=>by
  rw[←jV]
  exact bS fun i _=>by split<;>grind,tO]
 refine bS fun i hi=> ?_
 by_cases h:bs i<n
 ·rw[eG h,if_pos rfl]
  intro c hc hne
  rw[if_neg (Ne.symm hne)]
 ·rw[jU,hz i hi h]
  ·grind
  ·intro c hc
   rw[if_neg (by omega)]
theorem aBB {n m b:Nat} {E:Nat→Nat→Rat} {t:Tab} (h:TI m E t) (hz: ∀i,i<m→ ¬ t.bs i<n→t.X i b=0):Sol m n t.X b (xb m b t):=by
 intro i hi
 unfold xb
 rw[A4 t.bs (fun j=>t.X j b) (t.X i) hz,eG hi,h.unit i i hi hi,if_pos rfl]
 ·grind
 ·intro j hj hne
  rw[h.unit i j hi hj,if_neg (Ne.symm hne)];grind
theorem uR {n m b:Nat} {E:Nat→Nat→Rat} {t:Tab} (h:TI m E t) (hb: ∀i,i<m→0≤t.X i b) (hz: ∀i,i<m→ ¬ t.bs i<n→t.X i b=0):kB n m E b (xb m b t):=
 ⟨fun c _=>aK2 hb c,(qD h n b _).2 (aBB h hz)⟩
def bK (n m:Nat) (c:Nat):Rat:=if n≤c∧c<n+m then -1 else 0
theorem vY {n m b:Nat} {t:Tab} (hb:b=n+m):rc m (bK n m) t b=S m fun i=>if n≤t.bs i∧t.bs i<n+m then t.X i b else 0:=by
 unfold rc
 rw[show bK n m b=0 by unfold bK;rw[if_neg (by omega)]]
 rw[show(fun i=>if n≤t.bs i∧t.bs i<n+m then t.X i b else 0)=fun i=>(-1)*(t.X i b*bK n m (t.bs i)) from funext fun i=>by
  unfold bK;split<;>grind,jV]
 grind
theorem Ko {n m b:Nat} {E:Nat→Nat→Rat} {t:Tab} (hb:b=n+m) (h:TI m E t) (hnn: ∀i,i<m→0≤t.X i b) (Ld: ∀c,c<n→rc m (bK n m) t c≤0) (hp:0<rc m (bK n m) t b) (x:Nat→Rat): ¬ kB n m E b x:=by
 intro hx
 have h1:=Y1 (bK n m) t ((qD h n b x).1 hx.sol)
 have h2:dot n (bK n m) x=0:=jU fun c hc=>by unfold bK;rw[if_neg (by omega)];grind
 have h3:bK n m b=0:=by unfold bK;rw[if_neg (by omega)]
 have h4:dot n (rc m (bK n m) t) x≤0:=by
  have:0≤S n fun c=> - rc m (bK n m) t c*x c:=jX fun c hc=>Rat.mul_nonneg (by have:=Ld c hc;grind) (hx.nn c hc)
  have e:(S n fun c=> - rc m (bK n m) t c*x c)=(-1)*dot n (rc m (bK n m) t) x:=by
   unfold dot;rw[←jV];exact bS fun c _=>by grind
  grind
 grind
theorem Uj {n m b:Nat} {t:Tab} (hb:b=n+m) (hnn: ∀i,i<m→0≤t.X i b) (hz:rc m (bK n m) t b=0) (hlt: ∀i,i<m→t.bs i<n+m): ∀i,i<m→ ¬ t.bs i<n→t.X i b=0:=by
 intro i hi hge
 rw[vY hb] at hz
 rcases gW (t.X i b) 0 with h | h
 ·have:=hnn i hi;grind
 ·have:=Uc (f:=fun i=>if n≤t.bs i∧t.bs i<n+m then t.X i b else 0) (k:=i) (n:=m) (fun j hj=>by
   split
   ·exact hnn j hj
   ·exact Rat.le_refl) hi (by
    have:=hlt i hi
    rw[if_pos (by omega)];exact h)
  grind
def wl (C:Nat→Rat):Nat→Nat→Rat
 | 0 => C
 | q + 1 => fun c => if c = q then -1 else 0
def tL (n m:Nat) (E:Nat→Nat→Rat) (b:Nat) (C x:Nat→Rat):Prop:=kB n m E b x∧ ∀y,kB n m E b y→ ¬ iX (n+1) fun q=>dot n (wl C q) y - dot n (wl C q) x
theorem Z4 {n c:Nat} (hc:c<n) (C x:Nat→Rat):dot n (wl C (c+1)) x= - x c:=by
 unfold dot wl
 rw[eG hc]
 ·simp;grind
 ·intro i _ hne
  simp only[if_neg hne];grind
theorem Kg {n m b:Nat} {E:Nat→Nat→Rat} {C x y:Nat→Rat} (hx:tL n m E b C x) (hy:tL n m E b C y): ∀c,c<n→x c=y c:=by
 intro c hc
 have hz:G1 (n+1) fun q=>dot n (wl C q) y - dot n (wl C q) x:=by
  rcases Xl (n+1) fun q=>dot n (wl C q) y - dot n (wl C q) x with h | h | h
  ·exact absurd h (hx.2 y hy.1)
  ·exact h
  ·exact absurd (eO h fun q _=>by grind) (hy.2 x hx.1)
 have:=hz (c+1) (by omega)
 simp only at this
 rw[Z4 hc,Z4 hc] at this
 grind
theorem Qe {n m b:Nat} {E:Nat→Nat→Rat} {t:Tab} {C:Nat→Rat} (h:TI m E t) (hb: ∀i,i<m→0≤t.X i b) (hz: ∀i,i<m→ ¬ t.bs i<n→t.X i b=0) (Ld: ∀c,c<n→ ¬ iX (n+1) fun q=>rc m (wl C q) t c):tL n m E b C (xb m b t):=by
 have hf:=uR h hb hz
 refine⟨hf,fun y hy hp=> ?_⟩
 have h1: ∀q,dot n (wl C q) y - dot n (wl C q) (xb m b t)=S n fun c=>y c*rc m (wl C q) t c:=fun q=>by
  have e1:=Y1 (wl C q) t ((qD h n b y).1 hy.sol)
  have e2:=Y1 (wl C q) t ((qD h n b _).1 hf.sol)
  have e3:dot n (rc m (wl C q) t) (xb m b t)=0:=by
   unfold dot xb
   rw[A4 t.bs (fun j=>t.X j b) (rc m (wl C q) t) hz]
   exact jU fun i hi=>by rw[mI h _ hi];grind
  have e4:dot n (rc m (wl C q) t) y=S n fun c=>y c*rc m (wl C q) t c:=bS fun c _=>by grind
  grind
 have h2:=B3 (n:=n) (f:=fun c q=> - (y c*rc m (wl C q) t c)) hp fun c hc=>by
  have hy0:=hy.nn c hc
  rcases Xl (n+1) fun q=>rc m (wl C q) t c with g | g | g
  ·exact absurd g (Ld c hc)
  ·exact .inr fun q hq=>by have:=g q hq;simp only at this ⊢;rw[this];grind
  ·rcases gW (y c) 0 with k | k
   ·exact .inr fun q hq=>by
     have:y c=0:=by grind
     simp only;rw[this];grind
   ·exact .inl (eO (uY k g) fun q _=>by grind)
 refine jD h2 fun q _=> ?_
 have:(S n fun c=> - (y c*rc m (wl C q) t c))=(-1)*S n fun c=>y c*rc m (wl C q) t c:=by rw[←jV];exact bS fun c _=>by grind
 rw[h1 q,this];grind
def Unb (n m:Nat) (E:Nat→Nat→Rat) (b:Nat) (C:Nat→Rat):Prop:= ∀x,kB n m E b x→ ∃y,kB n m E b y∧dot n C x<dot n C y
theorem X4 {n m b:Nat} {E:Nat→Nat→Rat} {C x:Nat→Rat} (h:Unb n m E b C) (hx:tL n m E b C x):False:=by
 obtain⟨y,h1,h2⟩:=h x hx.1
 exact hx.2 y h1 ⟨0,by omega,by simp only[wl];grind,fun j hj=>by omega⟩
theorem Xz {n m b:Nat} {E:Nat→Nat→Rat} {t:Tab} {C:Nat→Rat} {j:Nat} (h:TI m E t) (hj:j<n) (hle: ∀i,i<m→t.X i j≤0) (hz: ∀i,i<m→ ¬ t.bs i<n→t.X i j=0) (hg:0<rc m C t j):Unb n m E b C:=by
 intro x hx
 have hnb: ∀i,i<m→t.bs i≠j:=fun i hi e=>by
  have:=h.unit i i hi hi
  rw[e,if_pos rfl] at this
  have:=hle i hi
  grind
 let y:Nat→Rat:=fun c=>x c+((if c=j then 1 else 0) - S m fun i=>if t.bs i=c then t.X i j else 0)
 have aOF: ∀g:Nat→Rat,(S n fun c=>g c*y c)=(S n fun c=>g c*x c)+(g j - S m fun i=>t.X i j*g (t.bs i)):=fun g=>by
  have e:(S n fun c=>g c*y c)=S n fun c=>g c*x c+((if c=j then g j else 0) - g c*S m fun i=>if t.bs i=c then t.X i j else 0):=bS fun c _=>by
   simp only[y]
   by_cases hc:c=j
   ·subst hc;simp only[if_true];grind
   ·simp only[if_neg hc];grind
  rw[e,Am,Q4,A4 t.bs (fun i=>t.X i j) g hz,eG (f:=fun c=>if c=j then g j else 0) hj fun i _ hne=>if_neg hne]
  simp
 refine⟨y,⟨fun c hc=> ?_,(qD h n b y).2 fun i hi=> ?_⟩,?_⟩
 ·have h1:=hx.nn c hc
  have h2:0≤S m fun i=> - (if t.bs i=c then t.X i j else 0):=jX fun i hi=>by
   split
   ·have:=hle i hi;grind
   ·grind
  have h3:(S m fun i=> - (if t.bs i=c then t.X i j else 0))=(-1)*S m fun i=>if t.bs i=c then t.X i j else 0:=by rw[←jV];exact bS fun i _=>by grind
  have h4:(0:Rat)≤if c=j then 1 else 0:=by split<;>decide
  simp only[y]
  grind
 ·rw[aOF (t.X i),((qD h n b x).1 hx.sol) i hi]
  have:(S m fun l=>t.X l j*t.X i (t.bs l))=t.X i j:=by
   rw[eG hi,h.unit i i hi hi,if_pos rfl]
   ·grind
   ·intro l hl hne
    rw[h.unit i l hi hl,if_neg (Ne.symm hne)];grind
  rw[this];grind
 ·have:=aOF C
  unfold dot
  rw[this]
  unfold rc at hg
  grind
structure Round (n m b : Nat) (E : Nat → Nat → Rat) (w : Nat → Rat) (F F' : Nat → Prop) (t : Tab) : Prop where
 ti:TI m E t
 nn: ∀i,i<m→0≤t.X i b
 zero: ∀i,i<m→ ¬ t.bs i<n→t.X i b=0
 bas: ∀i,i<m→t.bs i<n→F (t.bs i)
 up: ∀c,c<n→F c→rc m w t c≤0
 cZ: ∀c,c<n→(F' c ↔ F c∧rc m w t c=0)
def L5 (n:Nat) (F:Nat→Prop) (x:Nat→Rat):Prop:= ∀c,c<n→ ¬ F c→x c=0
theorem qM {n m b:Nat} {E:Nat→Nat→Rat} {w:Nat→Rat} {F F':Nat→Prop} {t:Tab} (h:Round n m b E w F F' t) {x:Nat→Rat} (hx:kB n m E b x) (ho:L5 n F x):
  dot n w x≤w b - rc m w t b∧(dot n w x=w b - rc m w t b→L5 n F' x)∧(L5 n F' x→dot n w x=w b - rc m w t b):=by
 have h1:=Y1 w t ((qD h.ti n b x).1 hx.sol)
 have Zp: ∀c,c<n→0≤ - rc m w t c*x c:=fun c hc=>by
  by_cases hF:F c
  ·exact Rat.mul_nonneg (by have:=h.up c hc hF;grind) (hx.nn c hc)
  ·rw[ho c hc hF];grind
 have e:(S n fun c=> - rc m w t c*x c)=(-1)*dot n (rc m w t) x:=by
  unfold dot;rw[←jV];exact bS fun c _=>by grind
 have h2:=jX Zp
 refine⟨by grind,fun heq c hc hF'=> ?_,fun ho'=> ?_⟩
 ·by_cases hF:F c
  ·have hne:rc m w t c≠0:=fun h0=>hF' ((h.cZ c hc).2 ⟨hF,h0⟩)
   have hlt:rc m w t c<0:=by have:=h.up c hc hF;grind
   rcases gW (x c) 0 with g | g
   ·have:=hx.nn c hc;grind
   ·have:=Uc Zp hc (Rat.mul_pos (by grind) g)
    grind
  ·exact ho c hc hF
 ·have:dot n (rc m w t) x=0:=jU fun c hc=>by
   by_cases hF':F' c
   ·rw[((h.cZ c hc).1 hF').2];grind
   ·rw[ho' c hc hF'];grind
  grind

def vol (m:Nat) (E:Nat→Nat→Rat) (t:Tab):Rat:=det m fun j i=>E i (t.bs j)
theorem N0 {m:Nat} {E:Nat→Nat→Rat} {t:Tab} (h:TI m E t) {p:Nat} (hp:p<m) (c:Nat):det m (put (fun j i=>E i (t.bs j)) p fun i=>E i c)=t.X p c*vol m E t:=
 aA8 _ hp (fun j=>t.X j c) _ fun i hi=>h.col i hi c
theorem Ik {m:Nat} {E:Nat→Nat→Rat} {t:Tab} (h:TI m E t) {r k:Nat} (hr:r<m):vol m E (piv t r k)=t.X r k*vol m E t:=by
 rw[←N0 h hr k]
 unfold vol
 refine rY fun j i _ _=> ?_
 unfold put
 by_cases e:j=r
 ·subst e;rw[eE,if_pos rfl]
 ·rw[dE _ _ e,if_neg e]
structure aL2 (m N K : Nat) (E : Nat → Nat → Rat) : Prop where
 int: ∀i c,i<m→c<N→isInt (E i c)
 le: ∀i c,i<m→c<N→ -(K:Rat)≤E i c∧E i c≤K
structure TZ (m N K : Nat) (E : Nat → Nat → Rat) (t : Tab) : Prop where
 ti:TI m E t
 ints:aL2 m N K E
 bs: ∀i,i<m→t.bs i<N
 vol:vol m E t≠0
theorem TZ.piv {m N K:Nat} {E:Nat→Nat→Rat} {t:Tab} (h:TZ m N K E t) {r k:Nat} (hr:r<m) (hk:k<N) (hp:t.X r k≠0):TZ m N K E (piv t r k):=by
 refine⟨h.ti.piv hr hp,h.ints,fun i hi=> ?_,?_⟩
 ·by_cases e:i=r
  ·subst e;rw[eE];exact hk
  ·rw[dE _ _ e];exact h.bs i hi
 ·rw[Ik h.ti hr]
  have:=h.vol
  intro h0
  rcases Rat.mul_eq_zero.1 h0 with h1 | h1
  ·exact hp h1
  ·exact this h1
theorem TZ.nJ {m N K:Nat} {E:Nat→Nat→Rat} {t:Tab} (h:TZ m N K E t):isInt (Lp.vol m E t)∧ -(lid K m:Rat)≤Lp.vol m E t∧Lp.vol m E t≤lid K m:=
 ⟨X5 fun j i hj hi=>h.ints.int i _ hi (h.bs j hj),Hb fun j i hj hi=>h.ints.le i _ hi (h.bs j hj)⟩
theorem TZ.entry {m N K:Nat} {E:Nat→Nat→Rat} {t:Tab} (h:TZ m N K E t) {p c:Nat} (hp:p<m) (hc:c<N):isInt (t.X p c*Lp.vol m E t)∧ -(lid K m:Rat)≤t.X p c*Lp.vol m E t∧t.X p c*Lp.vol m E t≤lid K m:=by
 rw[←N0 h.ti hp c]
 refine⟨X5 fun j i hj hi=> ?_,Hb fun j i hj hi=> ?_⟩
 ·unfold put;split
  ·exact h.ints.int i c hi hc
  ·exact h.ints.int i _ hi (h.bs j hj)
 ·unfold put;split
  ·exact h.ints.le i c hi hc
  ·exact h.ints.le i _ hi (h.bs j hj)
def kY (q:Rat):Rat:=if q<0 then -q else q
theorem Y7 {q:Rat} (h:q≠0):0<kY q:=by unfold kY;split<;>grind
theorem Uh (a b:Rat):kY (a*b)=kY a*kY b:=by
 rcases gW a 0 with h1 | h1<;>rcases gW b 0 with h2 | h2
 ·have:=Rat.mul_nonneg (show 0≤ -a by grind) (show 0≤ -b by grind)
  unfold kY
  rw[if_neg (show ¬ a*b<0 by grind)]
  by_cases ha:a<0
  ·by_cases hb:b<0
   ·rw[if_pos ha,if_pos hb];grind
   ·have:b=0:=by grind
    rw[this];grind
  ·have:a=0:=by grind
   rw[this];grind
 ·unfold kY
  by_cases ha:a<0
  ·have:=Rat.mul_pos (show 0< -a by grind) h2
   rw[if_pos (show a*b<0 by grind),if_pos ha,if_neg (by grind)];grind
  ·have:a=0:=by grind
   rw[this];grind
 ·unfold kY
  by_cases hb:b<0
  ·have:=Rat.mul_pos h1 (show 0< -b by grind)
   rw[if_pos (show a*b<0 by grind),if_pos hb,if_neg (by grind)];grind
  ·have:b=0:=by grind
   rw[this];grind
 ·have:=Rat.mul_pos h1 h2
  unfold kY
  rw[if_neg (by grind),if_neg (by grind),if_neg (by grind)]
theorem wP {a:Rat} :isInt a→isInt (-a):=fun⟨x,hx⟩=>⟨-x,by rw[hx,Rat.intCast_neg]⟩
theorem M9 {a b:Rat} (ha:isInt a) (hb:isInt b):isInt (a - b):=by
 rw[show a - b=a+ -b by grind];exact P2 ha (wP hb)
theorem Fl {a:Rat} (h:isInt a):isInt (kY a):=by
 unfold kY;split
 ·exact wP h
 ·exact h
theorem I7 {q:Rat} (h:isInt q):(q.num:Rat)=q:=by obtain⟨z,rfl⟩:=h;simp
def dz (m:Nat) (E:Nat→Nat→Rat) (t:Tab):Int:=(kY (vol m E t)).num
def zt (m:Nat) (E:Nat→Nat→Rat) (t:Tab) (i c:Nat):Int:=(t.X i c*kY (vol m E t)).num
section
variable {m N K : Nat} {E : Nat → Nat → Rat} {t : Tab}
theorem oZ (h:TZ m N K E t):(dz m E t:Rat)=kY (vol m E t):=I7 (Fl h.nJ.1)
theorem tW (h:TZ m N K E t):0<dz m E t:=by
 have:=Y7 h.vol
 rw[←oZ h] at this
 exact Rat.intCast_pos.1 this
theorem iN (h:TZ m N K E t) {i c:Nat} (hi:i<m) (hc:c<N):(zt m E t i c:Rat)=t.X i c*dz m E t:=by
 rw[oZ h]
 refine I7 ?_
 have h1:=(h.entry hi hc).1
 unfold kY;split
 ·rw[show t.X i c* -vol m E t= -(t.X i c*vol m E t) by grind];exact wP h1
 ·exact h1
theorem aAW (h:TZ m N K E t) {i c:Nat} (hi:i<m) (hc:c<N): -(lid K m:Int)≤zt m E t i c∧zt m E t i c≤lid K m:=by
 have h1:=(h.entry hi hc).2
 have h2: -(lid K m:Rat)≤(zt m E t i c:Rat)∧(zt m E t i c:Rat)≤lid K m:=by
  rw[iN h hi hc,oZ h]
  unfold kY;split<;>grind
 constructor
 ·have:=h2.1
  rw[←Rat.intCast_natCast,←Rat.intCast_neg] at this
  exact Rat.intCast_le_intCast.1 this
 ·have:=h2.2
  rw[←Rat.intCast_natCast] at this
  exact Rat.intCast_le_intCast.1 this
theorem aAI (h:TZ m N K E t):dz m E t≤lid K m:=by
 have h1:=h.nJ.2
 have h2:(dz m E t:Rat)≤lid K m:=by
  rw[oZ h]
  unfold kY;split<;>grind
 rw[←Rat.intCast_natCast] at h2
 exact Rat.intCast_le_intCast.1 h2
theorem sG (h:TZ m N K E t) {i c:Nat} (hi:i<m) (hc:c<N):(0<zt m E t i c ↔ 0<t.X i c)∧(zt m E t i c=0 ↔ t.X i c=0):=by
 have h1:=iN h hi hc
 have h2:(0:Rat)<dz m E t:=by rw[oZ h];exact Y7 h.vol
 constructor
 ·constructor
  ·intro hp
   have h3:(0:Rat)<zt m E t i c:=Rat.intCast_pos.2 hp
   rw[h1] at h3
   rcases gW (t.X i c) 0 with g | g
   ·have:=Rat.mul_nonneg (show 0≤ - t.X i c by grind) (show 0≤(dz m E t:Rat) by grind)
    grind
   ·exact g
  ·intro hp
   have:=Rat.mul_pos hp h2
   rw[←h1] at this
   exact Rat.intCast_pos.1 this
 ·constructor
  ·intro h0
   rw[h0] at h1
   rcases Rat.mul_eq_zero.1 h1.symm with g | g
   ·exact g
   ·rw[g] at h2;exact absurd h2 (by decide)
  ·intro h0
   rw[h0,Rat.zero_mul] at h1
   exact Rat.intCast_inj.1 h1
theorem aDV (h:TZ m N K E t) {r k:Nat} (hr:r<m) (hk:k<N) (hp:t.X r k≠0) {i c:Nat} (hi:i<m) (hc:c<N):
  (0<zt m E t r k→dz m E (piv t r k)=zt m E t r k∧(zt m E (piv t r k) i c*dz m E t=if i=r then zt m E t i c*dz m E t else zt m E t i c*zt m E t r k - zt m E t i k*zt m E t r c))∧
  (zt m E t r k<0→dz m E (piv t r k)= - zt m E t r k∧(zt m E (piv t r k) i c*dz m E t= - if i=r then zt m E t i c*dz m E t else zt m E t i c*zt m E t r k - zt m E t i k*zt m E t r c)):=by
 have h':=h.piv hr hk hp
 have e1:=iN h hi hc
 have e2:=iN h' hi hc
 have e3:=iN h hr hk
 have e4:=iN h hi hk
 have e5:=iN h hr hc
 have hd:(dz m E (piv t r k):Rat)=kY (t.X r k)*dz m E t:=by rw[oZ h',oZ h,Ik h.ti hr,Uh]
 have hdp:=tW h
 have hs:=sG h hr hk
 constructor
 ·intro kV
  have hx:=hs.1.1 kV
  have hd2:(dz m E (piv t r k):Rat)=zt m E t r k:=by rw[hd,e3];unfold kY;rw[if_neg (by grind)]
  refine⟨Rat.intCast_inj.1 hd2,?_⟩
  have hz:=Rat.intCast_inj.1 hd2
  refine Rat.intCast_inj.1 ?_
  rw[Rat.intCast_mul,e2,hd]
  split
  ·rename_i e
   subst e
   rw[Rat.intCast_mul,sR,e1]
   unfold kY;rw[if_neg (by grind)]
   grind
  ·rename_i e
   rw[Rat.intCast_sub,Rat.intCast_mul,Rat.intCast_mul,nX _ _ _ e,e1,e3,e4,e5]
   unfold kY;rw[if_neg (by grind)]
   grind
 ·intro cO
  have hx:t.X r k<0:=by
   rcases gW (t.X r k) 0 with g | g
   ·grind
   ·have:=hs.1.2 g;omega
  have hd2:(dz m E (piv t r k):Rat)=((- zt m E t r k:Int):Rat):=by rw[hd,Rat.intCast_neg,e3];unfold kY;rw[if_pos hx];grind
  refine⟨Rat.intCast_inj.1 hd2,?_⟩
  refine Rat.intCast_inj.1 ?_
  rw[Rat.intCast_mul,e2,hd,Rat.intCast_neg]
  split
  ·rename_i e
   subst e
   rw[Rat.intCast_mul,sR,e1]
   unfold kY;rw[if_pos hx]
   grind
  ·rename_i e
   rw[Rat.intCast_sub,Rat.intCast_mul,Rat.intCast_mul,nX _ _ _ e,e1,e3,e4,e5]
   unfold kY;rw[if_pos hx]
   grind
end
end Go.Proofs.YticmgmemnpcbbaaGreat.Lp

namespace Go.Proofs.YticmgmemnpcbbaaGreat.Lp
set_option linter.unusedSimpArgs false
set_option linter.unusedVariables false
open Classical
noncomputable def fstP (p : Nat → Prop) : Nat → Option Nat
 | 0 => none
 | n + 1 => match fstP p n with
   | some k=>some k
   | none=>if p n then some n else none
theorem fD {p:Nat→Prop} : ∀ {n:Nat},fstP p n=none ↔ ∀k,k<n→ ¬ p k
 | 0 => by simp [fstP]
 | n + 1 => by
   have ih:=fD (p:=p) (n:=n)
   rw[fstP]
   cases h:fstP p n with
   | some k=>
     constructor
     ·intro h';cases h'
     ·intro h'
      have:=ih.2 fun k hk=>h' k (by omega)
      rw[h] at this;cases this
   | none=>
     have hn:=ih.1 h
     constructor
     ·intro h' k hk
      by_cases e:k=n
      ·subst e;intro hp;simp[hp] at h'
      ·exact hn k (by omega)
     ·intro h'
      simp[h' n (by omega)]
theorem dW {p:Nat→Prop} {k:Nat} : ∀ {n:Nat},fstP p n=some k ↔ k<n∧p k∧ ∀j,j<k→ ¬ p j
 | 0 => by simp [fstP]
 | n + 1 => by
   have ih:=dW (p:=p) (k:=k) (n:=n)
   rw[fstP]
   cases h:fstP p n with
   | some k'=>
     rw[h] at ih
     constructor
     ·intro h'
      obtain⟨h1,h2,h3⟩:=ih.1 h'
      exact⟨by omega,h2,h3⟩
     ·rintro⟨h1,h2,h3⟩
      by_cases e:k<n
      ·exact ih.2 ⟨e,h2,h3⟩
      ·obtain⟨g1,g2,_⟩:=dW.1 h
       exact absurd g2 (h3 k' (by omega))
   | none=>
     have hn:=fD.1 h
     constructor
     ·intro h'
      by_cases hp:p n
      ·simp[hp] at h'
       subst h'
       exact⟨by omega,hp,hn⟩
      ·simp[hp] at h'
     ·rintro⟨h1,h2,h3⟩
      by_cases e:k<n
      ·exact absurd h2 (hn k e)
      ·obtain rfl:k=n:=by omega
       simp[h2]
def quo (t:Tab) (b k i:Nat):Rat:=t.X i b / t.X i k
noncomputable def lvStep (t : Tab) (b k : Nat) (Rg : Option Nat) (i : Nat) : Option Nat :=
 if 0<t.X i k then match Rg with
  | none => some i
  | some j => if quo t b k i < quo t b k j ∨ quo t b k i = quo t b k j ∧ t.bs i < t.bs j then some i else some j
 else Rg
noncomputable def leave (t : Tab) (b k : Nat) (rows : List Nat) : Option Nat := rows.foldl (lvStep t b k) none
theorem tF (t:Tab) (b k:Nat) (rows:List Nat) (i:Nat):leave t b k (rows++ [i])=lvStep t b k (leave t b k rows) i:=by
 unfold leave;rw[List.foldl_append];rfl
theorem Px {α:Type} {P:List α→Prop} (h0:P []) (hs: ∀l x,P l→P (l++ [x])) (l:List α):P l:=by
 rw[←List.reverse_reverse l]
 induction l.reverse with
 | nil => exact h0
 | cons x xs ih => rw [List.reverse_cons]; exact hs _ _ ih
theorem mF (t:Tab) (b k:Nat) (rows:List Nat):(leave t b k rows=none→ ∀i,i∈rows→ ¬ 0<t.X i k)∧
  ∀r,leave t b k rows=some r→r∈rows∧0<t.X r k∧ ∀i,i∈rows→0<t.X i k→quo t b k r≤quo t b k i∧(quo t b k i=quo t b k r→t.bs r≤t.bs i):=by
 induction rows using Px with
 | h0 => exact ⟨fun _ i hi => (by cases hi), fun r h => (by cases h)⟩
 | hs l x ih =>
   obtain⟨ih1,ih2⟩:=ih
   rw[tF]
   unfold lvStep
   by_cases hp:0<t.X x k
   ·rw[if_pos hp]
    cases hb:leave t b k l with
    | none =>
      refine⟨fun h=>(by cases h),fun r h=> ?_⟩
      have hx:x=r:=Option.some.inj h
      subst hx
      refine⟨by simp,hp,fun i hi hpi=> ?_⟩
      rcases List.mem_append.1 hi with hi | hi
      ·exact absurd hpi (ih1 hb i hi)
      ·obtain rfl:i=x:=by simpa using hi
       exact⟨Rat.le_refl,fun _=>Nat.le_refl _⟩
    | some j =>
      obtain⟨g1,g2,g3⟩:=ih2 j hb
      simp only
      by_cases hc:quo t b k x<quo t b k j∨quo t b k x=quo t b k j∧t.bs x<t.bs j
      ·rw[if_pos hc]
       refine⟨fun h=>(by cases h),fun r h=> ?_⟩
       have hx:x=r:=Option.some.inj h
       subst hx
       refine⟨by simp,hp,fun i hi hpi=> ?_⟩
       rcases List.mem_append.1 hi with hi | hi
       ·obtain⟨q1,q2⟩:=g3 i hi hpi
        rcases hc with hc | ⟨hc1,hc2⟩
        ·exact⟨by grind,fun e=>by grind⟩
        ·exact⟨by grind,fun e=>by have:=q2 (by grind);omega⟩
       ·obtain rfl:i=x:=by simpa using hi
        exact⟨Rat.le_refl,fun _=>Nat.le_refl _⟩
      ·rw[if_neg hc]
       refine⟨fun h=>(by cases h),fun r h=> ?_⟩
       have hx:j=r:=Option.some.inj h
       subst hx
       refine⟨by simp[g1],g2,fun i hi hpi=> ?_⟩
       rcases List.mem_append.1 hi with hi | hi
       ·exact g3 i hi hpi
       ·obtain rfl:i=x:=by simpa using hi
        have h1: ¬ quo t b k i<quo t b k j:=fun h=>hc (.inl h)
        refine⟨by grind,fun e=> ?_⟩
        have h2: ¬ t.bs i<t.bs j:=fun h=>hc (.inr ⟨e,h⟩)
        omega
   ·rw[if_neg hp]
    refine⟨fun h i hi=> ?_,fun r h=> ?_⟩
    ·rcases List.mem_append.1 hi with hi | hi
     ·exact ih1 h i hi
     ·obtain rfl:i=x:=by simpa using hi
      exact hp
    ·obtain⟨g1,g2,g3⟩:=ih2 r h
     refine⟨by simp[g1],g2,fun i hi hpi=> ?_⟩
     rcases List.mem_append.1 hi with hi | hi
     ·exact g3 i hi hpi
     ·obtain rfl:i=x:=by simpa using hi
      exact absurd hpi hp
theorem wV {a b c d:Rat} (hb:0<b) (hd:0<d):(a / b<c / d ↔ a*d<c*b)∧(a / b=c / d ↔ a*d=c*b):=by
 have h1:a / b*b=a:=by grind
 have h2:c / d*d=c:=by grind
 generalize a / b=x at *
 generalize c / d=y at *
 subst h1 h2
 have h3:=Rat.mul_pos hb hd
 constructor
 ·constructor
  ·intro h
   have:=Rat.mul_pos (show 0<y - x by grind) h3
   grind
  ·intro h
   rcases gW y x with g | g
   ·have:=Rat.mul_nonneg (show 0≤x - y by grind) (show 0≤b*d by grind)
    grind
   ·exact g
 ·constructor
  ·intro h;rw[h];grind
  ·intro h
   have:(x - y)*(b*d)=0:=by grind
   rcases Rat.mul_eq_zero.1 this with g | g
   ·grind
   ·grind
noncomputable def nx (N b : Nat) (rows : List Nat) (ok : Tab → Nat → Prop) (t : Tab) : Option (Nat × Nat) :=
 match fstP (ok t) N with
 | none => none
 | some k => match leave t b k rows with
   | none=>none
   | some r=>some (r,k)
theorem sJ {N b:Nat} {rows:List Nat} {ok:Tab→Nat→Prop} {t:Tab} {r k:Nat} :nx N b rows ok t=some (r,k) ↔ fstP (ok t) N=some k∧leave t b k rows=some r:=by
 unfold nx
 cases h1:fstP (ok t) N with
 | none => simp
 | some k' =>
   simp only
   cases h2:leave t b k' rows with
   | none=>
     constructor
     ·intro h;cases h
     ·rintro⟨h,h'⟩
      obtain rfl:k'=k:=Option.some.inj h
      rw[h2] at h';cases h'
   | some r'=>
     simp only[Option.some.injEq,Prod.mk.injEq]
     constructor
     ·rintro⟨rfl,rfl⟩;exact⟨rfl,h2⟩
     ·rintro⟨rfl,h'⟩;rw[h2] at h';exact⟨Option.some.inj h',rfl⟩
theorem Hr {N b:Nat} {rows:List Nat} {ok:Tab→Nat→Prop} {t:Tab} (h:nx N b rows ok t=none):fstP (ok t) N=none∨ ∃k,fstP (ok t) N=some k∧leave t b k rows=none:=by
 unfold nx at h
 cases h1:fstP (ok t) N with
 | none => exact .inl rfl
 | some k =>
   rw[h1] at h
   simp only at h
   cases h2:leave t b k rows with
   | none=>exact .inr ⟨k,rfl,h2⟩
   | some r=>rw[h2] at h;cases h
structure Inv (n m b N K : Nat) (E : Nat → Nat → Rat) (rows : List Nat) (t : Tab) : Prop where
 z:TZ m N K E t
 nn: ∀i,i<m→0≤t.X i b
 sub: ∀i,i∈rows→i<m
 dead: ∀i,i<m→i∉rows→n≤t.bs i∧t.X i b=0∧ ∀c,c<n→t.X i c=0
 lt: ∀i,i<m→t.bs i<b
structure uS (n m b Q N' N : Nat) (w : Nat → Nat → Rat) (F : Nat → Prop) (rows : List Nat) (ok : Tab → Nat → Prop) : Prop where
 ok: ∀t c,c<N'→(ok t c ↔ F c∧iX Q fun q=>rc m (w q) t c)
 hF: ∀c,F c→c<N'
 le:N'≤N
 lb:N'≤b
 few:(∀c,F c→c<n)∨ ∀i,i<m→i∈rows
theorem uS.step {n m b Q N' N K:Nat} {E:Nat→Nat→Rat} {w:Nat→Nat→Rat} {F:Nat→Prop} {rows:List Nat} {ok:Tab→Nat→Prop} (R:uS n m b Q N' N w F rows ok) {t:Tab} {r k:Nat} (h:Inv n m b N K E rows t)
  (hk:fstP (ok t) N'=some k) (hr:leave t b k rows=some r):Step m b Q w F t r k∧Inv n m b N K E rows (piv t r k)∧k<N'∧r∈rows∧r<m∧t.X r k≠0:=by
 obtain⟨k1,k2,k3⟩:=dW.1 hk
 obtain⟨r1,r2,r3⟩:=(mF t b k rows).2 r hr
 obtain⟨f1,f2⟩:=(R.ok t k k1).1 k2
 have hrm:=h.sub r r1
 have hin: ∀i,i<m→0<t.X i k→i∈rows:=fun i hi hp=>by
  rcases Classical.em (i∈rows) with g | g
  ·exact g
  ·rcases R.few with hf | hf
   ·have:=(h.dead i hi g).2.2 k (hf k f1)
    rw[this] at hp;exact absurd hp (by decide)
   ·exact hf i hi
 have hst:Step m b Q w F t r k:=⟨f1,f2,fun j hj hjk hp=>k3 j hjk ((R.ok t j (by omega)).2 ⟨hj,hp⟩),hrm,r2,fun i hi hp=>by
  have h1:=(r3 i (hin i hi hp) hp).1
  have h2:=wV (a:=t.X i b) (b:=t.X i k) (c:=t.X r b) (d:=t.X r k) hp r2
  unfold quo at h1
  rcases gW (t.X r b*t.X i k) (t.X i b*t.X r k) with g | g
  ·exact g
  ·have:=h2.1.2 g;grind,fun i hi hp e=>by
  have h1:=(r3 i (hin i hi hp) hp).2
  have h2:=wV (a:=t.X i b) (b:=t.X i k) (c:=t.X r b) (d:=t.X r k) hp r2
  exact h1 (h2.2.2 e)⟩
 have hne:t.X r k≠0:=by grind
 refine⟨hst,⟨h.z.piv hrm (by have:=R.le;omega) hne,hst.rhs h.nn,h.sub,fun i hi hno=> ?_,fun i hi=> ?_⟩,k1,r1,hrm,hne⟩
 ·have hir:i≠r:=fun e=>hno (e▸r1)
  obtain⟨d1,d2,d3⟩:=h.dead i hi hno
  have hkn:k<n:=by
   rcases R.few with hf | hf
   ·exact hf k f1
   ·exact absurd (hf i hi) hno
  rw[dE _ _ hir]
  refine⟨d1,?_,fun c hc=> ?_⟩
  ·rw[nX _ _ _ hir,d2,d3 k hkn];grind
  ·rw[nX _ _ _ hir,d3 c hc,d3 k hkn];grind
 ·by_cases e:i=r
  ·subst e;rw[eE];have:=R.lb;omega
  ·rw[dE _ _ e];exact h.lt i hi
theorem uS.low {n m b Q N' N K:Nat} {E:Nat→Nat→Rat} {w:Nat→Nat→Rat} {F:Nat→Prop} {rows:List Nat} {ok:Tab→Nat→Prop} (R:uS n m b Q N' N w F rows ok) (hF: ∀c,F c→c<n) {t:Tab} {e:Nat} (hI: ∀e',e'≤e→Inv n m b N K E rows (orb (nx N' b rows ok) t e')) (hl: ∀i,i∈rows→t.bs i<n):
  ∀e',e'≤e→ ∀i,i∈rows→(orb (nx N' b rows ok) t e').bs i<n
 | 0, _ => hl
 | e' + 1, he => by
   have ih:=uS.low R hF hI hl e' (by omega)
   rw[orb]
   cases hs:nx N' b rows ok (orb (nx N' b rows ok) t e') with
   | none=>exact ih
   | some p=>
     obtain⟨g1,g2⟩:=sJ.1 hs
     have hst:=(R.step (hI e' (by omega)) g1 g2).1
     intro i hi
     by_cases ei:i=p.1
     ·simp only;rw[ei,eE];exact hF _ hst.hF
     ·simp only;rw[dE _ _ ei];exact ih i hi
theorem uS.ends {n m b Q N' N K:Nat} {E:Nat→Nat→Rat} {w:Nat→Nat→Rat} {F:Nat→Prop} {rows:List Nat} {ok:Tab→Nat→Prop} (R:uS n m b Q N' N w F rows ok) {t:Tab} (h:Inv n m b N K E rows t):
  ∃e,nx N' b rows ok (orb (nx N' b rows ok) t e)=none∧(∀e',e'<e→(nx N' b rows ok (orb (nx N' b rows ok) t e')).isSome=true)∧ ∀e',e'≤e→Inv n m b N K E rows (orb (nx N' b rows ok) t e'):=by
 have hinv: ∀e,Inv n m b N K E rows (orb (nx N' b rows ok) t e):=by
  intro e
  induction e with
  | zero => exact h
  | succ e ih =>
    rw[orb]
    cases hs:nx N' b rows ok (orb (nx N' b rows ok) t e) with
    | none=>exact ih
    | some p=>
      obtain⟨g1,g2⟩:=sJ.1 hs
      exact(R.step ih g1 g2).2.1
 rcases Classical.em (∃e,nx N' b rows ok (orb (nx N' b rows ok) t e)=none) with ⟨e,he⟩| hno
 ·have least: ∀e,nx N' b rows ok (orb (nx N' b rows ok) t e)=none→ ∃e,nx N' b rows ok (orb (nx N' b rows ok) t e)=none∧ ∀e',e'<e→(nx N' b rows ok (orb (nx N' b rows ok) t e')).isSome=true:=by
   intro e
   induction e using Nat.strongRecOn with
   | ind e ih =>
     intro h
     rcases Classical.em (∃e',e'<e∧nx N' b rows ok (orb (nx N' b rows ok) t e')=none) with ⟨e',h1,h2⟩| h2
     ·exact ih e' h1 h2
     ·refine⟨e,h,fun e' he'=> ?_⟩
      cases hh:nx N' b rows ok (orb (nx N' b rows ok) t e') with
      | none => exact absurd ⟨e', he', hh⟩ h2
      | some p => rfl
  obtain⟨e,h1,h2⟩:=least e he
  exact⟨e,h1,h2,fun e' _=>hinv e'⟩
 ·exfalso
  have N7: ∀e,∃p,nx N' b rows ok (orb (nx N' b rows ok) t e)=some p:=fun e=>by
   cases hh:nx N' b rows ok (orb (nx N' b rows ok) t e) with
   | none => exact absurd ⟨e, hh⟩ hno
   | some p => exact ⟨p, rfl⟩
  obtain⟨a,c,h1,h2,h3⟩:=Fv (allL N m) (fun e=>(List.range m).map (orb (nx N' b rows ok) t e).bs) fun e _=>Z9 N _ m (hinv e).z.bs
  have heq: ∀i,i<m→(orb (nx N' b rows ok) t a).bs i=(orb (nx N' b rows ok) t c).bs i:=fun i hi=>by
   have:=congrArg (fun l=>l[i]?) h3
   simpa [hi] using this
  let p:Nat→Nat×Nat:=fun e=>(nx N' b rows ok (orb (nx N' b rows ok) t e)).getD (0,0)
  have hp: ∀e,nx N' b rows ok (orb (nx N' b rows ok) t e)=some ((p e).1,(p e).2):=fun e=>by obtain⟨q,hq⟩:=N7 e;simp[p,hq]
  refine aKD (m:=m) (b:=b) (Q:=Q) (L:=c - a) (E:=E) (w:=w) (F:=F) (t:=fun e=>orb (nx N' b rows ok) t (a+e)) (r:=fun e=>(p (a+e)).1) (k:=fun e=>(p (a+e)).2) (fun e _=>(hinv _).z.ti) (fun e _=>(hinv _).nn)
   (fun e _=> ?_) (fun e _=> ?_) (by omega) (fun i hi=> ?_)
  ·obtain⟨g1,g2⟩:=sJ.1 (hp (a+e))
   exact(R.step (hinv _) g1 g2).1
  ·show orb (nx N' b rows ok) t (a+e+1)=_
   rw[orb,hp]
  ·simp only[Nat.add_zero]
   rw[show a+(c - a)=c by omega]
   exact heq i hi

structure Init (n m K : Nat) (E : Nat → Nat → Rat) : Prop where
 ints:aL2 m (n+m+1) K E
 art: ∀i j,i<m→j<m→E i (n+j)=if i=j then 1 else 0
 nn: ∀i,i<m→0≤E i (n+m)
def lH (n:Nat) (E:Nat→Nat→Rat):Tab:=⟨E,fun i=>n+i⟩
theorem Init.inv {n m K:Nat} {E:Nat→Nat→Rat} (h:Init n m K E):Inv n m (n+m) (n+m+1) K E (List.range m) (lH n E):=by
 refine⟨⟨⟨fun i hi=>⟨fun l=>if l=i then 1 else 0,fun c=> ?_⟩,fun l hl c=> ?_,fun i j hi hj=> ?_⟩,h.ints,fun i hi=> ?_,?_⟩,h.nn,fun i hi=>by simpa using hi,fun i hi hn=>absurd (by simpa using hi) hn,fun i hi=>by show n+i<_;omega⟩
 ·rw[eG hi]
  ·simp[lH]
  ·intro j _ hne;show(if j=i then(1:Rat) else 0)*E j c=0;rw[if_neg hne];grind
 ·show E l c=S m fun i=>E i c*E l (n+i)
  rw[eG hl,h.art l l hl hl,if_pos rfl]
  ·grind
  ·intro j hj hne;rw[h.art l j hl hj,if_neg (Ne.symm hne)];grind
 ·exact h.art i j hi hj
 ·show n+i<_
  omega
 ·show det m (fun j i=>E i (n+j))≠0
  rw[Fs m _ fun j i hj hi=>by rw[h.art i j hi hj];by_cases e:j=i
                              ·rw[if_pos e,if_pos e.symm]
                              ·rw[if_neg e,if_neg (Ne.symm e)]]
  decide
theorem aN5 {v:Nat→Rat} :iX 1 v ↔ 0<v 0:=by
 constructor
 ·rintro⟨q,h1,h2,_⟩
  obtain rfl:q=0:=by omega
  exact h2
 ·exact fun h=>⟨0,by omega,h,fun j hj=>by omega⟩
def okW (m:Nat) (w:Nat→Rat) (F:Nat→Prop) (t:Tab) (c:Nat):Prop:=F c∧0<rc m w t c
theorem Qa {n m b N' N:Nat} {w:Nat→Rat} {F:Nat→Prop} {rows:List Nat} (hF: ∀c,F c→c<N') (hN:N'≤N) (hB:N'≤b) (hf:(∀c,F c→c<n)∨ ∀i,i<m→i∈rows):uS n m b 1 N' N (fun _=>w) F rows (okW m w F):=
 ⟨fun t c _=>by unfold okW;rw[aN5],hF,hN,hB,hf⟩
theorem J8 {n m N K:Nat} {E:Nat→Nat→Rat} {t:Tab} (h:Inv n m (n+m) N K E (List.range m) t) {k:Nat} (hk:0<rc m (bK n m) t k):leave t (n+m) k (List.range m)≠none:=by
 intro hl
 have h1:=(mF t (n+m) k (List.range m)).1 hl
 have h2:0≤S m fun i=>t.X i k*bK n m (t.bs i):=jX fun i hi=>by
  have:=h1 i (by simpa using hi)
  unfold bK;split<;>grind
 have h3:bK n m k≤0:=by unfold bK;split<;>decide
 unfold rc at hk
 grind
structure rD (n m N K : Nat) (E : Nat → Nat → Rat) (t : Tab) : Prop where
 inv:Inv n m (n+m) N K E (List.range m) t
 up: ∀c,c<n→rc m (bK n m) t c≤0
theorem rD.sum {n m N K:Nat} {E:Nat→Nat→Rat} {t:Tab} (h:rD n m N K E t):0≤rc m (bK n m) t (n+m):=by
 rw[vY rfl]
 exact jX fun i hi=>by
  split
  ·exact h.inv.nn i hi
  ·exact Rat.le_refl
theorem rD.no {n m N K:Nat} {E:Nat→Nat→Rat} {t:Tab} (h:rD n m N K E t) (hp:rc m (bK n m) t (n+m)≠0) (x:Nat→Rat): ¬ kB n m E (n+m) x:=
 Ko rfl h.inv.z.ti h.inv.nn h.up (by have:=h.sum;grind) x
theorem rD.zero {n m N K:Nat} {E:Nat→Nat→Rat} {t:Tab} (h:rD n m N K E t) (hp:rc m (bK n m) t (n+m)=0): ∀i,i<m→ ¬ t.bs i<n→t.X i (n+m)=0:=Uj rfl h.inv.nn hp h.inv.lt
theorem rD.Qg {n m N K:Nat} {E:Nat→Nat→Rat} {t:Tab} (h:rD n m N K E t) (hp:rc m (bK n m) t (n+m)=0):kB n m E (n+m) (xb m (n+m) t):=uR h.inv.z.ti h.inv.nn (h.zero hp)
theorem tK {n m N' K:Nat} {E:Nat→Nat→Rat} {F:Nat→Prop} (h:Init n m K E) (hF: ∀c,F c→c<N') (hN:N'≤n+m) (hFn: ∀c,c<n→c<N'∧F c):
  ∃e,fstP (okW m (bK n m) F (orb (nx N' (n+m) (List.range m) (okW m (bK n m) F)) (lH n E) e)) N'=none∧
   (∀e',e'<e→(nx N' (n+m) (List.range m) (okW m (bK n m) F) (orb (nx N' (n+m) (List.range m) (okW m (bK n m) F)) (lH n E) e')).isSome=true)∧
   (∀e',e'≤e→Inv n m (n+m) (n+m+1) K E (List.range m) (orb (nx N' (n+m) (List.range m) (okW m (bK n m) F)) (lH n E) e'))∧rD n m (n+m+1) K E (orb (nx N' (n+m) (List.range m) (okW m (bK n m) F)) (lH n E) e):=by
 have R:uS n m (n+m) 1 N' (n+m+1) (fun _=>bK n m) F (List.range m) (okW m (bK n m) F):=Qa hF (by omega) hN (.inr fun i hi=>by simpa using hi)
 obtain⟨e,h1,h2,h3⟩:=R.ends h.inv
 have hI:=h3 e (Nat.le_refl _)
 have hf:fstP (okW m (bK n m) F (orb (nx N' (n+m) (List.range m) (okW m (bK n m) F)) (lH n E) e)) N'=none:=by
  rcases Hr h1 with g | ⟨k,g1,g2⟩
  ·exact g
  ·exact absurd g2 (J8 hI (dW.1 g1).2.1.2)
 refine⟨e,hf,h2,h3,hI,fun c hc=> ?_⟩
 have:=fD.1 hf c (hFn c hc).1
 unfold okW at this
 rcases gW (rc m (bK n m) (orb (nx N' (n+m) (List.range m) (okW m (bK n m) F)) (lH n E) e) c) 0 with g | g
 ·exact g
 ·exact absurd ⟨(hFn c hc).2,g⟩ this
noncomputable def lT (n : Nat) (t : Tab) (i : Nat) : Tab := if t.bs i < n then t else match fstP (fun k => t.X i k ≠ 0) n with
 | some k => piv t i k
 | none => t
noncomputable def kicks (n : Nat) (t : Tab) : Nat → Tab
 | 0 => t
 | i + 1 => lT n (kicks n t i) i
structure L1 (n m N K : Nat) (E : Nat → Nat → Rat) (i : Nat) (t : Tab) : Prop where
 z:TZ m N K E t
 nn: ∀i,i<m→0≤t.X i (n+m)
 zero: ∀j,j<m→ ¬ t.bs j<n→t.X j (n+m)=0
 done: ∀j,j<i→ ¬ t.bs j<n→ ∀c,c<n→t.X j c=0
 lt: ∀j,j<m→t.bs j<n+m
theorem L1.next {n m N K:Nat} {E:Nat→Nat→Rat} {i:Nat} {t:Tab} (h:L1 n m N K E i t) (hi:i<m) (hN:n≤N):L1 n m N K E (i+1) (lT n t i):=by
 unfold lT
 by_cases hb:t.bs i<n
 ·rw[if_pos hb]
  refine⟨h.z,h.nn,h.zero,fun j hj hn=> ?_,h.lt⟩
  by_cases e:j=i
  ·subst e;exact absurd hb hn
  ·exact h.done j (by omega) hn
 ·rw[if_neg hb]
  have hz:=h.zero i hi hb
  cases hk:fstP (fun k=>t.X i k≠0) n with
  | none =>
    refine⟨h.z,h.nn,h.zero,fun j hj hn c hc=> ?_,h.lt⟩
    by_cases e:j=i
    ·subst e
     have:=fD.1 hk c hc
     exact Classical.not_not.1 this
    ·exact h.done j (by omega) hn c hc
  | some k =>
    obtain⟨k1,k2,_⟩:=dW.1 hk
    have aKS: ∀j,j<m→(piv t i k).X j (n+m)=t.X j (n+m):=fun j hj=>by
     by_cases e:j=i
     ·subst e;rw[sR,hz];grind
     ·rw[nX _ _ _ e,hz];grind
    refine⟨h.z.piv hi (by omega) k2,fun j hj=>by rw[aKS j hj];exact h.nn j hj,fun j hj hn=> ?_,fun j hj hn c hc=> ?_,fun j hj=> ?_⟩
    ·rw[aKS j hj]
     by_cases e:j=i
     ·subst e;exact hz
     ·rw[dE _ _ e] at hn;exact h.zero j hj hn
    ·by_cases e:j=i
     ·subst e;rw[eE] at hn;exact absurd k1 hn
     ·rw[dE _ _ e] at hn
      rw[nX _ _ _ e,h.done j (by omega) hn c hc,h.done j (by omega) hn k k1];grind
    ·by_cases e:j=i
     ·subst e;rw[eE];omega
     ·rw[dE _ _ e];exact h.lt j hj
theorem kL {n m N K:Nat} {E:Nat→Nat→Rat} {t:Tab} (h:L1 n m N K E 0 t) (hN:n≤N): ∀i,i≤m→L1 n m N K E i (kicks n t i)
 | 0, _ => h
 | i + 1, hi => (kL h hN i (by omega)).next (by omega) hN
theorem rD.lT {n m N K:Nat} {E:Nat→Nat→Rat} {t:Tab} (h:rD n m N K E t) (hp:rc m (bK n m) t (n+m)=0):L1 n m N K E 0 t:=⟨h.inv.z,h.inv.nn,h.zero hp,(fun j hj=>by omega),h.inv.lt⟩
def bO (n:Nat) (t:Tab) (i:Nat):List Nat:=(List.range i).filter fun i=>t.bs i<n
theorem mE {n:Nat} {t:Tab} {i j:Nat} :j∈bO n t i ↔ j<i∧t.bs j<n:=by unfold bO;simp
theorem L1.inv {n m N K:Nat} {E:Nat→Nat→Rat} {t:Tab} (h:L1 n m N K E m t):Inv n m (n+m) N K E (bO n t m) t:=
 ⟨h.z,h.nn,fun i hi=>(mE.1 hi).1,fun i hi hn=>by
   have hb: ¬ t.bs i<n:=fun hb=>hn (mE.2 ⟨hi,hb⟩)
   exact⟨by omega,h.zero i hi hb,h.done i hi hb⟩,h.lt⟩
def okL (m n:Nat) (C:Nat→Rat) (t:Tab) (c:Nat):Prop:=iX (n+1) fun q=>rc m (wl C q) t c
theorem Zx {n m b N:Nat} {C:Nat→Rat} {rows:List Nat} (hN:n≤N) (hB:n≤b):uS n m b (n+1) n N (wl C) (fun c=>c<n) rows (okL m n C):=
 ⟨fun t c hc=>by unfold okL;exact⟨fun h=>⟨hc,h⟩,fun h=>h.2⟩,fun c h=>h,hN,hB,.inl fun c h=>h⟩
theorem Inv.zero {n m b N K:Nat} {E:Nat→Nat→Rat} {rows:List Nat} {t:Tab} (h:Inv n m b N K E rows t) (hl: ∀i,i∈rows→t.bs i<n): ∀i,i<m→ ¬ t.bs i<n→t.X i b=0:=fun i hi hb=>(h.dead i hi fun hm=>hb (hl i hm)).2.1
theorem sW {n m b N K:Nat} {E:Nat→Nat→Rat} {rows:List Nat} {t:Tab} (h:Inv n m b N K E rows t) {k:Nat} (hk:k<n) (hl:leave t b k rows=none): ∀i,i<m→t.X i k≤0:=fun i hi=>by
 rcases Classical.em (i∈rows) with g | g
 ·have:=(mF t b k rows).1 hl i g;grind
 ·rw[(h.dead i hi g).2.2 k hk];exact Rat.le_refl
theorem yO {n m b N K:Nat} {E:Nat→Nat→Rat} {rows:List Nat} {t:Tab} {C:Nat→Rat} (h:Inv n m b N K E rows t) (I5: ∀i,i∈rows→t.bs i<n) {k:Nat} (hk:k<n) (hl:leave t b k rows=none) (hp:0<rc m C t k):Unb n m E b C:=
 Xz h.z.ti hk (sW h hk hl) (fun i hi hb=>(h.dead i hi fun hm=>hb (I5 i hm)).2.2 k hk) hp
theorem yA {n m b N K:Nat} {E:Nat→Nat→Rat} {rows:List Nat} {t:Tab} (h:Inv n m b N K E rows t) {k q:Nat} (C:Nat→Rat) (hk:k<n) (hp:0<rc m (wl C (q+1)) t k):leave t b k rows≠none:=by
 intro hl
 have h1:=sW h hk hl
 have h2:0≤S m fun i=>t.X i k*wl C (q+1) (t.bs i):=jX fun i hi=>by
  have:=h1 i hi
  unfold wl;simp only;split<;>grind
 have h3:wl C (q+1) k≤0:=by unfold wl;simp only;split<;>decide
 unfold rc at hp
 grind
theorem B0 {n m b N K:Nat} {E:Nat→Nat→Rat} {rows:List Nat} {t:Tab} {C:Nat→Rat} (h:Inv n m b N K E rows t) (I5: ∀i,i∈rows→t.bs i<n) (he:nx n b rows (okL m n C) t=none):
  (fstP (okL m n C t) n=none∧tL n m E b C (xb m b t))∨((∃k,fstP (okL m n C t) n=some k∧leave t b k rows=none)∧Unb n m E b C):=by
 rcases Hr he with g | ⟨k,g1,g2⟩
 ·exact .inl ⟨g,Qe h.z.ti h.nn (h.zero I5) fun c hc=>fD.1 g c hc⟩
 ·obtain⟨k1,⟨q,q1,q2,q3⟩,_⟩:=dW.1 g1
  refine .inr ⟨⟨k,g1,g2⟩,yO h I5 k1 g2 ?_⟩
  cases q with
  | zero => exact q2
  | succ q => exact absurd g2 (yA h C k1 q2)
structure Sel (n m b : Nat) (E : Nat → Nat → Rat) (C : Nat → Rat) (q : Nat) (F : Nat → Prop) : Prop where
 Rg: ∀x y,kB n m E b x→kB n m E b y→L5 n F x→ ¬ iX q fun q=>dot n (wl C q) y - dot n (wl C q) x
 same: ∀x y,kB n m E b x→kB n m E b y→L5 n F x→(L5 n F y ↔ G1 q fun q=>dot n (wl C q) y - dot n (wl C q) x)
theorem Sel.start {n m b:Nat} {E:Nat→Nat→Rat} {C:Nat→Rat} {F:Nat→Prop} (hF: ∀c,c<n→F c):Sel n m b E C 0 F:=
 ⟨fun x y _ _ _ ⟨q,hq,_⟩=>by omega,fun x y _ _ _=>⟨fun _ q hq=>by omega,fun _ c hc hn=>absurd (hF c hc) hn⟩⟩
theorem Sel.next {n m b:Nat} {E:Nat→Nat→Rat} {C:Nat→Rat} {q:Nat} {F F':Nat→Prop} {t:Tab} (h:Sel n m b E C q F) (hr:Round n m b E (wl C q) F F' t):Sel n m b E C (q+1) F':=by
 have jZ: ∀x,L5 n F' x→L5 n F x:=fun x ho c hc hn=>ho c hc fun hF'=>hn ((hr.cZ c hc).1 hF').1
 refine⟨fun x y hx hy ho hp=> ?_,fun x y hx hy ho=> ?_⟩
 ·obtain⟨p,p1,p2,p3⟩:=hp
  have hox:=jZ x ho
  by_cases e:p=q
  ·subst e
   have hyo:=(h.same x y hx hy hox).2 fun j hj=>p3 j hj
   have h1:=(qM hr hx hox).2.2 ho
   have h2:=(qM hr hy hyo).1
   simp only at p2
   grind
  ·exact h.Rg x y hx hy hox ⟨p,by omega,p2,p3⟩
 ·have hox:=jZ x ho
  have h1:=(qM hr hx hox).2.2 ho
  constructor
  ·intro hoy j hj
   have aQL:=jZ y hoy
   by_cases e:j=q
   ·subst e
    have h2:=(qM hr hy aQL).2.2 hoy
    simp only;grind
   ·exact(h.same x y hx hy hox).1 aQL j (by omega)
  ·intro hz
   have hyo:=(h.same x y hx hy hox).2 fun j hj=>hz j (by omega)
   have:=hz q (by omega)
   simp only at this
   exact(qM hr hy hyo).2.1 (by grind)
theorem Sel.done {n m b:Nat} {E:Nat→Nat→Rat} {C x:Nat→Rat} {F:Nat→Prop} (h:Sel n m b E C (n+1) F) (hx:kB n m E b x) (ho:L5 n F x):tL n m E b C x:=⟨hx,fun y hy=>h.Rg x y hx hy ho⟩
def Fn (m:Nat) (w:Nat→Rat) (F:Nat→Prop) (t:Tab) (c:Nat):Prop:=F c∧rc m w t c=0
theorem Lx {n m b N K N':Nat} {E:Nat→Nat→Rat} {rows:List Nat} {t:Tab} {w:Nat→Rat} {F:Nat→Prop} (h:Inv n m b N K E rows t) (I5: ∀i,i∈rows→t.bs i<n) (Nu: ∀i,i∈rows→F (t.bs i)) (hN:n≤N') (hf:fstP (okW m w F t) N'=none):Round n m b E w F (Fn m w F t) t:=
 ⟨h.z.ti,h.nn,h.zero I5,fun i hi hb=>by
   rcases Classical.em (i∈rows) with g | g
   ·exact Nu i g
   ·have:=(h.dead i hi g).1;omega,fun c hc hF=>by
   have:=fD.1 hf c (by omega)
   unfold okW at this
   rcases gW (rc m w t c) 0 with g | g
   ·exact g
   ·exact absurd ⟨hF,g⟩ this,fun c hc=>Iff.rfl⟩
structure Mid (n m K : Nat) (E : Nat → Nat → Rat) (rows : List Nat) (F : Nat → Prop) (t : Tab) : Prop where
 inv:Inv n m (n+m) (n+m+1) K E rows t
 low: ∀i,i∈rows→t.bs i<n
 bas: ∀i,i∈rows→F (t.bs i)
 lt: ∀c,F c→c<n
theorem Mid.step {n m K:Nat} {E:Nat→Nat→Rat} {rows:List Nat} {F:Nat→Prop} {t:Tab} {w:Nat→Rat} (h:Mid n m K E rows F t) {r k:Nat} (hs:nx (n+m) (n+m) rows (okW m w F) t=some (r,k)):Mid n m K E rows F (piv t r k):=by
 obtain⟨g1,g2⟩:=sJ.1 hs
 have R:uS n m (n+m) 1 (n+m) (n+m+1) (fun _=>w) F rows (okW m w F):=Qa (fun c hc=>by have:=h.lt c hc;omega) (by omega) (Nat.le_refl _) (.inl h.lt)
 have h1:=(R.step h.inv g1 g2).2.1
 have hF:=(dW.1 g1).2.1.1
 refine⟨h1,fun i hi=> ?_,fun i hi=> ?_,h.lt⟩
 ·by_cases e:i=r
  ·rw[e,eE];exact h.lt k hF
  ·rw[dE _ _ e];exact h.low i hi
 ·by_cases e:i=r
  ·rw[e,eE];exact hF
  ·rw[dE _ _ e];exact h.bas i hi
theorem Mid.ends {n m K:Nat} {E:Nat→Nat→Rat} {rows:List Nat} {F:Nat→Prop} {t:Tab} (w:Nat→Rat) (h:Mid n m K E rows F t):
  ∃e,nx (n+m) (n+m) rows (okW m w F) (orb (nx (n+m) (n+m) rows (okW m w F)) t e)=none∧
   (∀e',e'<e→(nx (n+m) (n+m) rows (okW m w F) (orb (nx (n+m) (n+m) rows (okW m w F)) t e')).isSome=true)∧
   ∀e',e'≤e→Mid n m K E rows F (orb (nx (n+m) (n+m) rows (okW m w F)) t e'):=by
 have R:uS n m (n+m) 1 (n+m) (n+m+1) (fun _=>w) F rows (okW m w F):=Qa (fun c hc=>by have:=h.lt c hc;omega) (by omega) (Nat.le_refl _) (.inl h.lt)
 obtain⟨e,h1,h2,h3⟩:=R.ends h.inv
 refine⟨e,h1,h2,fun e' he'=> ?_⟩
 induction e' with
 | zero => exact h
 | succ e' ih =>
   have hm:=ih (by omega)
   rw[orb]
   cases hs:nx (n+m) (n+m) rows (okW m w F) (orb (nx (n+m) (n+m) rows (okW m w F)) t e') with
   | none=>exact hm
   | some p=>exact hm.step hs
theorem Mid.next {n m K:Nat} {E:Nat→Nat→Rat} {rows:List Nat} {F:Nat→Prop} {t:Tab} {w:Nat→Rat} (h:Mid n m K E rows F t):Mid n m K E rows (Fn m w F t) t:=
 ⟨h.inv,h.low,fun i hi=>⟨h.bas i hi,mI h.inv.z.ti _ (h.inv.sub i hi)⟩,fun c hc=>h.lt c hc.1⟩
theorem Mid.Qg {n m K:Nat} {E:Nat→Nat→Rat} {rows:List Nat} {F:Nat→Prop} {t:Tab} (h:Mid n m K E rows F t):kB n m E (n+m) (xb m (n+m) t)∧L5 n F (xb m (n+m) t):=by
 refine⟨uR h.inv.z.ti h.inv.nn (h.inv.zero h.low),fun c hc hn=> ?_⟩
 refine jU fun i hi=> ?_
 split
 ·rename_i e
  rcases Classical.em (i∈rows) with g | g
  ·exact absurd (e▸h.bas i g) hn
  ·exact(h.inv.dead i hi g).2.1
 ·rfl
end Go.Proofs.YticmgmemnpcbbaaGreat.Lp

namespace Go.Proofs.YticmgmemnpcbbaaGreat.Lp
set_option linter.unusedSimpArgs false
set_option linter.unusedVariables false
def sm (L:Nat) (q:Rat):Prop:= ∃a v:Int,v≠0∧q*v=a∧a.natAbs≤L∧v.natAbs≤L
theorem Od {q:Rat} {a v:Int} (h:q*v=a):q.num*v=a*q.den:=by
 have h1:q*(q.den:Rat)=q.num:=by
  have h2:=Rat.mkRat_self q
  rw[Rat.mkRat_eq_div] at h2
  have h3:(q.den:Rat)≠0:=fun h=>q.den_nz (Rat.natCast_inj.1 h)
  grind
 have h2:((q.num*v:Int):Rat)=((a*q.den:Int):Rat):=by
  rw[Rat.intCast_mul,Rat.intCast_mul,←h,←h1,Rat.intCast_natCast]
  grind
 exact Rat.intCast_inj.1 h2
theorem Bc {L:Nat} {q:Rat} (h:sm L q):q.num.natAbs≤L∧q.den≤L:=by
 obtain⟨a,v,hv,he,ha,hvl⟩:=h
 have hc:=congrArg Int.natAbs (Od he)
 rw[Int.natAbs_mul,Int.natAbs_mul,Int.natAbs_natCast] at hc
 have hco:=q.reduced
 have hv0:0<v.natAbs:=Int.natAbs_pos.2 hv
 have h1:q.den∣v.natAbs:=by
  refine Nat.Coprime.dvd_of_dvd_mul_left (Nat.Coprime.symm hco) ⟨a.natAbs,?_⟩
  rw[hc,Nat.mul_comm]
 have h2:=Nat.le_of_dvd hv0 h1
 refine⟨?_,by omega⟩
 by_cases h0:a.natAbs=0
 ·rw[h0,Nat.zero_mul] at hc
  rcases Nat.mul_eq_zero.1 hc with g | g
  ·omega
  ·omega
 ·have h3:q.num.natAbs∣a.natAbs:=Nat.Coprime.dvd_of_dvd_mul_right hco ⟨v.natAbs,hc.symm⟩
  have:=Nat.le_of_dvd (by omega) h3
  omega
theorem fP {L M:Nat} {q:Rat} (h:sm L q) (hl:L≤M):sm M q:=by
 obtain⟨a,v,h1,h2,h3,h4⟩:=h
 exact⟨a,v,h1,h2,by omega,by omega⟩
theorem Oi {L M:Nat} {p q:Rat} (hp:sm L p) (hq:sm M q):sm (L*M) (p*q):=by
 obtain⟨a,v,h1,h2,h3,h4⟩:=hp
 obtain⟨b,w,g1,g2,g3,g4⟩:=hq
 refine⟨a*b,v*w,by simp[h1,g1],by rw[Rat.intCast_mul,Rat.intCast_mul,←h2,←g2];grind,?_,?_⟩
 ·rw[Int.natAbs_mul];exact Nat.mul_le_mul h3 g3
 ·rw[Int.natAbs_mul];exact Nat.mul_le_mul h4 g4
theorem aD2 {L M:Nat} {p q:Rat} (hp:sm L p) (hq:sm M q) (h0:q≠0):sm (L*M) (p / q):=by
 obtain⟨a,v,h1,h2,h3,h4⟩:=hp
 obtain⟨b,w,g1,g2,g3,g4⟩:=hq
 have hv:(v:Rat)≠0:=fun h=>h1 (Rat.intCast_inj.1 h)
 have hw:(w:Rat)≠0:=fun h=>g1 (Rat.intCast_inj.1 h)
 have hb:b≠0:=fun h=>by
  rw[h] at g2
  rcases Rat.mul_eq_zero.1 g2 with e | e
  ·exact h0 e
  ·exact hw e
 refine⟨a*w,v*b,by simp[h1,hb],by rw[Rat.intCast_mul,Rat.intCast_mul,←h2,←g2];grind,?_,?_⟩
 ·rw[Int.natAbs_mul];exact Nat.mul_le_mul h3 g4
 ·rw[Int.natAbs_mul,Nat.mul_comm L M,Nat.mul_comm];exact Nat.mul_le_mul g3 h4
theorem aBT {L:Nat} {n:Int} (h:n.natAbs≤L) (hL:1≤L):sm L (n:Rat):=⟨n,1,by decide,by simp,h,by simpa using hL⟩
theorem nD {z:Int} {q:Rat} {L:Nat} (h:q=z) (hq: -(L:Rat)≤q∧q≤L):z.natAbs≤L:=by
 rw[h] at hq
 have h1: -(L:Int)≤z:=by
  have:=hq.1
  rw[←Rat.intCast_natCast,←Rat.intCast_neg] at this
  exact Rat.intCast_le_intCast.1 this
 have h2:z≤(L:Int):=by
  have:=hq.2
  rw[←Rat.intCast_natCast] at this
  exact Rat.intCast_le_intCast.1 this
 omega
theorem TZ.sm {m N K:Nat} {E:Nat→Nat→Rat} {t:Tab} (h:TZ m N K E t) {i c:Nat} (hi:i<m) (hc:c<N):Lp.sm (lid K m) (t.X i c):=by
 obtain⟨⟨a,ha⟩,hal⟩:=h.entry hi hc
 obtain⟨⟨v,hv⟩,hvl⟩:=h.nJ
 have hne:=h.vol
 refine⟨a,v,fun e=>hne (by rw[hv,e];rfl),by rw[←hv,ha],nD ha hal,nD hv hvl⟩
theorem TZ.rc {m N K W:Nat} {E:Nat→Nat→Rat} {t:Tab} (h:TZ m N K E t) {w:Nat→Rat} (hw: ∀c,c<N→isInt (w c)∧ -(W:Rat)≤w c∧w c≤W) {c:Nat} (hc:c<N) (hW:1≤W):Lp.sm ((m+1)*(W*lid K m)) (Lp.rc m w t c):=by
 obtain⟨hvi,hvl⟩:=h.nJ
 obtain⟨v,hv⟩:=hvi
 have hne:=h.vol
 have e:Lp.rc m w t c*Lp.vol m E t=w c*Lp.vol m E t - S m fun i=>w (t.bs i)*(t.X i c*Lp.vol m E t):=by
  unfold Lp.rc
  rw[show(S m fun i=>w (t.bs i)*(t.X i c*Lp.vol m E t))=(S m fun i=>t.X i c*w (t.bs i))*Lp.vol m E t by rw[←pO];exact bS fun i _=>by grind]
  grind
 have hint:isInt (Lp.rc m w t c*Lp.vol m E t):=by
  rw[e]
  exact M9 (lX (hw c hc).1 h.nJ.1) (zR fun i hi=>lX (hw _ (h.bs i hi)).1 (h.entry hi hc).1)
 have b1:=vF (hw c hc).2 hvl
 have b2:=Ju (n:=m) (f:=fun i=>w (t.bs i)*(t.X i c*Lp.vol m E t)) (B:=(W:Rat)*lid K m) fun i hi=>vF (hw _ (h.bs i hi)).2 (h.entry hi hc).2
 have hB:(((m+1)*(W*lid K m):Nat):Rat)=(m:Rat)*((W:Rat)*lid K m)+(W:Rat)*lid K m:=by
  rw[Rat.natCast_mul,Rat.natCast_mul,Rat.natCast_add]
  grind
 obtain⟨a,ha⟩:=hint
 refine⟨a,v,fun e0=>hne (by rw[hv,e0];rfl),by rw[←hv,ha],nD ha ?_,?_⟩
 ·rw[hB,e]
  grind
 ·have h1:=nD hv hvl
  have:lid K m≤(m+1)*(W*lid K m):=by
   calc lid K m=1*(1*lid K m):=by omega
    _≤(m+1)*(W*lid K m):=Nat.mul_le_mul (by omega) (Nat.mul_le_mul hW (Nat.le_refl _))
  omega
theorem Ay {K:Nat} (hK:1≤K): ∀ {m k:Nat},m≤k→lid K m≤lid K k
 | m, 0, h => by rw [show m = 0 by omega]; exact Nat.le_refl _
 | m, k + 1, h => by
   by_cases e:m=k+1
   ·rw[e];exact Nat.le_refl _
   ·have ih:=Ay hK (m:=m) (k:=k) (by omega)
    have:1*(1*lid K k)≤(k+1)*(K*lid K k):=Nat.mul_le_mul (by omega) (Nat.mul_le_mul hK (Nat.le_refl _))
    rw[lid];omega
def top :Nat:=lid 1000 17
theorem aC6 :top≤10^66:=by decide+kernel
theorem oM {m:Nat} (h:m≤17):lid 1000 m≤10^66:=Nat.le_trans (Ay (by omega) h) aC6
end Go.Proofs.YticmgmemnpcbbaaGreat.Lp

namespace Go.Proofs.YticmgmemnpcbbaaGreat.Vm
open Go Go.RowKit Go.Proofs
set_option linter.unusedSimpArgs false
set_option linter.unusedVariables false
theorem Ha (x y q:Int) (h:x=q*y) (hy:0<y) (hx:(lim x.natAbs).length≤300000) (hyl:(lim y.natAbs).length≤300000):RO Tryz.prog 282 [.agg (biC x),.agg (biC y)] (.agg (biC q)):=by
 have hq:sg (decide (x<0) !=decide (y<0)) (x.natAbs / y.natAbs)=q:=by
  have e1:x.natAbs=q.natAbs*y.natAbs:=by rw[h,Int.natAbs_mul]
  have e2:x.natAbs / y.natAbs=q.natAbs:=by rw[e1];exact Nat.mul_div_cancel _ (by omega)
  have e3:decide (y<0)=false:=decide_eq_false (by omega)
  have e4:decide (x<0)=decide (q<0):=decide_eq_decide.2 (by
   rw[h]
   constructor
   ·intro hh
    rcases Int.lt_or_le q 0 with g | g
    ·exact g
    ·have:=Int.mul_nonneg g (Int.le_of_lt hy);omega
   ·intro hh;exact Int.mul_neg_of_neg_of_pos hh hy)
  rw[e2,e3,e4,Bool.bne_false]
  exact It q
 refine aJ Tryz.func282 rfl rfl (by rw[Tryz.ntmps282];simp) fun bl=> ?_
 rw[Tryz.ntmps282,Tryz.results282]
 refine aE ?_
 rw[show biC x= [.bool (decide (x<0)),.sl (iv (lim x.natAbs))] from rfl,show biC y= [.bool (decide (y<0)),.sl (iv (lim y.natAbs))] from rfl]
 simp
 intro g hg0 hg g2 hg2 h2g hb2 g3 hg3 h32 h3g hb3
 refine aE ?_
 simp[h2g,Ne.symm h2g,h32,Ne.symm h32,h3g,Ne.symm h3g]
 refine aD (zZ _ _ (by omega) hx hyl) ?_
 simp[h2g,Ne.symm h2g,h32,Ne.symm h32,h3g,Ne.symm h3g]
 refine aE ?_
 simp[h2g,Ne.symm h2g,h32,Ne.symm h32,h3g,Ne.symm h3g]
 refine aD (gS _ _) ?_
 simp[h2g,Ne.symm h2g,h32,Ne.symm h32,h3g,Ne.symm h3g]
 rw[hq]
 refine aC ?_
 simp[h2g,Ne.symm h2g,h32,Ne.symm h32,h3g,Ne.symm h3g]
 exact aK [.agg (biC q)] 1 (by simp[biC,h2g,Ne.symm h2g,h32,Ne.symm h32,h3g,Ne.symm h3g]) lG (by simp[hg,hb2,hb3])

@[simp] theorem aGU (x y : Int) : splice (biC x) 0 (biC y) = biC y := by simp [splice, biC]
@[simp] theorem aJK (x : Int) : (biC x).take 2 = biC x := rfl
def zv (n:Nat) (f:Nat→Int):List (List V):=(List.range n).map fun c=>biC (f c)
@[simp] theorem aGH (n : Nat) (f : Nat → Int) : (zv n f).length = n := by simp [zv]
@[simp] theorem Y5 (n : Nat) (f : Nat → Int) (c : Nat) (h : c < (zv n f).length) : (zv n f)[c] = biC (f c) := by simp [zv]
theorem aOI (n:Nat) (f:Nat→Int):(zv n f).all (fun e=>e.all V.cl)=true:=by simp[zv,Pw]
def zzv (r n:Nat) (Z:Nat→Nat→Int):List (List V):=(List.range r).map fun i=> [.sl (zv n (Z i))]
@[simp] theorem aET (r n : Nat) (Z : Nat → Nat → Int) : (zzv r n Z).length = r := by simp [zzv]
@[simp] theorem Qu (r n : Nat) (Z : Nat → Nat → Int) (i : Nat) (h : i < (zzv r n Z).length) : (zzv r n Z)[i] = [.sl (zv n (Z i))] := by simp [zzv]
def lb (r:Nat) (bs:Nat→Nat):List Int:=(List.range r).map fun i=>(bs i:Int)
@[simp] theorem Lh (r : Nat) (bs : Nat → Nat) : (lb r bs).length = r := by simp [lb]
@[simp] theorem zW (r : Nat) (bs : Nat → Nat) (i : Nat) (h : i < (lb r bs).length) : (lb r bs)[i] = (bs i : Int) := by simp [lb]
def lv (n:Nat) (f:Nat→Bool):List (List V):=(List.range n).map fun c=> [.bool (f c)]
@[simp] theorem aF3 (n : Nat) (f : Nat → Bool) : (lv n f).length = n := by simp [lv]
@[simp] theorem Vc (n : Nat) (f : Nat → Bool) (c : Nat) (h : c < (lv n f).length) : (lv n f)[c] = [.bool (f c)] := by simp [lv]
theorem aN9 (n:Nat) (f:Nat→Bool):(lv n f).all (fun e=>e.all V.cl)=true:=by simp[lv,V.cl]
def mU (r n:Nat) (Z:Nat→Nat→Int) (d:Int) (bs:Nat→Nat) (fr:Nat→Bool):List V:=
 [.sl (zzv r (n+1) Z),.bool (decide (d<0)),.sl (iv (lim d.natAbs)),.sl (iv (lb r bs)),.int .i64 n,.sl (lv n fr)]
def lz (n:Nat) (f:Nat→Int):List Int:=(List.range n).map f
@[simp] theorem sD (n : Nat) (f : Nat → Int) : (lz n f).length = n := by simp [lz]
@[simp] theorem zS (n : Nat) (f : Nat → Int) (c : Nat) (h : c < (lz n f).length) : (lz n f)[c] = f c := by simp [lz]
@[irreducible] def iL : Nat := 10 ^ 66
@[irreducible] def E6 : Nat := 10 ^ 200
theorem Je :E6<LB^24:=by unfold E6;decide+kernel
theorem Oc :iL*iL≤E6:=by unfold E6 iL;decide+kernel
theorem Ur :41*(iL*1000)≤E6:=by unfold E6 iL;decide+kernel
theorem Ss :iL≤E6:=by unfold E6 iL;decide+kernel
theorem Q8 :1000≤iL:=by unfold iL;decide+kernel
def xK (x:Int):Prop:=x.natAbs≤E6
theorem eN {x:Int} (h:xK x):(lim x.natAbs).length≤24:=aM.2 (Nat.lt_of_le_of_lt h Je)
structure ZB (r n : Nat) (Z : Nat → Nat → Int) (d : Int) : Prop where
 z: ∀i c,i<r→c≤n→(Z i c).natAbs≤iL
 dl:d.natAbs≤iL
 d0:0<d
 rl:r≤40
 nl:n≤100
def gTo (Z:Nat→Nat→Int) (d:Int) (bs:Nat→Nat) (O:Nat→Int) (k:Nat):Nat→Int
 | 0 => d * O k
 | i + 1 => if O (bs i) ≠ 0 ∧ Z i k ≠ 0 then gTo Z d bs O k i - Z i k * O (bs i) else gTo Z d bs O k i
theorem Ul {r n:Nat} {Z:Nat→Nat→Int} {d:Int} {bs:Nat→Nat} {O:Nat→Int} {k:Nat} (h:ZB r n Z d) (hO: ∀c,(O c).natAbs≤1000) (hk:k≤n): ∀i,i≤r→(gTo Z d bs O k i).natAbs≤(i+1)*(iL*1000)
 | 0, _ => by
   have h1:(gTo Z d bs O k 0).natAbs=d.natAbs*(O k).natAbs:=Int.natAbs_mul _ _
   have h2:d.natAbs*(O k).natAbs≤iL*1000:=Nat.mul_le_mul h.dl (hO k)
   have h3:(0+1)*(iL*1000)=iL*1000:=by rw[Nat.zero_add,Nat.one_mul]
   rw[h3,h1]
   exact h2
 | i + 1, hi => by
   have ih:=Ul h hO hk (bs:=bs) i (by omega)
   have h1:(Z i k*O (bs i)).natAbs≤iL*1000:=by rw[Int.natAbs_mul];exact Nat.mul_le_mul (h.z i k (by omega) hk) (hO _)
   have e:(i+1+1)*(iL*1000)=(i+1)*(iL*1000)+iL*1000:=by rw[Nat.add_mul (i+1) 1,Nat.one_mul]
   rw[e,gTo]
   split
   ·exact Nat.le_trans (Int.natAbs_sub_le _ _) (Nat.add_le_add ih h1)
   ·exact Nat.le_trans ih (Nat.le_add_right _ _)
theorem Fa {r n:Nat} {Z:Nat→Nat→Int} {d:Int} {bs:Nat→Nat} {O:Nat→Int} {k:Nat} (h:ZB r n Z d) (hO: ∀c,(O c).natAbs≤1000) (hk:k≤n) (i:Nat) (hi:i≤r):xK (gTo Z d bs O k i):=by
 have h1:=Ul h hO hk (bs:=bs) i hi
 have h2:(i+1)*(iL*1000)≤41*(iL*1000):=Nat.mul_le_mul_right _ (by have:=h.rl;omega)
 exact Nat.le_trans h1 (Nat.le_trans h2 Ur)
theorem kD {a b:Int} (ha:a.natAbs≤iL) (hb:b.natAbs≤iL):xK (a*b):=by
 unfold xK
 rw[Int.natAbs_mul]
 exact Nat.le_trans (Nat.mul_le_mul ha hb) Oc
theorem kH {a:Int} (ha:a.natAbs≤iL):xK a:=Nat.le_trans ha Ss
theorem Rv {a:Int} (ha:a.natAbs≤1000):xK a:=kH (Nat.le_trans ha Q8)
theorem Vd (r n:Nat) (Z:Nat→Nat→Int) (d:Int) (bs:Nat→Nat) (fr:Nat→Bool) (O:Nat→Int) (k:Nat) (h:ZB r n Z d) (hO: ∀c,(O c).natAbs≤1000) (hk:k<n) (hb: ∀i,i<r→bs i<n):
  RO Tryz.prog 256 [.ptr (mU r n Z d bs fr),.sl (iv (lz n O)),.int .i64 k] (.int .i64 (gTo Z d bs O k r).sign):=by
 have hr:=h.rl
 have hn:=h.nl
 have hint: ∀c,RO Tryz.prog 160 [.int .i64 (O c)] (.agg (biC (O c))):=fun c=>tD _ (by have:=hO c;omega)
 have hOl: ∀c,(lim (O c).natAbs).length≤400000:=fun c=>Nat.le_trans (eN (Rv (hO c))) (by omega)
 have hdl:(lim d.natAbs).length≤400000:=Nat.le_trans (eN (kH h.dl)) (by omega)
 have hgl: ∀i,i≤r→(lim (gTo Z d bs O k i).natAbs).length≤24:=fun i hi=>eN (Fa h hO (by omega) i hi)
 have hT:=lW d (O k) hdl (hOl k)
 rw[show biC d= [.bool (decide (d<0)),.sl (iv (lim d.natAbs))] from rfl] at hT
 refine aJ Tryz.func256 rfl rfl (by rw[Tryz.ntmps256];simp) fun bl=> ?_
 rw[Tryz.ntmps256,Tryz.results256]
 refine aC ?_
 simp
 refine aY aL bl (Sub.refl _) [0,1,2,3,4,5,6,7,8,9] 2 (by kernel_rfl) ?_
 simp[mU,hk]
 refine aN (hint k) ?_
 simp
 refine aN hT ?_
 simp
 refine Dz 10 ?_
 simp
 intro g7 hg7 hb7
 refine⟨by simp[hb7],Dz 11 ?_⟩
 simp
 refine⟨by simp[hb7],Dy ?_⟩
 simp
 refine aC ?_
 simp
 refine aI (fun i:Nat=> [(0,.ptr (mU r n Z d bs fr)),(1,.sl (iv (lz n O))),(2,.int .i64 k),(7,.loc g7 2 0 0),(23,.sl (iv (lb r bs))),(24,.int .i64 r),(25,.int .i64 i)]) (fun i=>upd bl g7 (some ⟨2,[biC (gTo Z d bs O k i)]⟩)) (fun i=>i≤r) (fun i=>r - i) _ 0 (Nat.zero_le _) ⟨rfl,by simp[mU],by rw[gTo];exact sub_eq rfl⟩ ?_
 intro i hi
 have wi:IntKind.i64.wrap ((i:Int)+1)=(i:Int)+1:=i64_in (by omega) (by omega)
 refine aE ?_
 simp
 refine aE ?_
 simp
 refine⟨fun hlt=> ?_,fun hlt=> ?_⟩
 ·have hbi:=hb i hlt
  have hS:=mV (Z i k)
  refine aO (aT ?_)
  refine aE ?_
  simp[hlt]
  refine aE ?_
  simp
  refine bN [(0,.ptr (mU r n Z d bs fr)),(1,.sl (iv (lz n O))),(2,.int .i64 k),(7,.loc g7 2 0 0),(8,.int .i64 i),(9,.int .i64 (bs i)),(23,.sl (iv (lb r bs))),(24,.int .i64 r),(25,.int .i64 i)] _ (upd bl g7 (some ⟨2,[biC (gTo Z d bs O k i)]⟩)) 48 (.bool (decide (O (bs i)≠0∧Z i k≠0))) ⟨rfl,by simp,Sub.refl _⟩ rfl ?_ ?_
  ·by_cases h0:O (bs i)=0
   ·simp[hbi,h0]
   ·simp[hbi,mU,hlt,show k<n+1 by omega,h0]
    refine aD hS ?_
    simp[Int.sign_eq_zero_iff_zero]
    by_cases h1:Z i k=0<;>simp[h1]
  have hTi:=lW (Z i k) (O (bs i)) (Nat.le_trans (eN (kH (h.z i k hlt (by omega)))) (by omega)) (hOl _)
  have hP:(lim (Z i k*O (bs i)).natAbs).length≤24:=eN (kD (h.z i k hlt (by omega)) (Nat.le_trans (hO _) Q8))
  have hM:=O8 (gTo Z d bs O k i) (Z i k*O (bs i)) (Nat.le_trans (hgl i hi) (by omega)) (Nat.le_trans hP (by omega))
  simp
  refine aC ?_
  simp
  refine⟨fun h0 h1=> ?_,fun hno=> ?_⟩
  ·refine bY aL [0,1,2,3,4,5,6,7,8,9,10,11,12,13,14,15,16,17] 1 18 (by kernel_rfl) ?_
   simp[hbi,mU,hlt,show k<n+1 by omega]
   refine aN (hint _) ?_
   simp
   refine aN hTi ?_
   simp
   refine aN hM ?_
   simp
   refine bZ (i:=18) (by kernel_rfl) rfl rfl rfl ?_
   simp
   refine Dy ?_
   simp
   refine aC ?_
   simp[wi,aB]
   exact⟨i+1,by omega,by omega,rfl,by simp[mU],sub_eq (by rw[gTo,if_pos ⟨h0,h1⟩])⟩
  ·refine aC ?_
   simp[wi,aB]
   refine⟨i+1,by omega,by omega,rfl,by simp,sub_eq (by rw[gTo,if_neg];simpa using hno)⟩
 ·have hir:i=r:=by omega
  subst hir
  simp
  refine aD (mV _) ?_
  simp
  exact aK [.int .i64 (gTo Z d bs O k i).sign] 0 (by simp) (by simp[frz]) (by simp[hb7])
end Go.Proofs.YticmgmemnpcbbaaGreat.Vm
