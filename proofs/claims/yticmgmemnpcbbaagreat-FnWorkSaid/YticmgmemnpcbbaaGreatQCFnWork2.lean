import Derived.OpenShut
import Derived.ShutString
import Derived.ChangeOld
import Derived.Carry
import Derived.SizedLaws
import Derived.Deep.Slices
import Derived.Test.YticmgmemnpcbbaaGreatRows
import Derived.WalkKit
import Derived.ProofKit
import Derived.JoinedOf
import Derived.Still
import Derived.Test.YticmgmemnpcbbaaGreatProg
import Derived.KernelRfl
import Derived.Test.YticmgmemnpcbbaaGreatQCFnWork1

namespace Go.Proofs.YticmgmemnpcbbaaGreat.Vm
open Go Go.RowKit
set_option linter.unusedSimpArgs false
set_option linter.unusedVariables false
section
variable {P : Program} {K : St → Prop} {σ : St} {w0 : World} {M F : Nat → Prop} {a : Act} {w : World} {bl : Int → Option Blk}
theorem W7 {o:Oper} {c:Call} {f:Operand} (ho:o.op= .call c) (hc:c.callee= .value f) (hT:T P o K σ) (hs:Sim w0 M F σ a w) {Q:Exit→Act→World→Prop} :o.wp P a w (Nx w0 M F K) Q:=by
 unfold T at hT;rw[ho] at hT
 simp only[hc] at hT
 obtain⟨⟨g,xs⟩,hv,hen,hK⟩:=hT
 have hf:=hs.ev f
 unfold callV at hv
 split at hv
 ·rename_i g' cap hfe
  cases hv
  rw[hfe] at hf
  generalize hav:a.eval f=av at hf
  cases hf
  rename_i arr hlen hr
  obtain⟨fn,hfn,aGE,aG1⟩:=hen.out
  have jH:(execOp a.eval o).run P w= .ok (.enter g ((c.args.map a.eval)++arr)) w:=by
   simp only[execOp,ho,resolve,hc,hav,Deferred.ofValue,Sem.run_bind,Sem.run_pure,Result.andThen_ok,invoke,callFunc,run_program,hfn]
   rw[if_neg (by rw[aGE];simp)]
   rw[if_neg (by rw[aG1];simp)]
   simp
  unfold Oper.wp
  rw[jH]
  refine(hK w0 M F w _ hs.mem ⟨by simp[hlen],fun i x hx=> ?_⟩).mono fun e w' he=> ?_
  ·rcases Nat.lt_or_ge i c.args.size with hi | hi
   ·rw[List.getElem?_append_left (by simpa using hi),List.getElem?_map] at hx
    rcases h:c.args.toList[i]? with _ | y
    ·rw[h] at hx;cases hx
    ·rw[h] at hx;cases hx
     rw[Array.getElem?_toList] at h
     have:(c.args.map a.eval++arr).getD i undef=a.eval y:=by
      rw[Array.getD_eq_getD_getElem?,Array.getElem?_append_left (by simpa using hi)]
      simp[h]
     rw[this];exact hs.ev y
   ·rw[List.getElem?_append_right (by simpa using hi)] at hx
    have:=hr _ x hx
    have h2:(c.args.map a.eval++arr).getD i undef=arr.getD (i - c.args.size) undef:=by
     rw[Array.getD_eq_getD_getElem?,Array.getElem?_append_right (by simpa using hi)]
     simp[Array.getD_eq_getD_getElem?]
    rw[h2]
    simpa using this
  ·obtain⟨v,r,bl',F',rfl,hF,hh,hsh,hm,bU,hk⟩:=he
   have hs':Sim w0 M F' ({ σ with bl:=bl' } :St) a w':=⟨hm,hs.size,fun t ht=>(hs.sl t ht).mono hF hh hsh,hs.defers⟩
   exact⟨_,F',hF,hs'.put bU,hk⟩
 ·cases hv
theorem A6 {o:Oper} (hT:T P o K σ) (hs:Sim w0 M F σ a w) {Q:Exit→Act→World→Prop} :o.wp P a w (Nx w0 M F K) Q:=by
 cases ho:o.op with
 | move x => exact X5 ho hT hs
 | assign x => exact B2 ho hT hs
 | pick c x y => exact U6 ho hT hs
 | alloc t => exact N3 ho hT hs
 | box t x => exact Dr ho hT hs
 | build t ps => exact G2 ho hT hs
 | buildSlice t n ps => exact sM ho hT hs
 | load t x => exact S3 ho hT hs
 | store t x y => exact P4 ho hT hs
 | nilCheck x => exact vJ ho hT hs
 | binOp op t x y t' => exact G0 ho hT hs
 | unOp u t x => exact X1 ho hT hs
 | convert s d x => exact xZ ho hT hs
 | makeFunc f first cap => exact uT ho hT hs
 | makeSlice t l c => exact tW ho hT hs
 | slice t x lo hi mx => exact sound_slice ho hT hs
 | fieldAddr t x i => exact tX ho hT hs
 | field t x i => exact J1 ho hT hs
 | indexAddr t x i => exact tS ho hT hs
 | index t x i => exact N0 ho hT hs
 | extract x i => exact xU ho hT hs
 | lookup t x i co => exact B7 ho hT hs
 | call c =>
   cases hc:c.callee with
   | value f=>exact W7 ho hc hT hs
   | invoke r m=>unfold T at hT;rw[ho] at hT;simp only[hc] at hT
   | builtin b=>
     by_cases h1:b= .len
     ·subst h1;exact Ck ho hc hT hs
     ·by_cases h2:b= .append
      ·subst h2;exact B4 ho hc hT hs
      ·by_cases h3:b= .min
       ·subst h3;exact Cx ho hc hT hs
       unfold T at hT;rw[ho] at hT;simp only[hc] at hT
       cases b<;>first | exact hT.elim | exact absurd rfl h1 | exact absurd rfl h2 | exact absurd rfl h3
 | _ => unfold T at hT; rw [ho] at hT; exact hT.elim
def onG (x:V) (s:Prop) (k:Bool→Prop):Prop:=match x with | .bool q=>k q | .tup []=>s | _=>False
@[simp] theorem wJ (q : Bool) (s : Prop) (k : Bool → Prop) : onG (.bool q) s k = k q := rfl
@[simp] theorem wK (s : Prop) (k : Bool → Prop) : onG (.tup []) s k = s := rfl
theorem fR {x:V} {s:Prop} {k:Bool→Prop} (h:onG x s k):(∃q,x= .bool q∧k q)∨(x= .tup []∧s):=by
 unfold onG at h;split at h
 ·exact .inl ⟨_,rfl,h⟩
 ·exact .inr ⟨rfl,h⟩
 ·exact h.elim
theorem kJ {F:Nat→Prop} {w:World} :Rep F w (.tup []) undef:= .tup [] #[] rfl fun i x h=>by cases h
def Ops (P:Program) (ds:List (Option Tmp)):List Oper→(St→Prop)→St→Prop
 | [], K, σ => K σ
 | o :: rest, K, σ => match o.guard with
   | none=>T P o (Ops P ds rest K) σ
   | some (j,b)=>match ds[j]? with
     | some (some d)=>onG (σ.ev (.tmp d)) (Ops P ds rest K (σ.put o.dst (.tup []))) fun q=>(q=b→T P o (Ops P ds rest K) (σ.put (some d) (.bool b)))∧(q=(!b)→Ops P ds rest K ((σ.put (some d) (.bool (!b))).put o.dst (.tup [])))
     | _=>False
theorem vL {ops:Array Oper} {j:Nat} {d:Tmp} {q:Bool} (hd:(ops.toList.map (·.dst))[j]? =some (some d)) (hs:Sim w0 M F σ a w) (hq:σ.ev (.tmp d)= .bool q):yielded ops a.tmps j=some q:=by
 have h1:(ops[j]?).bind (·.dst)=some d:=by
  rw[List.getElem?_map] at hd
  rw[Array.getElem?_toList] at hd
  rcases h:ops[j]? with _ | o
  ·rw[h] at hd;cases hd
  ·rw[h] at hd;simpa using hd
 have hdn:d<σ.n:=by
  rcases Nat.lt_or_ge d σ.n with h | h
  ·exact h
  ·simp only[St.ev] at hq;rw[if_neg (Nat.not_lt.2 h)] at hq;cases hq
 have hv:a.tmps.getD d undef= .bool q:=xH (hs.ev (.tmp d)) hq
 have h2:a.tmps[d]? =some (.bool q):=by
  have hlt:d<a.tmps.size:=by rw[hs.size];exact hdn
  rw[Array.getElem?_eq_getElem hlt]
  simpa [hlt] using hv
 unfold yielded
 rw[h1]
 simp only[Option.bind_some,h2]
theorem lP {ops:Array Oper} {j:Nat} {d:Tmp} (hd:(ops.toList.map (·.dst))[j]? =some (some d)) (hs:Sim w0 M F σ a w) (hq:σ.ev (.tmp d)= .tup []):yielded ops a.tmps j=none:=by
 have h1:(ops[j]?).bind (·.dst)=some d:=by
  rw[List.getElem?_map] at hd
  rw[Array.getElem?_toList] at hd
  rcases h:ops[j]? with _ | o
  ·rw[h] at hd;cases hd
  ·rw[h] at hd;simpa using hd
 have hdn:d<σ.n:=by
  rcases Nat.lt_or_ge d σ.n with h | h
  ·exact h
  ·simp only[St.ev] at hq;rw[if_neg (Nat.not_lt.2 h)] at hq;cases hq
 have hr:=hs.ev (.tmp d)
 rw[hq] at hr
 have h2: ∃arr,a.tmps[d]? =some (.tuple arr):=by
  have hlt:d<a.tmps.size:=by rw[hs.size];exact hdn
  have hv:a.tmps.getD d undef=a.tmps[d]:=by simp[hlt]
  have hr':Rep F w (.tup []) a.tmps[d]:=by rw[←hv];exact hr
  generalize hx:a.tmps[d]=x at hr'
  cases hr'
  exact⟨_,by rw[Array.getElem?_eq_getElem hlt,hx]⟩
 obtain⟨arr,h2⟩:=h2
 unfold yielded
 rw[h1]
 simp only[Option.bind_some,h2]
theorem kM {d:Tmp} {q:Bool} (hq:σ.ev (.tmp d)= .bool q):σ.put (some d) (.bool q)=σ:=by
 have hdn:d<σ.n:=by
  rcases Nat.lt_or_ge d σ.n with h | h
  ·exact h
  ·simp only[St.ev] at hq;rw[if_neg (Nat.not_lt.2 h)] at hq;cases hq
 simp only[St.ev,if_pos hdn] at hq
 show({ σ with sl:=upd σ.sl d (.bool q) } :St)=σ
 have:upd σ.sl d (.bool q)=σ.sl:=by
  funext x
  by_cases hx:x=d
  ·subst hx;rw[bO,hq]
  ·rw[aL _ _ _ _ hx]
 rw[this]
theorem zU {ops:Array Oper} {Q:Exit→Act→World→Prop} {F0:Nat→Prop} {w0:World} {M:Nat→Prop} {K:St→Prop} (hQ: ∀σ F a w,(∀b,F0 b→F b)→Sim w0 M F σ a w→K σ→Q .normal a w) (l:List Oper):
  ∀(σ:St) (F:Nat→Prop) (a:Act) (w:World),(∀b,F0 b→F b)→Ops P (ops.toList.map (·.dst)) l K σ→Sim w0 M F σ a w→wpList P ops Q l a w:=by
 induction l with
 | nil => intro σ F a w hF h hs; exact hQ σ F a w hF hs h
 | cons o rest ih =>
   intro σ F a w hF h hs
   have next:T P o (Ops P (ops.toList.map (·.dst)) rest K) σ→o.wp P a w (wpList P ops Q rest) Q:=fun hT=>
    Oper.wp_mono (fun a' w' hn=>by
     obtain⟨σ',F',hF',hs',hK⟩:=hn
     exact ih σ' F' a' w' (fun b hb=>hF' b (hF b hb)) hK hs') (A6 hT hs)
   unfold Ops at h
   unfold wpList
   split at h
   ·rename_i hg
    rw[if_pos (by simp[Region.wanted,hg])]
    exact .inl (next h)
   ·rename_i j b hg
    split at h
    ·rename_i d hd
     rcases fR h with ⟨q,hq,h1,h2⟩| ⟨hq,h1⟩
     rotate_left
     ·rw[if_neg (by simp[Region.wanted,hg,lP hd hs hq])]
      exact ih _ F _ w hF h1 (hs.put kJ)
     have hy:=vL hd hs hq
     by_cases hqb:q=b
     ·rw[if_pos (by simp[Region.wanted,hg,hy,hqb])]
      have h1':=h1 hqb
      subst hqb
      rw[kM hq] at h1'
      exact .inl (next h1')
     ·rw[if_neg (by simp[Region.wanted,hg,hy,hqb])]
      have Q6:q= !b:=by cases q<;>cases b<;>simp_all
      have h2':=h2 Q6
      rw[←Q6,kM hq] at h2'
      exact ih _ F _ w hF h2' (hs.put kJ)
    ·exact h.elim
theorem sX {id:Nat} {ops:Array Oper} {K:Ex→St→Prop} {σ:St} (h:Ops P (ops.toList.map (·.dst)) ops.toList (K .normal) σ):AW P (.region id ops false) K σ:=
 fun w0 M F a w hs=>wp_region_list (zU (F0:=F) (w0:=w0) (M:=M) (fun σ' F' a' w' hF' hs' hK=>⟨.normal,σ',F',rfl,hF',hs',hK⟩) _ σ F a w (fun _ h=>h) h hs)
theorem B3 {o:Oper} {K:St→Prop} {σ:St} (h:T P o K σ):T P o (fun σ'=>K σ'∧σ'.n=σ.n∧ ∀t,o.dst≠some t→σ'.sl t=σ.sl t) σ:=by
 have put: ∀(bl':Int→Option Blk) (v:V),(({ σ with bl:=bl' } :St).put o.dst v).n=σ.n∧ ∀t,o.dst≠some t→(({ σ with bl:=bl' } :St).put o.dst v).sl t=σ.sl t:=by
  intro bl' v
  cases hd:o.dst with
  | none => exact ⟨rfl, fun _ _ => rfl⟩
  | some d => exact ⟨rfl, fun t ht => aL _ _ _ _ (fun e => ht (by rw [e]))⟩
 have lF: ∀(v:V),(σ.put o.dst v).n=σ.n∧ ∀t,o.dst≠some t→(σ.put o.dst v).sl t=σ.sl t:=put σ.bl
 unfold T at h ⊢
 cases ho:o.op<;>rw[ho] at h<;>simp only at h ⊢ <;>try exact h.elim
 case move x=>exact⟨h,lF _⟩
 case assign x=>exact⟨h,lF _⟩
 case pick c x y=>obtain⟨q,hq,hK⟩:=kK h;rw[hq];exact⟨hK,lF _⟩
 case alloc t=>obtain⟨cs,h1,h2⟩:=h;exact⟨cs,h1,fun g h0 hg=>⟨h2 g h0 hg,put _ _⟩⟩
 case box t x=>exact⟨h.1,fun g h0 hg=>⟨h.2 g h0 hg,put _ _⟩⟩
 case build t ps=>obtain⟨cs,h1,h2,r,h3,h4⟩:=h;exact⟨cs,h1,h2,r,h3,h4,lF _⟩
 case buildSlice t n ps=>obtain⟨e,h1,cs,h2,h3,h4,r,h5,h6⟩:=h;exact⟨e,h1,cs,h2,h3,h4,r,h5,fun g h0 hg=>⟨h6 g h0 hg,put _ _⟩⟩
 case load t x=>obtain⟨cs,h1,v,h2,h3⟩:=h;exact⟨cs,h1,v,h2,h3,lF _⟩
 case store t x y=>
  split at h
  ·obtain⟨b,h1,e,h2,h3,h4,h5,h6,h7⟩:=h
   exact⟨b,h1,e,h2,h3,h4,h5,h6,h7,put _ _⟩
  ·exact h.elim
 case nilCheck x=>obtain⟨v,h1,h2⟩:=h;exact⟨v,h1,h2,lF _⟩
 case binOp=>obtain⟨v,h1,h2⟩:=h;exact⟨v,h1,h2,lF _⟩
 case unOp=>obtain⟨v,h1,h2⟩:=h;exact⟨v,h1,h2,lF _⟩
 case convert=>obtain⟨v,h1,h2⟩:=h;exact⟨v,h1,h2,lF _⟩
 case makeFunc f first cap=>
  cases f<;>simp only at h ⊢ <;>try exact h.elim
  exact⟨h.1,h.2,lF _⟩
 case makeSlice=>obtain⟨e,h1,cs,h2,n,h3,h4,h5,h6,h7⟩:=h;exact⟨e,h1,cs,h2,n,h3,h4,h5,h6,fun g h0 hg=>⟨h7 g h0 hg,put _ _⟩⟩
 case slice t x lo hi mx=>
  cases mx<;>simp only at h ⊢
  ·obtain⟨v,h1,h2⟩:=h;exact⟨v,h1,h2,lF _⟩
 case fieldAddr=>obtain⟨v,h1,h2⟩:=h;exact⟨v,h1,h2,lF _⟩
 case field=>obtain⟨v,h1,h2⟩:=h;exact⟨v,h1,h2,lF _⟩
 case indexAddr=>obtain⟨v,h1,h2⟩:=h;exact⟨v,h1,h2,lF _⟩
 case index=>obtain⟨v,h1,h2⟩:=h;exact⟨v,h1,h2,lF _⟩
 case extract=>obtain⟨v,h1,h2⟩:=h;exact⟨v,h1,h2,lF _⟩
 case lookup=>obtain⟨v,h1,h2⟩:=h;exact⟨v,h1,h2,lF _⟩
 case call c=>
  split at h
  ·obtain⟨p,h1,h2⟩:=h
   refine⟨p,h1,h2.1,fun w0 M F w vs hm hr=>(h2.2 w0 M F w vs hm hr).mono fun e w' ⟨v,r,bl',F',g1,g2,g3,g4,g5,g6,g7⟩=>⟨v,r,bl',F',g1,g2,g3,g4,g5,g6,g7,put _ _⟩⟩
  ·obtain⟨v,h1,h2,h3,h4⟩:=h;exact⟨v,h1,h2,h3,h4,lF _⟩
  ·obtain⟨v,h1,h2,h3⟩:=h;exact⟨v,h1,h2,h3,lF _⟩
  ·obtain⟨p,h1,h2,h3,h4,h5⟩:=h;exact⟨p,h1,h2,h3,h4,fun g h0 hg=>⟨h5 g h0 hg,put _ _⟩⟩
  ·exact h.elim
theorem gW {o:Oper} {K K':St→Prop} {σ:St} (h:T P o K σ) (hk: ∀σ,K σ→K' σ):T P o K' σ:=by
 unfold T at h ⊢
 cases ho:o.op<;>rw[ho] at h<;>simp only at h ⊢ <;>try exact h.elim
 case move x=>exact hk _ h
 case assign x=>exact hk _ h
 case pick c x y=>obtain⟨q,hq,hK⟩:=kK h;rw[hq];exact hk _ hK
 case alloc t=>obtain⟨cs,h1,h2⟩:=h;exact⟨cs,h1,fun g h0 hg=>hk _ (h2 g h0 hg)⟩
 case box t x=>exact⟨h.1,fun g h0 hg=>hk _ (h.2 g h0 hg)⟩
 case build t ps=>obtain⟨cs,h1,h2,r,h3,h4⟩:=h;exact⟨cs,h1,h2,r,h3,hk _ h4⟩
 case buildSlice t n ps=>obtain⟨e,h1,cs,h2,h3,h4,r,h5,h6⟩:=h;exact⟨e,h1,cs,h2,h3,h4,r,h5,fun g h0 hg=>hk _ (h6 g h0 hg)⟩
 case load t x=>obtain⟨cs,h1,v,h2,h3⟩:=h;exact⟨cs,h1,v,h2,hk _ h3⟩
 case store t x y=>
  split at h
  ·obtain⟨b,h1,e,h2,h3,h4,h5,h6,h7⟩:=h
   exact⟨b,h1,e,h2,h3,h4,h5,h6,hk _ h7⟩
  ·exact h.elim
 case nilCheck x=>obtain⟨v,h1,h2⟩:=h;exact⟨v,h1,hk _ h2⟩
 case binOp=>obtain⟨v,h1,h2⟩:=h;exact⟨v,h1,hk _ h2⟩
 case unOp=>obtain⟨v,h1,h2⟩:=h;exact⟨v,h1,hk _ h2⟩
 case convert=>obtain⟨v,h1,h2⟩:=h;exact⟨v,h1,hk _ h2⟩
 case makeFunc f first cap=>
  cases f<;>simp only at h ⊢ <;>try exact h.elim
  exact⟨h.1,hk _ h.2⟩
 case makeSlice=>obtain⟨e,h1,cs,h2,n,h3,h4,h5,h6,h7⟩:=h;exact⟨e,h1,cs,h2,n,h3,h4,h5,h6,fun g h0 hg=>hk _ (h7 g h0 hg)⟩
 case slice t x lo hi mx=>
  cases mx<;>simp only at h ⊢
  ·obtain⟨v,h1,h2⟩:=h;exact⟨v,h1,hk _ h2⟩
 case fieldAddr=>obtain⟨v,h1,h2⟩:=h;exact⟨v,h1,hk _ h2⟩
 case field=>obtain⟨v,h1,h2⟩:=h;exact⟨v,h1,hk _ h2⟩
 case indexAddr=>obtain⟨v,h1,h2⟩:=h;exact⟨v,h1,hk _ h2⟩
 case index=>obtain⟨v,h1,h2⟩:=h;exact⟨v,h1,hk _ h2⟩
 case extract=>obtain⟨v,h1,h2⟩:=h;exact⟨v,h1,hk _ h2⟩
 case lookup=>obtain⟨v,h1,h2⟩:=h;exact⟨v,h1,hk _ h2⟩
 case call c=>
  split at h
  ·obtain⟨p,h1,h2⟩:=h
   refine⟨p,h1,h2.1,fun w0 M F w vs hm hr=>(h2.2 w0 M F w vs hm hr).mono fun e w' ⟨v,r,bl',F',g1,g2,g3,g4,g5,g6,g7⟩=>⟨v,r,bl',F',g1,g2,g3,g4,g5,g6,hk _ g7⟩⟩
  ·obtain⟨v,h1,h2,h3,h4⟩:=h;exact⟨v,h1,h2,h3,hk _ h4⟩
  ·obtain⟨v,h1,h2,h3⟩:=h;exact⟨v,h1,h2,hk _ h3⟩
  ·obtain⟨p,h1,h2,h3,h4,h5⟩:=h;exact⟨p,h1,h2,h3,h4,fun g h0 hg=>hk _ (h5 g h0 hg)⟩
  ·exact h.elim
theorem I5 {ds:List (Option Tmp)} {K K':St→Prop} (l:List Oper): ∀ {σ:St},Ops P ds l K σ→(∀σ,K σ→K' σ)→Ops P ds l K' σ:=by
 induction l with
 | nil => intro σ h hk; exact hk _ h
 | cons o l ih =>
   intro σ h hk
   unfold Ops at h ⊢
   split at h
   ·exact gW h fun σ h=>ih h hk
   ·split at h
    ·rcases fR h with ⟨q,hq,h1,h2⟩| ⟨hq,h1⟩
     ·simp only[*,wJ]
      exact⟨fun hh=>gW (h1 hh) fun σ h=>ih h hk,fun hh=>ih (h2 hh) hk⟩
     ·simp only[*,wK]
      exact ih h1 hk
    ·exact h.elim
theorem zX {ds:List (Option Tmp)} {K:St→Prop} (l:List Oper): ∀ {σ:St},Ops P ds l K σ→Ops P ds l (fun σ'=>K σ'∧σ'.n=σ.n∧ ∀t,some t∉l.map (·.dst)→σ'.sl t=σ.sl t) σ:=by
 induction l with
 | nil => intro σ h; exact ⟨h, rfl, fun _ _ => rfl⟩
 | cons o l ih =>
   intro σ h
   have next: ∀σ1:St,(σ1.n=σ.n∧ ∀t,o.dst≠some t→σ1.sl t=σ.sl t)→Ops P ds l K σ1→Ops P ds l (fun σ'=>K σ'∧σ'.n=σ.n∧ ∀t,some t∉(o::l).map (·.dst)→σ'.sl t=σ.sl t) σ1:=by
    intro σ1 hf h1
    refine I5 l (ih h1) fun σ2 ⟨a1,a2,a3⟩=>⟨a1,a2.trans hf.1,fun t ht=> ?_⟩
    simp only[List.map_cons,List.mem_cons,not_or] at ht
    rw[a3 t ht.2,hf.2 t (fun e=>ht.1 e.symm)]
   unfold Ops at h ⊢
   split at h
   ·exact gW (B3 h) fun σ1 ⟨h1,h2⟩=>next σ1 h2 h1
   ·split at h
    ·have hsk: ∀v:V,(σ.put o.dst v).n=σ.n∧ ∀t,o.dst≠some t→(σ.put o.dst v).sl t=σ.sl t:=fun v=>by
      cases hd:o.dst with
      | none => exact ⟨rfl, fun _ _ => rfl⟩
      | some d => exact ⟨rfl, fun t ht => aL _ _ _ _ (fun e => ht (by rw [e]))⟩
     rcases fR h with ⟨q,hq,h1,h2⟩| ⟨hq,h1⟩
     rotate_left
     ·simp only[*,wK]
      exact next _ (hsk _) h1
     simp only[*,wJ]
     refine⟨fun hh=>gW (B3 (h1 hh)) fun σ1 ⟨h1,h2⟩=>next σ1 ?_ h1,fun hh=>next _ ?_ (h2 hh)⟩
     ·subst hh;rw[kM hq] at h2;exact h2
     rw[←hh,kM hq]
     cases hd:o.dst with
     | none => exact ⟨rfl, fun _ _ => rfl⟩
     | some d => exact ⟨rfl, fun t ht => aL _ _ _ _ (fun e => ht (by rw [e]))⟩
    ·exact h.elim
def jn (sl:Nat→V) (ds:List (Option Tmp)) (t:Nat) (v:V):Nat→V:=fun x=>if x=t then v else if ds.contains (some x) then .junk else sl x
theorem Ns {id:Nat} {ops:Array Oper} {K:Ex→St→Prop} {σ:St} (t:Nat) (v:V) (bl':Int→Option Blk) (h1:Ops P (ops.toList.map (·.dst)) ops.toList (fun σ'=>σ'.sl t=v∧σ'.bl=bl') σ)
  (h2:K .normal ⟨σ.n,jn σ.sl (ops.toList.map (·.dst)) t v,bl'⟩):AW P (.region id ops false) K σ:=by
 have h3:=zX ops.toList h1
 intro w0 M F a w hs
 refine wp_region_list (zU (F0:=F) (w0:=w0) (M:=M) (fun σ' F' a' w' hF' hs' hK=>⟨.normal,⟨σ.n,jn σ.sl (ops.toList.map (·.dst)) t v,bl'⟩,F',rfl,hF',hs'.le ⟨?_,fun x hx=> ?_,fun g b hb=> ?_⟩,h2⟩) _ σ F a w (fun _ h=>h) h3 hs)
 ·exact hK.2.1.symm
 ·show jn σ.sl _ t v x=_∨jn σ.sl _ t v x=_
  unfold jn
  split
  ·rename_i hxt;subst hxt;exact .inl hK.1.1.symm
  ·split
   ·exact .inr rfl
   ·rename_i hxt hc
    refine .inl (hK.2.2 x (fun hm=>hc ?_)).symm
    simpa using hm
 ·rw[hK.1.2];exact hb
def V.cl :V→Bool
 | .bool _ | .int _ _ | .str _ | .nilp | .ptr _ | .sl _ => true
 | _ => false
def frz (bl:Int→Option Blk):Nat→V→Option V
 | _, .bool b => some (.bool b)
 | _, .int k n => some (.int k n)
 | _, .str s => some (.str s)
 | _, .nilp => some .nilp
 | _, .nils => some (.sl [])
 | _, .sle => some (.sl [])
 | _, .ptr cs => some (.ptr cs)
 | _, .sl xs => some (.sl xs)
 | _, .junk => none
 | _, .mp _ => none
 | _, .mpf _ => none
 | 0, _ => none
 | n + 1, .loc g sz k j => match bl g with
   | some b=>if b.sz=sz then match b.els[k]? with
      | some e=>if(e.drop j).all V.cl then some (.ptr (e.drop j)) else((e.drop j).mapM (frz bl n)).map .ptr
      | none=>none
     else none
   | none=>none
 | n + 1, .lsl g sz o m => if g < 0 then some (.sl []) else match bl g with
   | some b=>if b.sz=sz∧o+m≤b.els.length then
      (if((b.els.drop o).take m).all (fun e=>e.all V.cl) then some (.sl ((b.els.drop o).take m)) else(((b.els.drop o).take m).mapM (fun e:List V=>e.mapM (frz bl n))).map .sl)
     else none
   | none=>none
 | n + 1, .agg cs => if cs.all V.cl then some (.agg cs) else (cs.mapM (frz bl n)).map .agg
 | n + 1, .tup cs => if cs.all V.cl then some (.tup cs) else (cs.mapM (frz bl n)).map .tup
 | n + 1, .fn f cs => if cs.all V.cl then some (.fn f cs) else (cs.mapM (frz bl n)).map (.fn f)
def dropB (bl bl':Int→Option Blk):Int→Option Blk:=fun g=>match bl' g with | none=>bl g | some _=>none
theorem I1 {f:V→Option V} {cs ds:List V} (h:cs.mapM f=some ds):ds.length=cs.length∧ ∀(i:Nat) (y:V),ds[i]? =some y→ ∃x,cs[i]? =some x∧f x=some y:=by
 induction cs generalizing ds with
 | nil => cases h; exact ⟨rfl, fun i y hy => by cases hy⟩
 | cons c cs ih =>
   rw[List.mapM_cons] at h
   cases hc:f c with
   | none=>rw[hc] at h;cases h
   | some d=>
     rw[hc] at h
     cases hcs:cs.mapM f with
     | none=>rw[hcs] at h;cases h
     | some ds'=>
       rw[hcs] at h
       cases h
       obtain⟨h1,h2⟩:=ih hcs
       refine⟨by simp[h1],fun i y hy=> ?_⟩
       cases i with
       | zero=>cases hy;exact⟨c,rfl,hc⟩
       | succ i=>exact h2 i y hy
theorem Cu {f:V→Option V} {cs ds:List (List V)} (h:cs.mapM (fun e:List V=>e.mapM f)=some ds):ds.length=cs.length∧ ∀(i:Nat) (y:List V),ds[i]? =some y→ ∃x,cs[i]? =some x∧x.mapM f=some y:=by
 induction cs generalizing ds with
 | nil => cases h; exact ⟨rfl, fun i y hy => by cases hy⟩
 | cons c cs ih =>
   rw[List.mapM_cons] at h
   cases hc:c.mapM f with
   | none=>rw[hc] at h;cases h
   | some d=>
     rw[hc] at h
     cases hcs:cs.mapM (fun e:List V=>e.mapM f) with
     | none=>rw[hcs] at h;cases h
     | some ds'=>
       rw[hcs] at h
       cases h
       obtain⟨h1,h2⟩:=ih hcs
       refine⟨by simp[h1],fun i y hy=> ?_⟩
       cases i with
       | zero=>cases hy;exact⟨c,rfl,hc⟩
       | succ i=>exact h2 i y hy
theorem nT {G:Nat→Prop} (hm: ∀g b,bl g=some b→cA F w g b) (hG: ∀g b,bl g=some b→0≤g→G g.toNat) (hFG: ∀b,F b→G b) (n:Nat):
  ∀(x y:V) (v:Value),Rep F w x v→frz bl n x=some y→Rep G w y v:=by
 have base: ∀ {x:V} {v:Value},Rep F w x v→Rep G w x v:=fun h=>h.mono hFG (fun _ _=>rfl) (.refl _)
 induction n with
 | zero =>
   intro x y v hx h
   cases hx<;>simp only[frz] at h<;>first | (cases h;done)| (cases h;exact .sl0 none 0 (fun _=>rfl))| (cases h;exact .sl0 (some _) _ (fun h=>by cases h))| (cases h;exact base (by constructor<;>assumption))
 | succ n ih =>
   intro x y v hx h
   have list: ∀(cs ds:List V),(if cs.all V.cl then some cs else cs.mapM (frz bl n))=some ds→ds.length=cs.length∧ ∀(i:Nat) (d:V),ds[i]? =some d→ ∃c,cs[i]? =some c∧ ∀u,Rep F w c u→Rep G w d u:=by
    intro cs ds h
    split at h
    ·cases h;exact⟨rfl,fun i d hd=>⟨d,hd,fun u hu=>base hu⟩⟩
    ·obtain⟨h1,h2⟩:=I1 h
     refine⟨h1,fun i d hd=> ?_⟩
     obtain⟨c,h3,h4⟩:=h2 i d hd
     exact⟨c,h3,fun u hu=>ih c d u hu h4⟩
   have wrap: ∀(cs:List V) (k:List V→V) (y:V),(if cs.all V.cl then some (k cs) else(cs.mapM (frz bl n)).map k)=some y→ ∃ds,y=k ds∧(if cs.all V.cl then some cs else cs.mapM (frz bl n))=some ds:=by
    intro cs k y h
    split at h
    ·rename_i hc;cases h;exact⟨cs,rfl,by rw[if_pos hc]⟩
    ·rename_i hc
     cases hcs:cs.mapM (frz bl n) with
     | none => rw [hcs] at h; cases h
     | some ds => rw [hcs] at h; cases h; exact ⟨ds, rfl, by rw [if_neg hc]⟩
   cases hx with
   | junk v=>simp only[frz] at h;cases h
   | bool b=>simp only[frz] at h;cases h;exact .bool b
   | int k n=>simp only[frz] at h;cases h;exact .int k n
   | str s=>simp only[frz] at h;cases h;exact .str s
   | nilp=>simp only[frz] at h;cases h;exact .nilp
   | mp b=>simp only[frz] at h;cases h
   | mpf b es W4 clock hF hh he=>simp only[frz] at h;cases h
   | nils=>simp only[frz] at h;cases h;exact .sl0 none 0 (fun _=>rfl)
   | sle a cap=>simp only[frz] at h;cases h;exact .sl0 (some a) cap (fun h=>by cases h)
   | ptr b o cs u hF hc hr=>simp only[frz] at h;cases h;exact base (.ptr b o cs u hF hc hr)
   | sl0 ad cap ha=>simp only[frz] at h;cases h;exact .sl0 ad cap ha
   | sl b o cap sz xs u hF hle iT hsz hc hr=>simp only[frz] at h;cases h;exact base (.sl b o cap sz xs u hF hle iT hsz hc hr)
   | loc g sz k j=>
     simp only[frz] at h
     split at h
     ·rename_i b hb
      split at h
      ·rename_i hsz
       subst hsz
       split at h
       ·rename_i e he
        obtain⟨ds,rfl,h'⟩:=wrap _ V.ptr y h
        obtain⟨h1,h2⟩:=list _ _ h'
        have hkl:=(List.getElem?_eq_some_iff.1 he).1
        obtain⟨hg0,hFg,c,t,hc,hlen,iL⟩:=(hm g b hb).at hkl
        refine .ptr g.toNat (k*b.sz+j) ds (fun i=>c.getD (k*b.sz+j+i) undef) (hG g b hb hg0) (fun i d hd=> ?_) (fun i d hd=> ?_)
        all_goals
         obtain⟨x,hx,hr⟩:=h2 i d hd
         rw[List.getElem?_drop] at hx
         obtain⟨_,u,hu,hru⟩:=(iL k e he).2 (j+i) x hx
         have hu':c[k*b.sz+j+i]? =some u:=by rw[Nat.add_assoc];exact hu
         have hgd:c.getD (k*b.sz+j+i) undef=u:=by simp[Array.getD_eq_getD_getElem?,hu']
        ·rw[fM hc,hu',hgd]
        ·rw[hgd];exact hr u hru
       ·cases h
      ·cases h
     ·cases h
   | lsl g sz o m cap hg hle iT hb=>
     simp only[frz] at h
     rw[if_neg (by omega)] at h
     split at h
     ·rename_i b hbl
      split at h
      ·rename_i hcc
       obtain⟨rfl,hom⟩:=hcc
       have hl:((b.els.drop o).take m).length=m:=by simp;omega
       have key: ∃ds,y= .sl ds∧ds.length=m∧ ∀(i:Nat) (d:List V),ds[i]? =some d→ ∃e,((b.els.drop o).take m)[i]? =some e∧d.length=e.length∧ ∀(j:Nat) (z:V),d[j]? =some z→ ∃x,e[j]? =some x∧ ∀u,Rep F w x u→Rep G w z u:=by
        split at h
        ·cases h;exact⟨_,rfl,hl,fun i d hd=>⟨d,hd,rfl,fun j z hz=>⟨z,hz,fun u hu=>base hu⟩⟩⟩
        ·cases hmm:(((b.els.drop o).take m).mapM (fun e:List V=>e.mapM (frz bl n))) with
         | none => rw [hmm] at h; cases h
         | some ds =>
           rw[hmm] at h;cases h
           obtain⟨h1,h2⟩:=Cu hmm
           refine⟨ds,rfl,by rw[h1,hl],fun i d hd=> ?_⟩
           obtain⟨e,h3,h4⟩:=h2 i d hd
           obtain⟨h5,h6⟩:=I1 h4
           refine⟨e,h3,h5,fun j z hz=> ?_⟩
           obtain⟨x,h7,h8⟩:=h6 j z hz
           exact⟨x,h7,fun u hu=>ih x z u hu h8⟩
       obtain⟨ds,rfl,hdl,hds⟩:=key
       rcases Nat.eq_zero_or_pos m with rfl | aM6
       ·have:ds= []:=List.eq_nil_of_length_eq_zero hdl
        subst this
        exact .sl0 _ _ (fun h=>by cases h)
       ·obtain⟨_,hFg,c,t,hc,hlen,iL⟩:=(hm g b hbl).at (k:=o) (by omega)
        have at_: ∀(i:Nat) (d:List V) (j:Nat) (z:V),ds[i]? =some d→d[j]? =some z→ ∃u,c[(o+i)*b.sz+j]? =some u∧Rep G w z u:=by
         intro i d j z hd hz
         obtain⟨e,he,_,hje⟩:=hds i d hd
         have hi:i<m:=by rw[←hl];exact(List.getElem?_eq_some_iff.1 he).1
         rw[List.getElem?_take_of_lt hi,List.getElem?_drop] at he
         obtain⟨x,hx,hr⟩:=hje j z hz
         obtain⟨_,u,hu,hru⟩:=(iL (o+i) e he).2 j x hx
         exact⟨u,hu,hr u hru⟩
        rw[←hdl]
        refine .sl g.toNat (o*b.sz) cap b.sz ds (fun i j=>c.getD ((o+i)*b.sz+j) undef) (hG g b hbl hg) (by omega) iT (fun d hd=> ?_) (fun i d j z hd hz=> ?_) (fun i d j z hd hz=> ?_)
        ·obtain⟨i,hi⟩:=List.getElem?_of_mem hd
         obtain⟨e,he,aML,_⟩:=hds i d hi
         have hi':i<m:=by rw[←hl];exact(List.getElem?_eq_some_iff.1 he).1
         rw[List.getElem?_take_of_lt hi',List.getElem?_drop] at he
         rw[aML];exact(iL (o+i) e he).1
        ·obtain⟨u,hu,hr⟩:=at_ i d j z hd hz
         rw[fM hc,←Nat.add_mul,hu]
         simp[Array.getD_eq_getD_getElem?,hu]
        ·obtain⟨u,hu,hr⟩:=at_ i d j z hd hz
         have:c.getD ((o+i)*b.sz+j) undef=u:=by simp[Array.getD_eq_getD_getElem?,hu]
         rw[this];exact hr
      ·cases h
     ·cases h
   | lsln g sz hg=>
     simp only[frz] at h
     rw[if_pos hg] at h
     cases h
     exact .sl0 none 0 (fun _=>rfl)
   | agg cs arr hlen hr=>
     simp only[frz] at h
     obtain⟨ds,rfl,h'⟩:=wrap _ V.agg y h
     obtain⟨h1,h2⟩:=list _ _ h'
     refine .agg ds arr (by rw[h1];exact hlen) fun i d hd=> ?_
     obtain⟨c,h3,h4⟩:=h2 i d hd
     exact h4 _ (hr i c h3)
   | tup cs arr hlen hr=>
     simp only[frz] at h
     obtain⟨ds,rfl,h'⟩:=wrap _ V.tup y h
     obtain⟨h1,h2⟩:=list _ _ h'
     refine .tup ds arr (by rw[h1];exact hlen) fun i d hd=> ?_
     obtain⟨c,h3,h4⟩:=h2 i d hd
     exact h4 _ (hr i c h3)
   | fn f cs arr hlen hr=>
     simp only[frz] at h
     obtain⟨ds,rfl,h'⟩:=wrap _ (V.fn f) y h
     obtain⟨h1,h2⟩:=list _ _ h'
     refine .fn f ds arr (by rw[h1];exact hlen) fun i d hd=> ?_
     obtain⟨c,h3,h4⟩:=h2 i d hd
     exact h4 _ (hr i c h3)
end

def resV (P:Program) (σ:St):List ResultVar→Option (List V)
 | [] => some []
 | .tmp t :: r => match resV P σ r with | some vs => some (σ.ev (.tmp t) :: vs) | none => none
 | .cell a t :: r => match rdP σ.bl (σ.ev (.tmp a)) with
   | some cs=>match loadV P t cs with
     | some v=>match resV P σ r with | some vs=>some (v::vs)| none=>none
     | none=>none
   | none=>none
def retV :List V→V
 | [v] => v
 | vs => .tup vs
def B9 (P:Program) (rs:List ResultVar) (k:V→(Int→Option Blk)→Prop):Ex→St→Prop
 | .exit _, _ => False
 | _, σ => ∃ vs, resV P σ rs = some vs ∧ k (retV vs) σ.bl
theorem aX {P:Program} {rs:List ResultVar} {k:V→(Int→Option Blk)→Prop} {σ:St} :B9 P rs k .ret σ= ∃vs,resV P σ rs=some vs∧k (retV vs) σ.bl:=rfl
theorem mW {P:Program} {rs:List ResultVar} {k:V→(Int→Option Blk)→Prop} {σ:St} :B9 P rs k .normal σ= ∃vs,resV P σ rs=some vs∧k (retV vs) σ.bl:=rfl
section
variable {P : Program} {σ : St} {w0 : World} {M F : Nat → Prop} {a : Act} {w : World} {bl : Int → Option Blk}
theorem Ve (hm:Mem w0 M F σ.bl w) {x:V} {xv:Value} (hx:Rep F w x xv) {cs:List V} {t:TypeId} {v:V} (hcs:rdP σ.bl x=some cs) (hv:loadV P t cs=some v):
  ∃b o r,xv= .pointer (some ⟨b,o,none⟩)∧(loadVar t ⟨b,o,none⟩).run P w= .ok r w∧Rep F w v r:=by
 rcases yR hm hx hcs with rfl | ⟨b,off,u,he,hc⟩
 ·cases hx<;>simp only[rdP] at hcs<;>try (cases hcs;done)
  ·rename_i b off cs u hF hc hr
   obtain⟨r,jH,bU⟩:=gH (F:=F) (w:=w) (P:=P) (b:=b) (o:=off) (cs:= []) u (fun i y hy=>by cases hy) hv
   exact⟨b,off,r,rfl,jH,bU⟩
  ·rename_i g sz k j
   obtain⟨r,jH,bU⟩:=gH (F:=F) (w:=w) (P:=P) (b:=g.toNat) (o:=k*sz+j) (cs:= []) (fun _=>undef) (fun i y hy=>by cases hy) hv
   exact⟨_,_,r,rfl,jH,bU⟩
 ·obtain⟨r,jH,bU⟩:=gH (P:=P) u hc hv
  exact⟨b,off,r,he,jH,bU⟩
def resRun (tmps:Array Value):ResultVar→Sem Value
 | .tmp t => pure (tmps.getD t undef)
 | .cell ad t => do loadVar t (← asAddr (tmps.getD ad undef))
theorem Bt (hs:Sim w0 M F σ a w) (rs:List ResultVar): ∀vs:List V,resV P σ rs=some vs→ ∃us:List Value,us.length=vs.length∧(∀(i:Nat) (v:V),vs[i]? =some v→ ∃u:Value,us[i]? =some u∧Rep F w v u)∧
  (rs.mapM (resRun a.tmps)).run P w= .ok us w:=by
 induction rs with
 | nil => intro vs h; cases h; exact ⟨[], rfl, (fun i v hv => by cases hv), rfl⟩
 | cons r rs ih =>
   intro vs h
   cases r with
   | tmp t=>
     simp only[resV] at h
     split at h
     ·rename_i vs' hvs
      cases h
      obtain⟨us,h1,h2,h3⟩:=ih vs' hvs
      refine⟨a.tmps.getD t undef::us,by simp[h1],fun i v hv=> ?_,?_⟩
      ·cases i with
       | zero => cases hv; exact ⟨_, rfl, hs.ev (.tmp t)⟩
       | succ i => exact h2 i v hv
      ·rw[List.mapM_cons,Sem.run_bind,resRun,Sem.run_pure,Result.andThen_ok,Sem.run_bind,h3,Result.andThen_ok,Sem.run_pure]
     ·cases h
   | cell ad t=>
     simp only[resV] at h
     split at h
     ·rename_i cs hcs
      split at h
      ·rename_i v hv
       split at h
       ·rename_i vs' hvs
        cases h
        obtain⟨us,h1,h2,h3⟩:=ih vs' hvs
        obtain⟨b,o,u,hx,jH,bU⟩:=Ve (P:=P) hs.mem (hs.ev (.tmp ad)) hcs hv
        have hx':a.tmps.getD ad undef= .pointer (some ⟨b,o,none⟩):=hx
        refine⟨u::us,by simp[h1],fun i v hv=> ?_,?_⟩
        ·cases i with
         | zero => cases hv; exact ⟨_, rfl, bU⟩
         | succ i => exact h2 i v hv
        ·have gD:(resRun a.tmps (.cell ad t)).run P w= .ok u w:=by
          simp only[resRun,hx',asAddr,Sem.run_bind,Sem.run_pure,Result.andThen_ok,jH]
         rw[List.mapM_cons,Sem.run_bind,gD,Result.andThen_ok,Sem.run_bind,h3,Result.andThen_ok,Sem.run_pure]
       ·cases h
      ·cases h
     ·cases h
theorem yI (hs:Sim w0 M F σ a w) {fn:Func} {vs:List V} (h:resV P σ fn.results.toList=some vs): ∃v,(results fn a.tmps).run P w= .ok v w∧Rep F w (retV vs) v:=by
 obtain⟨us,h1,h2,h3⟩:=Bt (P:=P) hs fn.results.toList vs h
 have hr:(results fn a.tmps).run P w= .ok (if h:us.toArray.size=1 then us.toArray[0] else .tuple us.toArray) w:=by
  have Uh:results fn a.tmps=(fn.results.mapM (resRun a.tmps)).bind fun vs=>(pure (if h:vs.size=1 then vs[0] else .tuple vs):Sem Value):=by
   unfold results
   show Sem.bind _ _=_
   congr 1
  have hm:(fn.results.mapM (resRun a.tmps)).run P w= .ok us.toArray w:=by
   rw[Array.mapM_eq_mapM_toList,Sem.run_map,h3];rfl
  rw[Uh,Sem.run_bind',hm]
  rfl
 refine⟨_,hr,?_⟩
 match vs,us,h1,h2 with
 | [v], [u], _, h2 =>
   obtain⟨u',hu,bU⟩:=h2 0 v rfl
   cases hu
   exact bU
 | [], [], _, _ => exact .tup _ _ rfl fun i x hx => by cases hx
 | v1 :: v2 :: vs, u1 :: u2 :: us, h1, h2 =>
   rw[dif_neg (by simp)]
   refine .tup _ _ (by simpa using h1) fun i x hx=> ?_
   obtain⟨u,hu,bU⟩:=h2 i x hx
   have:(u1::u2::us).toArray.getD i undef=u:=by simp[Array.getD_eq_getD_getElem?,hu]
   rw[this];exact bU
def Own (bl:Int→Option Blk):Nat→Prop:=fun k=> ∃g b,bl g=some b∧0≤g∧g.toNat=k
theorem Mem.start (h:Mem w0 M F bl w):Mem w (Own bl) F bl w:=
 ⟨rfl,rfl,rfl,Nat.le_refl _,fun _ _ _=>rfl,.refl w,h.fr,h.fin,fun g b hb h0=> .inr ⟨g,b,hb,h0,rfl⟩,h.blk⟩
theorem Mem.back {bl':Int→Option Blk} {F':Nat→Prop} {w':World} (h:Mem w0 M F bl w) (h':Mem w (Own bl) F' bl' w'):Mem w0 M F' bl' w'∧(∀b,F b→w'.heap[b]? =w.heap[b]?)∧dM w w':=by
 have aEX: ∀k,Own bl k→w0.heap.size≤k∨M k:=by
  rintro k ⟨g,b,hb,h0,rfl⟩;exact h.own g b hb h0
 refine⟨⟨h'.os.trans h.os,h'.tape.trans h.tape,h'.output.trans h.output,Nat.le_trans h.size h'.size,fun k hk hM=> ?_,h.gP.trans h'.gP,h'.fr,h'.fin,fun g b hb h0=> ?_,h'.blk⟩,fun b hb=> ?_,h'.gP⟩
 ·rw[h'.frame k (Nat.lt_of_lt_of_le hk h.size) (fun ho=>by rcases aEX k ho with h1 | h1;omega;exact hM h1)]
  exact h.frame k hk hM
 ·rcases h'.own g b hb h0 with h1 | h1
  ·exact .inl (Nat.le_trans h.size h1)
  ·exact aEX _ h1
 ·refine h'.frame b (h.fr b hb) ?_
  rintro⟨g,bb,hbb,h0,rfl⟩
  have:=h.blk g bb hbb
  unfold cA at this
  rw[if_neg (by omega)] at this
  exact this.1 hb
theorem aZ {f : FuncId} {fn : Func} {c : Code} {xs : List V} {k : V → (Int → Option Blk) → Prop} (hf : P.funcs[f]? = some fn) (hb : fn.body = some c) (hn : (fn.name == "runtime.NumGoroutine") = false)
  (hl:xs.length≤fn.ntmps) (h:AW P c (B9 P fn.results.toList k) ⟨fn.ntmps,fun t=>xs.getD t .junk,bl⟩):bJ P f xs bl k:=by
 refine⟨⟨fn,hf,hn,by rw[hb];rfl⟩,fun w0 M F w vs hm hr=> ?_⟩
 refine calls_of_wp hf hb ?_
 have hs:Sim w (Own bl) F ⟨fn.ntmps,fun t=>xs.getD t .junk,bl⟩ { tmps:=vs++Array.replicate (fn.ntmps - vs.size) undef,defers:= [] } w:=by
  refine⟨hm.start,by simp[hr.1];omega,fun t ht=> ?_,rfl⟩
  show Rep F w (xs.getD t .junk) _
  rw[List.getD_eq_getElem?_getD]
  cases hx:xs[t]? with
  | none => exact .junk _
  | some x =>
    have hlt:t<vs.size:=by rw[hr.1];exact(List.getElem?_eq_some_iff.1 hx).1
    have h1:=hr.2 t x hx
    have h2:(vs++Array.replicate (fn.ntmps - vs.size) undef).getD t undef=vs.getD t undef:=by
     rw[Array.getD_eq_getD_getElem?,Array.getElem?_append_left hlt,←Array.getD_eq_getD_getElem?]
    rw[h2];exact h1
 refine wp_mono (h w (Own bl) F _ w hs) fun e a' w' hp=> ?_
 obtain⟨ex,σ',F',rfl,hF,hs',hK⟩:=hp
 have fin:(∃vs,resV P σ' fn.results.toList=some vs∧k (retV vs) σ'.bl)→a'.defers= []∧ ∃v,(results fn a'.tmps).run P w'= .ok v w'∧
   (fun e w'=> ∃v r bl' F',e=Ending.returned v∧(∀b,F b→F' b)∧(∀b,F b→w'.heap[b]? =w.heap[b]?)∧dM w w'∧Mem w0 M F' bl' w'∧Rep F' w' r v∧k r bl') (.returned v) w':=by
  rintro⟨vs',hv,hk⟩
  obtain⟨v,jH,bU⟩:=yI (P:=P) hs' hv
  obtain⟨b1,b2,b3⟩:=hm.back hs'.mem
  exact⟨hs'.defers,v,jH,v,_,_,F',rfl,hF,b2,b3,b1,bU,hk⟩
 cases ex with
 | exit i => exact hK.elim
 | ret => exact fin hK
 | normal => exact fin hK
theorem bJ.mono {f:FuncId} {xs:List V} {k k':V→(Int→Option Blk)→Prop} (h:bJ P f xs bl k) (hk: ∀v b,k v b→k' v b):bJ P f xs bl k':=
 ⟨h.1,fun w0 M F w vs hm hr=>(h.2 w0 M F w vs hm hr).mono fun e w' ⟨v,r,bl',F',h1,h2,h3,h4,h5,h6,h7⟩=>⟨v,r,bl',F',h1,h2,h3,h4,h5,h6,hk _ _ h7⟩⟩
def Sub (bl bl':Int→Option Blk):Prop:= ∀g b,bl g=some b→bl' g=some b
theorem Sub.refl (bl:Int→Option Blk):Sub bl bl:=fun _ _ h=>h
theorem Sub.upd {bl bl':Int→Option Blk} (h:Sub bl bl') {g:Int} (hg:bl g=none) (b:Option Blk):Sub bl (upd bl' g b):=fun g' b' hb=>by
 rw[aL _ _ _ _ (fun e=>by subst e;rw[hg] at hb;cases hb)];exact h g' b' hb
theorem Sub.rem {bl bl':Int→Option Blk} (h:Sub bl bl') {g:Int} (hg:bl g=none):Sub bl (rem bl' g):=fun g' b' hb=>by
 unfold Vm.rem;rw[if_neg (fun e=>by subst e;rw[hg] at hb;cases hb)];exact h g' b' hb
theorem Mem.freeze {bl2:Int→Option Blk} (h:Mem w0 M F bl w) (hs:Sub bl2 bl):Mem w0 M (fun k=>F k∨Own (dropB bl bl2) k) bl2 w:=by
 have hlt: ∀g b,bl g=some b→0≤g→g.toNat<w.heap.size:=fun g b hb h0=>by
  have:=h.blk g b hb
  unfold cA at this
  rw[if_neg (by omega)] at this
  obtain⟨_,c,t,hc,_⟩:=this
  exact(Array.getElem?_eq_some_iff.1 hc).1
 refine⟨h.os,h.tape,h.output,h.size,h.frame,h.gP,fun k hk=> ?_,?_,fun g b hb=>h.own g b (hs g b hb),fun g b hb=> ?_⟩
 ·rcases hk with hk | ⟨g,b,hb,h0,rfl⟩
  ·exact h.fr k hk
  ·unfold dropB at hb
   split at hb
   ·exact hlt g b hb h0
   ·cases hb
 ·obtain⟨n,hn⟩:=h.fin
  refine⟨n,fun g hg=> ?_⟩
  cases hb:bl2 g with
  | none => rfl
  | some b => have := hs g b hb; rw [hn g hg] at this; cases this
 ·refine(h.blk g b (hs g b hb)).mono (fun k hk=> .inl hk) (fun h0 hF=> ?_) (fun _ _=>rfl) (.refl w) (fun _=>rfl)
  rcases hF with hF | ⟨g',b',hb',h0',he⟩
  ·have:=h.blk g b (hs g b hb)
   unfold cA at this
   rw[if_neg (by omega)] at this
   exact this.1 hF
  ·have:g'=g:=by omega
   subst this
   unfold dropB at hb'
   rw[hb] at hb'
   cases hb'
theorem sH {bl2:Int→Option Blk} (h:Mem w0 M F bl w) (g:Int) (b:Blk) (hb:dropB bl bl2 g=some b):cA F w g b:=by
 unfold dropB at hb
 split at hb
 ·exact h.blk g b hb
 ·cases hb
theorem sI {f:FuncId} {xs:List V} {bl2:Int→Option Blk} {r:V} {k:V→(Int→Option Blk)→Prop} (h:bJ P f xs bl fun v bl'=> ∃n,frz (dropB bl' bl2) n v=some r∧Sub bl2 bl') (hk:k r bl2):bJ P f xs bl k:=
 ⟨h.1,fun w0 M F w vs hm hr=>(h.2 w0 M F w vs hm hr).mono fun e w' ⟨v,x,bl',F',h1,h2,h3,h4,h5,h6,n,h7,h8⟩=>
   ⟨v,r,bl2,_,h1,fun b hb=> .inl (h2 b hb),h3,h4,h5.freeze h8,nT (fun g b hb=>sH h5 g b hb) (fun g b hb h0=> .inr ⟨g,b,hb,h0,rfl⟩) (fun b hb=> .inl hb) n x r v h6 h7,hk⟩⟩
def RO (P:Program) (f:FuncId) (xs:List V) (r:V):Prop:= ∀bl,bJ P f xs bl fun v bl'=>v=r∧bl'=bl
theorem aE3 {f : FuncId} {fn : Func} {c : Code} {xs : List V} {r : V} (hf : P.funcs[f]? = some fn) (hb : fn.body = some c) (hn : (fn.name == "runtime.NumGoroutine") = false) (hl : xs.length ≤ fn.ntmps)
  (h: ∀bl,AW P c (B9 P fn.results.toList fun v bl'=> ∃n,frz (dropB bl' bl) n v=some r∧Sub bl bl') ⟨fn.ntmps,fun t=>xs.getD t .junk,bl⟩):RO P f xs r:=
 fun bl=>sI (aZ hf hb hn hl (h bl)) ⟨rfl,rfl⟩
theorem aD {f:FuncId} {xs:List V} {r:V} {k:V→(Int→Option Blk)→Prop} (h:RO P f xs r) (hk:k r bl):bJ P f xs bl k:=(h bl).mono fun v b ⟨hv,hb⟩=>by subst hv hb;exact hk
def V.sc :V→Bool
 | .bool _ | .int _ _ | .str _ | .nilp | .nils => true
 | .tup vs => vs.all fun v => match v with | .bool _ | .int _ _ | .str _ | .nilp | .nils => true | _ => false
 | .agg vs => vs.all fun v => match v with | .bool _ | .int _ _ | .str _ | .nilp | .nils => true | _ => false
 | _ => false
theorem Tr {G:Nat→Prop} {w':World} {x:V} {v:Value} (hx:x.sc=true) (h:Rep F w x v):Rep G w' x v:=by
 have one: ∀ {y:V} {u:Value},(match y with | .bool _ | .int _ _ | .str _ | .nilp | .nils=>true | _=>false)=true→Rep F w y u→Rep G w' y u:=by
  intro y u hy h
  cases h<;>simp at hy<;>constructor
 cases h<;>simp only[V.sc] at hx<;>try (cases hx;done)
 case bool=>exact .bool _
 case int=>exact .int _ _
 case str=>exact .str _
 case nilp=>exact .nilp
 case nils=>exact .nils
 case agg cs arr hlen hr=>exact .agg cs arr hlen fun i y hy=>one (List.all_eq_true.1 hx y (List.mem_of_getElem? hy)) (hr i y hy)
 case tup cs arr hlen hr=>exact .tup cs arr hlen fun i y hy=>one (List.all_eq_true.1 hx y (List.mem_of_getElem? hy)) (hr i y hy)
def frzL (bl:Int→Option Blk) (n:Nat):List V→Option (List V)
 | [] => some []
 | x :: xs => match frz bl n x, frzL bl n xs with | some y, some ys => some (y :: ys) | _, _ => none
theorem uS {bl:Int→Option Blk} {n:Nat} : ∀ {xs ys:List V},frzL bl n xs=some ys→ys.length=xs.length∧ ∀(i:Nat) (y:V),ys[i]? =some y→ ∃x,xs[i]? =some x∧frz bl n x=some y
 | [], ys, h => by cases h; exact ⟨rfl, fun i y hy => by cases hy⟩
 | x :: xs, ys, h => by
   simp only[frzL] at h
   split at h
   ·rename_i y' ys' h1 h2
    cases h
    obtain⟨h3,h4⟩:=uS h2
    refine⟨by simp[h3],fun i y hy=> ?_⟩
    cases i with
    | zero => cases hy; exact ⟨x, rfl, h1⟩
    | succ i => exact h4 i y hy
   ·cases h
theorem bS {f:FuncId} {xs ys:List V} {r:V} {k:V→(Int→Option Blk)→Prop} (n:Nat) (hx:frzL bl n xs=some ys) (h:RO P f ys r) (hr:r.sc=true) (hk:k r bl):bJ P f xs bl k:=by
 have h0:=h (fun _=>none)
 refine⟨h0.1,fun w0 M F w vs hm bU=> ?_⟩
 have hm1:Mem w (Own bl) (fun k=>F k∨Own (dropB bl fun _=>none) k) (fun _=>none) w:=hm.start.freeze (fun g b hb=>by cases hb)
 have hlen:=uS hx
 have H2:Mr (fun k=>F k∨Own (dropB bl fun _=>none) k) w ys vs:=by
  refine⟨by rw[bU.1,hlen.1],fun i y hy=> ?_⟩
  obtain⟨x,h1,h2⟩:=hlen.2 i y hy
  exact nT (fun g b hb=>hm.blk g b hb) (fun g b hb h0=> .inr ⟨g,b,by unfold dropB;exact hb,h0,rfl⟩) (fun b hb=> .inl hb) n x y _ (bU.2 i x h1) h2
 refine(h0.2 w (Own bl) _ w vs hm1 H2).mono fun e w' ⟨v,x,bl',F',h1,h2,h3,h4,h5,h6,h7,h8⟩=> ?_
 subst h7 h8
 have hF: ∀b,F b→w'.heap[b]? =w.heap[b]? :=fun b hb=>h3 b (.inl hb)
 have hO: ∀g b,bl g=some b→0≤g→w'.heap[g.toNat]? =w.heap[g.toNat]? :=fun g b hb h0=>h3 _ (.inr ⟨g,b,by unfold dropB;exact hb,h0,rfl⟩)
 refine⟨v,x,bl,F,h1,fun _ h=>h,hF,h4,?_,Tr hr h6,hk⟩
 refine hm.step h5.os h5.tape h5.output h5.size h4 (fun k=>Own bl k) (fun k hk hX=>h5.frame k hk hX) (fun k hk=>by obtain⟨g,b,hb,h0,rfl⟩:=hk;exact hm.own g b hb h0)
  (fun k hk=>Nat.lt_of_lt_of_le (hm.fr k hk) h5.size) hm.fin fun g b hb=>⟨hm.own g b hb,?_⟩
 refine(hm.blk g b hb).mono (fun _ h=>h) (fun h0 hFg=> ?_) hF h4 (fun h0=>hO g b hb h0)
 have:=hm.blk g b hb
 unfold cA at this
 rw[if_neg (by omega)] at this
 exact this.1 hFg
theorem Rp {c:Code} {K:Ex→St→Prop} (n:Nat) (sl':Nat→V) (bl2:Int→Option Blk) (mK:Sub bl2 σ.bl) (hsl: ∀t,sl' t=σ.sl t∨frz (dropB σ.bl bl2) n (σ.sl t)=some (sl' t))
  (h:AW P c K ⟨σ.n,sl',bl2⟩):AW P c K σ:=by
 intro w0 M F a w hs
 have hs':Sim w0 M (fun k=>F k∨Own (dropB σ.bl bl2) k) ⟨σ.n,sl',bl2⟩ a w:=by
  refine⟨hs.mem.freeze mK,hs.size,fun t ht=> ?_,hs.defers⟩
  rcases hsl t with h1 | h1
  ·show Rep _ w (sl' t) _
   rw[h1];exact(hs.sl t ht).mono (fun b hb=> .inl hb) (fun _ _=>rfl) (.refl w)
  ·exact nT (fun g b hb=>sH hs.mem g b hb) (fun g b hb h0=> .inr ⟨g,b,hb,h0,rfl⟩) (fun b hb=> .inl hb) n _ _ _ (hs.sl t ht) h1
 exact wp_mono (h w0 M _ a w hs') fun _ _ _ hp=>hp.weaken fun b hb=> .inl hb
theorem qG {c:Code} {K:Ex→St→Prop} (t sz:Nat) (ht:σ.sl t= .nils) (h: ∀g:Int,σ.bl g=none→AW P c K ⟨σ.n,upd σ.sl t (.lsl g sz 0 0),upd σ.bl g (some ⟨sz,[]⟩)⟩):AW P c K σ:=by
 intro w0 M F a w hs
 obtain⟨g,hg0,hgn,hm⟩:=hs.mem.ghost sz
 refine h g hgn w0 M F a w ⟨hm,hs.size,fun t' ht'=> ?_,hs.defers⟩
 show Rep F w (upd σ.sl t (.lsl g sz 0 0) t') _
 by_cases hh:t'=t
 ·subst hh
  rw[bO]
  have:=hs.sl t' ht'
  rw[ht] at this
  generalize hv:a.tmps.getD t' undef=v at this
  cases this
  exact .lsln g sz hg0
 ·rw[aL _ _ _ _ hh];exact hs.sl t' ht'
end
end Go.Proofs.YticmgmemnpcbbaaGreat.Vm

namespace Go.Proofs.YticmgmemnpcbbaaGreat.Vm
open Go Go.RowKit Go.ChangeShapes Go.WideShapes
set_option linter.unusedSimpArgs false
set_option linter.unusedVariables false
inductive CO (P : Program) : TypeId → List V → Prop
 | bool {t : TypeId} (b : Bool) (h : P.underlying t = some .bool) : CO P t [.bool b]
 | int {t : TypeId} {k : IntKind} (n : Int) (h : P.underlying t = some (.int k)) (hw : (Lit.int k n).wf = true) : CO P t [.int k n]
 | str {t : TypeId} (s : ByteArray) (h : P.underlying t = some .string) (hs : s.size ≤ reachBytes) : CO P t [.str s]
 | sl {t e : TypeId} (xs : List (List V)) (h : P.underlying t = some (.slice e)) (hx : ∀ x, x ∈ xs → CO P e x) (hl : xs.length * P.bytesOf e ≤ reachBytes) : CO P t [.sl xs]
 | struct {t : TypeId} {fs : Array Field} {cs : List V} (h : P.underlying t = some (.struct fs)) (hl : cs.length = P.cellsOf t)
    (hf: ∀f,f∈fs.toList→CO P f.type ((cs.drop f.offset).take (P.cellsOf f.type))):CO P t cs
def layFs (P:Program):Nat→List Field→Option Nat
 | off, [] => some off
 | off, f :: fs => if f.offset = off then layFs P (off + P.cellsOf f.type) fs else none
def tyOk (P:Program):Nat→TypeId→Bool
 | 0, _ => false
 | n + 1, t => match P.underlying t with
   | some .bool | some (.int _)| some .string=>P.cellsOf t==1
   | some (.slice e)=>P.cellsOf t==1 && tyOk P n e && (1≤P.cellsOf e:Bool)
   | some (.struct fs)=>(layFs P 0 fs.toList==some (P.cellsOf t))&& fs.toList.all fun f=>tyOk P n f.type
   | _=>false
section
variable {H : Type} {enc : TypeId × Value → H} {P : Program} {w : World} {spare : Nat → Bool} {held : Bool} {F : Nat → Prop}
theorem lY {e:TypeId} : ∀ {l:List (DataW H)} {d:DataW H},d∈l→(DataW.weightsAll P e l).all (· ≤reachBytes)=true→(d.weights P e).all (· ≤reachBytes)=true
 | x :: l, d, hm, h => by
   simp only[DataW.weightsAll,List.all_append,Bool.and_eq_true] at h
   rcases List.mem_cons.1 hm with rfl | hm
   ·exact h.1
   ·exact lY hm h.2
theorem xA : ∀ {fs:List Field} {off e:Nat},layFs P off fs=some e→off≤e∧ ∀f,f∈fs→off≤f.offset∧f.offset+P.cellsOf f.type≤e
 | [], off, e, h => by cases h; exact ⟨Nat.le_refl _, fun f hf => by cases hf⟩
 | f :: fs, off, e, h => by
   simp only[layFs] at h
   split at h
   ·rename_i ho
    obtain⟨h1,h2⟩:=xA h
    refine⟨by omega,fun g hg=> ?_⟩
    rcases List.mem_cons.1 hg with rfl | hg
    ·omega
    ·have:=h2 g hg;omega
   ·cases h
theorem lR : ∀ {ts:List TypeId} {ds:List (DataW H)} (i:Nat) {t:TypeId} {d:DataW H},ts[i]? =some t→ds[i]? =some d→(DataW.weightsEach P ts ds).all (· ≤reachBytes)=true→(d.weights P t).all (· ≤reachBytes)=true
 | [], _, i, t, d, h, _, _ => by cases h
 | _ :: _, [], i, t, d, _, h, _ => by cases h
 | t' :: ts, d' :: ds, i, t, d, h1, h2, h => by
   simp only[DataW.weightsEach,List.all_append,Bool.and_eq_true] at h
   cases i with
   | zero=>cases h1;cases h2;exact h.1
   | succ i=>exact lR i h1 h2 h.2
theorem glue {cs:List Value} : ∀ {fs:List Field} {off e:Nat},layFs P off fs=some e→
  (∀f,f∈fs→ ∃ys:List V,ys.length=P.cellsOf f.type∧(∀(j:Nat) x,ys[j]? =some x→ ∃v,cs[f.offset+j]? =some v∧Rep F w x v)∧CO P f.type ys)→
  ∃g:Nat→V,(∀i,off≤i→i<e→ ∃v,cs[i]? =some v∧Rep F w (g i) v)∧ ∀f,f∈fs→CO P f.type ((List.range (P.cellsOf f.type)).map fun j=>g (f.offset+j))
 | [], off, e, h, _ => by
   cases h
   exact⟨fun _=> .junk,fun i h1 h2=>by omega,fun f hf=>by cases hf⟩
 | f :: fs, off, e, h, cO => by
   simp only[layFs] at h
   split at h
   ·rename_i ho
    obtain⟨g,hg1,hg2⟩:=glue h fun f' hf'=>cO f' (List.mem_cons_of_mem _ hf')
    obtain⟨ys,hy1,hy2,hy3⟩:=cO f List.mem_cons_self
    have hle:=xA h
    refine⟨fun i=>if i<off+P.cellsOf f.type then ys.getD (i - off) .junk else g i,fun i h1 h2=> ?_,fun f' hf'=> ?_⟩
    ·by_cases hi:i<off+P.cellsOf f.type
     ·simp only[if_pos hi]
      have hlt:i - off<ys.length:=by omega
      obtain⟨v,hv,hr⟩:=hy2 (i - off) ys[i - off] (List.getElem?_eq_getElem hlt)
      refine⟨v,by rw[←hv];congr 1;omega,?_⟩
      rw[List.getD_eq_getElem?_getD,List.getElem?_eq_getElem hlt]
      exact hr
     ·simp only[if_neg hi]
      exact hg1 i (by omega) h2
    ·rcases List.mem_cons.1 hf' with rfl | hf'
     ·have:((List.range (P.cellsOf f'.type)).map fun j=>if f'.offset+j<off+P.cellsOf f'.type then ys.getD (f'.offset+j - off) .junk else g (f'.offset+j))=ys:=by
       apply List.ext_getElem?
       intro j
       rcases Nat.lt_or_ge j (P.cellsOf f'.type) with hj | hj
       ·rw[List.getElem?_map,List.getElem?_range hj,Option.map_some,if_pos (by omega),List.getD_eq_getElem?_getD,show f'.offset+j - off=j by omega,List.getElem?_eq_getElem (by omega)];rfl
       ·rw[List.getElem?_eq_none (by simpa using hj),List.getElem?_eq_none (by omega)]
      rw[this];exact hy3
     ·have hb:=hle.2 f' hf'
      have:((List.range (P.cellsOf f'.type)).map fun j=>if f'.offset+j<off+P.cellsOf f.type then ys.getD (f'.offset+j - off) .junk else g (f'.offset+j))=(List.range (P.cellsOf f'.type)).map fun j=>g (f'.offset+j):=
       List.map_congr_left fun j hj=>by rw[if_neg (by omega)]
      rw[this];exact hg2 f' hf'
   ·cases h
theorem G5 (hF: ∀b,b<w.heap.size→F b): ∀(n:Nat) (t:TypeId) (fuel:Nat) (cs:List Value) (d:DataW H) (ps:List MemPlace),tyOk P n t=true→
  DataW.trod enc P w 0 spare held fuel t cs=some (d,ps)→(d.weights P t).all (· ≤reachBytes)=true→
  ∃xs:List V,xs.length=cs.length∧cs.length=P.cellsOf t∧(∀(i:Nat) x,xs[i]? =some x→ ∃v,cs[i]? =some v∧Rep F w x v)∧CO P t xs:=by
 intro n
 induction n with
 | zero => intro t fuel cs d ps h; cases h
 | succ n ih =>
   intro t fuel cs d ps hT ht hw
   have one: ∀ {x:V} {v:Value},cs= [v]→P.cellsOf t=1→Rep F w x v→CO P t [x]→ ∃xs:List V,xs.length=cs.length∧cs.length=P.cellsOf t∧(∀(i:Nat) x,xs[i]? =some x→ ∃v,cs[i]? =some v∧Rep F w x v)∧CO P t xs:=by
    intro x v hcs h1 hr hc
    subst hcs
    refine⟨[x],rfl,h1.symm,fun i y hy=> ?_,hc⟩
    cases i with
    | zero => cases hy; exact ⟨v, rfl, hr⟩
    | succ i => cases hy
   unfold tyOk at hT
   split at hT
   ·rename_i hu
    obtain⟨b,rfl,hx⟩:=DataW.trod_bool hu ht
    exact one rfl (by simpa using hT) (.bool b) (.bool b hu)
   ·rename_i k hu
    obtain⟨z,rfl,hx,hwf⟩:=DataW.trod_int hu ht
    exact one rfl (by simpa using hT) (.int k z) (.int z hu hwf)
   ·rename_i hu
    obtain⟨s,rfl,hx,hsz⟩:=DataW.trod_string hu ht
    obtain⟨rfl,_⟩:=Prod.mk.inj hx
    simp only[DataW.weights,List.all_cons,List.all_nil,Bool.and_true,decide_eq_true_eq] at hw
    exact one rfl (by simpa using hT) (.str s) (.str s hu (by
     have:s.data.toList.length=s.size:=Array.length_toList
     omega))
   ·rename_i e hu
    simp only[Bool.and_eq_true,beq_iff_eq,decide_eq_true_eq] at hT
    obtain⟨⟨hc,hTe⟩,pG⟩:=hT
    rcases Deep.open_slice hu ht with ⟨rfl,_⟩| ⟨a,len,cap,m,fu,D,Pl,rfl,_,hlen,iT,hm,hx,hel⟩
    ·exact one rfl hc (.sl0 none 0 (fun _=>rfl)) (.sl [] hu (fun x hx=>by cases hx) (by rw[List.length_nil,Nat.zero_mul];exact Nat.zero_le _))
    ·obtain⟨hd,_⟩:=Prod.mk.inj hx
     subst hd
     simp only[DataW.weights,hu,List.all_cons,List.all_append,Bool.and_eq_true,decide_eq_true_eq,List.length_map,List.length_range] at hw
     obtain⟨hw0,hw1,_⟩:=hw
     have hlm:len≤m:=by rw[hm];split<;>omega
     have Vp: ∀i,i<len→ ∃xs:List V,xs.length=P.cellsOf e∧(∀(j:Nat) x,xs[j]? =some x→ ∃v,w.cell? ((a.add (i*P.cellsOf e)).add j)=some v∧Rep F w x v)∧CO P e xs:=by
      intro i hi
      obtain⟨cs',h1,h2⟩:=hel i (by omega)
      obtain⟨xs,g1,g2,g3,g4⟩:=ih e fu cs' (D i) (Pl i) hTe h2 (lY (List.mem_map.2 ⟨i,by simpa using hi,rfl⟩) hw1)
      obtain⟨_,c1,c2⟩:=World.cells?_some h1
      refine⟨xs,by omega,fun j x hx=> ?_,g4⟩
      obtain⟨v,hv,hr⟩:=g3 j x hx
      have hj:j<P.cellsOf e:=by
       have:=(List.getElem?_eq_some_iff.1 hx).1
       omega
      exact⟨v,by rw[c2 j hj];exact hv,hr⟩
     rcases Nat.eq_zero_or_pos len with h0 | h0
     ·subst h0
      exact one rfl hc (.sl0 (some a) cap (fun h=>by cases h)) (.sl [] hu (fun x hx=>by cases hx) (by rw[List.length_nil,Nat.zero_mul];exact Nat.zero_le _))
     ·obtain⟨X,hX⟩:=Deep.choose_lt (α:=List V) (n:=len) Vp
      have Qe:a=⟨a.block,a.off,none⟩:=by
       obtain⟨g1,g2,_⟩:=hX 0 h0
       obtain⟨x,hx⟩: ∃x,(X 0)[0]? =some x:=⟨(X 0)[0],List.getElem?_eq_getElem (by omega)⟩
       obtain⟨v,hv,_⟩:=g2 0 x hx
       simp only[Nat.zero_mul,Addr.add,if_pos] at hv
       unfold World.cell? at hv
       split at hv
       ·split at hv
        ·cases hv
        ·rename_i hs
         cases a with
         | mk b o s => cases s <;> simp at hs ⊢
       ·cases hv
      have Ug: ∀i j,(a.add (i*P.cellsOf e)).add j=⟨a.block,a.off+i*P.cellsOf e+j,none⟩:=by
       intro i j
       rw[Deep.add_add]
       unfold Addr.add
       split
       ·rename_i h;rw[Qe];simp only[Addr.mk.injEq,true_and,and_true];omega
       ·simp only[Addr.mk.injEq,true_and,and_true];omega
      have aLQ:a.block<w.heap.size:=by
       obtain⟨g1,g2,_⟩:=hX 0 h0
       obtain⟨x,hx⟩: ∃x,(X 0)[0]? =some x:=⟨(X 0)[0],List.getElem?_eq_getElem (by omega)⟩
       obtain⟨v,hv,_⟩:=g2 0 x hx
       rw[Ug] at hv
       unfold World.cell? at hv
       split at hv
       ·rename_i hh;exact(Array.getElem?_eq_some_iff.1 hh).1
       ·cases hv
      have hxs: ∀i c,((List.range len).map X)[i]? =some c→i<len∧c=X i:=by
       intro i c h
       rw[List.getElem?_map] at h
       rcases Nat.lt_or_ge i len with hi | hi
       ·rw[List.getElem?_range hi] at h;cases h;exact⟨hi,rfl⟩
       ·rw[List.getElem?_eq_none (by simpa using hi)] at h;cases h
      have bU:Rep F w (.sl ((List.range len).map X)) (.slice (some a) len cap):=by
       have hl:((List.range len).map X).length=len:=by simp
       rw[Qe]
       have:=Rep.sl (F:=F) (w:=w) a.block a.off cap (P.cellsOf e) ((List.range len).map X) (fun i j=>(w.cell? ⟨a.block,a.off+i*P.cellsOf e+j,none⟩).getD undef) (hF _ aLQ) (by omega) iT ?_ ?_ ?_
       ·rw[hl] at this;exact this
       ·intro c hcm
        obtain⟨i,hi,rfl⟩:=List.mem_map.1 hcm
        exact(hX i (by simpa using hi)).1
       ·intro i c j x h1 h2
        obtain⟨hi,rfl⟩:=hxs i c h1
        obtain⟨v,hv,_⟩:=(hX i hi).2.1 j x h2
        rw[Ug] at hv
        rw[hv];rfl
       ·intro i c j x h1 h2
        obtain⟨hi,rfl⟩:=hxs i c h1
        obtain⟨v,hv,hr⟩:=(hX i hi).2.1 j x h2
        rw[Ug] at hv
        rw[hv];exact hr
      refine one rfl hc bU (.sl _ hu (fun x hx=> ?_) ?_)
      ·obtain⟨i,hi,rfl⟩:=List.mem_map.1 hx
       exact(hX i (by simpa using hi)).2.2
      ·simp only[List.length_map,List.length_range]
       exact Nat.le_trans (Nat.mul_le_mul_right _ (by omega)) hw0
   ·rename_i fs hu
    simp only[Bool.and_eq_true,beq_iff_eq,List.all_eq_true] at hT
    obtain⟨aBX,hTf⟩:=hT
    obtain⟨ys,fu,_,hx,hlen,hys,hel⟩:=DataW.trod_struct hu ht
    obtain⟨hd,_⟩:=Prod.mk.inj hx
    subst hd
    simp only[DataW.weights,hu] at hw
    have hle:=xA aBX
    obtain⟨g,hg1,hg2⟩:=glue (F:=F) (w:=w) (cs:=cs) aBX (fun f hf=>by
     obtain⟨i,hi⟩:=List.mem_iff_getElem?.1 hf
     have hi':fs[i]? =some f:=by rw[←Array.getElem?_toList];exact hi
     have zB:=hel i f hi'
     have aEQ:i<ys.length:=by rw[hys];exact(Array.getElem?_eq_some_iff.1 hi').1
     rw[List.getElem?_eq_getElem aEQ] at zB
     have hb:=hle.2 f hf
     obtain⟨xs,g1,g2,g3,g4⟩:=ih f.type fu _ ys[i].1 ys[i].2 (hTf f hf) (by rw[zB]) (lR i (by rw[List.getElem?_map,hi];rfl) (by rw[List.getElem?_map,List.getElem?_eq_getElem aEQ];rfl) hw)
     refine⟨xs,by omega,fun j x hx=> ?_,g4⟩
     obtain⟨v,hv,hr⟩:=g3 j x hx
     have hj:j<P.cellsOf f.type:=by
      have:=(List.getElem?_eq_some_iff.1 hx).1
      omega
     rw[List.getElem?_take_of_lt hj,List.getElem?_drop] at hv
     exact⟨v,hv,hr⟩)
    refine⟨(List.range (P.cellsOf t)).map g,by simp[hlen],hlen,fun i x hx=> ?_,.struct hu (by simp) fun f hf=> ?_⟩
    ·rw[List.getElem?_map] at hx
     rcases Nat.lt_or_ge i (P.cellsOf t) with hi | hi
     ·rw[List.getElem?_range hi] at hx;cases hx
      exact hg1 i (Nat.zero_le _) hi
     ·rw[List.getElem?_eq_none (by simpa using hi)] at hx;cases hx
    ·have hb:=hle.2 f hf
     have:(((List.range (P.cellsOf t)).map g).drop f.offset).take (P.cellsOf f.type)=(List.range (P.cellsOf f.type)).map fun j=>g (f.offset+j):=by
      apply List.ext_getElem?
      intro j
      rcases Nat.lt_or_ge j (P.cellsOf f.type) with hj | hj
      ·rw[List.getElem?_take_of_lt hj,List.getElem?_drop,List.getElem?_map,List.getElem?_range (by omega),List.getElem?_map,List.getElem?_range hj];rfl
      ·rw[List.getElem?_take_eq_none hj,List.getElem?_eq_none (by simpa using hj)]
     rw[this];exact hg2 f hf
   ·cases hT
def toV (P:Program) (t:TypeId) (cs:List V):V:=match P.underlying t with | some (.struct _)=> .agg cs | _=>cs.headD .junk
def pD (P:Program):List TypeId→List V→Prop
 | [], [] => True
 | t :: ts, x :: xs => (∃ cs, CO P t cs ∧ x = toV P t cs) ∧ pD P ts xs
 | _, _ => False
theorem R6 {b0:Nat} {n:Nat} {t:TypeId} {v:Value} {d:DataW H} {ps:List MemPlace} (hF: ∀b,b<w.heap.size→F b) (hT:tyOk P n t=true) (hv:Value.okWide P w .any b0 t v)
  (h:DataW.Trod enc P w 0 spare held t v d ps) (hw:(d.weights P t).all (· ≤reachBytes)=true): ∃cs,CO P t cs∧Rep F w (toV P t cs) v:=by
 obtain⟨fuel,hf⟩:=h
 obtain⟨xs,h1,h2,h3,h4⟩:=G5 hF n t fuel _ d ps hT hf hw
 refine⟨xs,h4,?_⟩
 have one:P.cellsOf t=1→v.cells.toList= [v]→Rep F w (xs.headD .junk) v:=by
  intro hc jF
  rw[jF] at h1 h3
  obtain⟨x,hx⟩: ∃x,xs[0]? =some x:=⟨xs[0]'(by rw[h1];exact Nat.zero_lt_one),List.getElem?_eq_getElem _⟩
  obtain⟨v',hv',hr⟩:=h3 0 x hx
  cases hv'
  cases xs with
  | nil => cases hx
  | cons y ys => cases hx; exact hr
 unfold tyOk at hT
 cases n with
 | zero => cases hT
 | succ n =>
   simp only at hT
   unfold toV
   split at hT
   ·rename_i hu
    obtain⟨b,rfl⟩:=okWide_bool hu hv
    simp only[hu]
    exact one (by simpa using hT) rfl
   ·rename_i k hu
    obtain⟨b,rfl⟩:=okWide_int hu hv
    simp only[hu]
    exact one (by simpa using hT) rfl
   ·rename_i hu
    obtain⟨b,rfl⟩:=okWide_string hu hv
    simp only[hu]
    exact one (by simpa using hT) rfl
   ·rename_i e hu
    obtain⟨a,l,c,rfl⟩:=okWide_slice hu hv
    simp only[hu]
    simp only[Bool.and_eq_true,beq_iff_eq] at hT
    exact one hT.1.1 rfl
   ·rename_i fs hu
    simp only[hu]
    simp only[Value.okWide,hu] at hv
    obtain⟨cs,rfl,_,_⟩:=hv
    refine .agg xs cs (by simp only[Value.cells] at h1;simpa using h1.symm) fun i x hx=> ?_
    obtain⟨u,hu',hr⟩:=h3 i x hx
    simp only[Value.cells,Array.getElem?_toList] at hu'
    rw[Array.getD_eq_getD_getElem?,hu']
    exact hr
   ·cases hT
theorem qI {b0:Nat} (hF: ∀b,b<w.heap.size→F b): ∀ {ts:List TypeId} {vs:List Value} {ds:List (DataW H)} {ps:List MemPlace},(∀t,t∈ts→tyOk P 9 t=true)→
  (∀(j:Nat) t v,ts[j]? =some t→vs[j]? =some v→Value.okWide P w .any b0 t v)→DataW.TrodAll enc P w 0 spare held ts vs ds ps→(DataW.weightsEach P ts ds).all (· ≤reachBytes)=true→
  ds.length=ts.length∧ ∃xs,pD P ts xs∧vs.length=xs.length∧ ∀(i:Nat) x,xs[i]? =some x→ ∃v,vs[i]? =some v∧Rep F w x v
 | [], vs, ds, ps, _, _, h, _ => by
   obtain⟨rfl,rfl,rfl⟩:=trodAll_nil h
   exact⟨rfl,[],trivial,rfl,fun i x hx=>by cases hx⟩
 | t :: ts, vs, ds, ps, hT, hv, h, hw => by
   obtain⟨v0,vs0,d0,ds0,p0,q0,rfl,rfl,rfl,h0,r0⟩:=trodAll_cons h
   simp only[DataW.weightsEach,List.all_append,Bool.and_eq_true] at hw
   obtain⟨cs,hc,hr⟩:=R6 hF (hT t List.mem_cons_self) (hv 0 t v0 rfl rfl) h0 hw.1
   obtain⟨hd,xs,h1,h2,h3⟩:=qI hF (fun t' ht=>hT t' (List.mem_cons_of_mem _ ht)) (fun j t' v h1 h2=>hv (j+1) t' v h1 h2) r0 hw.2
   refine⟨by simp[hd],toV P t cs::xs,⟨⟨cs,hc,rfl⟩,h1⟩,by simp[h2],fun i x hx=> ?_⟩
   cases i with
   | zero=>cases hx;exact⟨v0,rfl,hr⟩
   | succ i=>exact h3 i x hx
theorem stays {W W':World} (hl:laidOutB P=true) (hb:Below W.heap.size W W'): ∀ {ts:List TypeId} {vs:List Value} {ds:List (DataW H)} {ps:List MemPlace},(∀t,t∈ts→P.readableRec t=true∧t<P.types.size)→
  DataW.TrodAll enc P W 0 (fun _=>true) true ts vs ds ps→ ∃qs,DataW.TrodAll enc P W' 0 (fun b=>decide (b<W.heap.size)) true ts vs ds qs
 | [], vs, ds, ps, _, h => by
   obtain⟨rfl,rfl,rfl⟩:=trodAll_nil h
   exact⟨[],rfl⟩
 | t :: ts, vs, ds, ps, hT, h => by
   obtain⟨v0,vs0,d0,ds0,p0,q0,rfl,rfl,rfl,h0,r0⟩:=trodAll_cons h
   obtain⟨qs,hq⟩:=stays hl hb (fun t' ht=>hT t' (List.mem_cons_of_mem _ ht)) r0
   have hlt: ∀x∈p0,x.block<W.heap.size:=by obtain⟨m,hm⟩:=h0;exact DataW.trod_lt m _ _ _ hm
   exact⟨_,trodAll_cons_mk (Below.trod hl (hT t List.mem_cons_self).1 (hT t List.mem_cons_self).2 h0 hb hlt) hq⟩
theorem law_calls {f:FuncId} {fn:Func} {s:ChangeSpec} {tb:TypeId} (hvars:s.vars= []) (Uh:fn.resultTypes= #[tb]) (hb:P.underlying tb=some .bool) (hl:laidOutB P=true)
  (hT:(fn.params.toList.all fun t=>tyOk P 9 t && P.readableRec t && decide (t<P.types.size))=true)
  (hfn: ∀ds:List (DataW H),ds.length=fn.params.toList.length→s.fn H ds= { results:= [.lit (.bool true)],args:=ds })
  (hro: ∀xs,pD P fn.params.toList xs→RO P f xs (.bool true))
  (W:World) (base:Nat) (args:Array Value) (ds gs:List (DataW H)) (before:List MemPlace)
  (Gh: ∀(j:Nat) t v,fn.params[j]? =some t→args[j]? =some v→Value.okWide P W .any base t v)
  (hW:DataW.Whole enc P fn.params.toList s.vars false W args.toList ds gs before)
  (hsz:(DataW.weightsEach P (fn.params.toList++s.plain.varTypes P) (ds++gs)).all (· ≤reachBytes)=true):
  Calls P f args W fun e W'=> ∃v,e= .returned v∧s.post enc P fn false true false false W args v W':=by
 have hW':=hW
 obtain⟨p,q,hA,hV,rfl,hfz,hnd⟩:=hW
 rw[hvars] at hV
 obtain⟨rfl,rfl⟩:=trodVars_none hV
 have hty: ∀t,t∈fn.params.toList→tyOk P 9 t=true∧P.readableRec t=true∧t<P.types.size:=fun t ht=>by
  have:=List.all_eq_true.1 hT t ht
  simp only[Bool.and_eq_true,decide_eq_true_eq] at this
  exact⟨this.1.1,this.1.2,this.2⟩
 have hvt:s.plain.varTypes P= []:=by
  unfold DataSpec.varTypes ChangeSpec.plain
  rw[hvars];rfl
 rw[hvt,List.append_nil,List.append_nil] at hsz
 obtain⟨hdl,xs,hok,hlen,H2⟩:=qI (F:=fun b=>b<W.heap.size) (fun b hb=>hb) (fun t ht=>(hty t ht).1) (b0:=base) (fun j t v h1 h2=>Gh j t v (by rw[←Array.getElem?_toList];exact h1) (by rw[←Array.getElem?_toList];exact h2)) hA hsz
 have hm:Mem W (fun _=>False) (fun b=>b<W.heap.size) (fun _=>none) W:=
  ⟨rfl,rfl,rfl,Nat.le_refl _,fun _ _ _=>rfl,.refl W,fun _ h=>h,⟨0,fun _ _=>rfl⟩,fun g b h _=>(by cases h),fun g b h=>(by cases h)⟩
 refine((hro xs hok (fun _=>none)).2 W (fun _=>False) _ W args hm ⟨by simpa using hlen,fun i x hx=> ?_⟩).mono fun e W' hpost=> ?_
 ·obtain⟨v,hv,hr⟩:=H2 i x hx
  rw[Array.getElem?_toList] at hv
  rw[Array.getD_eq_getD_getElem?,hv]
  exact hr
 ·obtain⟨v,r,bl',F',rfl,_,_,_,hm',hr,hrr,_⟩:=hpost
  subst hrr
  have aHG:Below W.heap.size W W':=⟨hm'.os,hm'.tape,hm'.output,hm'.size,fun k hk=>hm'.frame k hk (fun h=>h)⟩
  cases hr
  obtain⟨qs,hqs⟩:=stays hl aHG (fun t ht=>(hty t ht).2) hA
  refine⟨_,rfl,ds,[],_,[],qs,[],hW',?_,?_,?_,aHG.frame _,fun h=>by cases h⟩
  ·rw[List.append_nil,hfn ds hdl,Uh]
   exact trodAll_mk1 (shut_bool hb _)
  ·rw[List.append_nil,hfn ds hdl];exact hqs
  ·rw[List.append_nil,hfn ds hdl,hvars];exact rfl
end
section
variable {P : Program}
theorem Rn {t:TypeId} {k:IntKind} {cs:List V} (hu:P.underlying t=some (.int k)) (h:CO P t cs): ∃n,cs= [.int k n]∧(Lit.int k n).wf=true:=by
 cases h<;>rename_i h0<;>simp_all
theorem Ew {t e:TypeId} {cs:List V} (hu:P.underlying t=some (.slice e)) (h:CO P t cs): ∃xs,cs= [.sl xs]∧(∀x,x∈xs→CO P e x)∧xs.length*P.bytesOf e≤140737488351232:=by
 cases h with
 | sl xs h0 hx hl => rw [hu] at h0; cases h0; exact ⟨xs, rfl, hx, hl⟩
 | bool b h0 => rw [hu] at h0; cases h0
 | int n h0 => rw [hu] at h0; cases h0
 | str s h0 => rw [hu] at h0; cases h0
 | struct h0 => rw [hu] at h0; cases h0
theorem De {t e:TypeId} {cs:List V} (hu:P.underlying t=some (.slice e)):toV P t cs=cs.headD .junk:=by unfold toV;rw[hu]
theorem Kl {xs:List V} (h:pD P [] xs):xs= []:=by cases xs with | nil=>rfl | cons=>exact h.elim
theorem Cf {t:TypeId} {ts:List TypeId} {xs:List V} (h:pD P (t::ts) xs): ∃cs ys,xs=toV P t cs::ys∧CO P t cs∧pD P ts ys:=by
 cases xs with
 | nil => exact h.elim
 | cons x xs => obtain ⟨⟨cs, h1, rfl⟩, h2⟩ := h; exact ⟨cs, xs, rfl, h1, h2⟩
theorem wf_u8 {n:Int} (h:(Lit.int .u8 n).wf=true):0≤n∧n≤255:=bounds_u8 h
end
end Go.Proofs.YticmgmemnpcbbaaGreat.Vm

namespace Go.Proofs.YticmgmemnpcbbaaGreat.Vm
open Go
def ws2 :List Char→List Char→List (List Char)
 | [], cur => [cur.reverse]
 | c :: r, cur => if c = Char.ofNat 32 then cur.reverse :: ws2 r [] else ws2 r (c :: cur)
theorem Kh : ∀l:List Char,∃w ws,wordsSigns l=w::ws
 | [] => ⟨[], [], rfl⟩
 | c :: r => by
   obtain⟨w,ws,h⟩:=Kh r
   unfold wordsSigns
   split
   ·cases ‹_=([]:List Char)›
   ·exact⟨_,_,rfl⟩
   ·rename_i heq
    cases heq
    rw[h]
    exact⟨_,_,rfl⟩
theorem C6 : ∀(l cur:List Char),ws2 l cur=match wordsSigns l with | w::ws=>(cur.reverse++w)::ws | []=> []
 | [], cur => by simp [ws2, wordsSigns]
 | c :: r, cur => by
   obtain⟨w,ws,h⟩:=Kh r
   unfold ws2
   by_cases hc:c=Char.ofNat 32
   ·subst hc
    rw[if_pos rfl,C6 r []]
    have:wordsSigns (Char.ofNat 32::r)= []::wordsSigns r:=rfl
    rw[this,h]
    simp
   ·rw[if_neg hc,C6 r (c::cur)]
    have:wordsSigns (c::r)=match wordsSigns r with | w::ws=>(c::w)::ws | []=> [[c]]:=by
     conv=>lhs;unfold wordsSigns
     split
     ·cases ‹_=([]:List Char)›
     ·rename_i heq;cases heq;exact absurd rfl hc
     ·rename_i heq;cases heq;rfl
    rw[this,h]
    simp
theorem aGR (l:List Char):wordsSigns l=ws2 l []:=by
 obtain⟨w,ws,h⟩:=Kh l
 rw[C6,h]
 simp
set_option maxRecDepth 100000 in
def It :List Nat:= [104,97,114,110,101,115,115,32,101,98,99,99,49,54,54,102,57,50,53,98,99,97,54,54,48,49,99,54,52,97,102,55,51,48,51,99,54,52,99,99,50,101,98,51,54,98,50,49,50,56,100,48,100,99,56,101,100,100,56,102,53,99,51,51,97,49,54,53,52,49,102,56,32,99,117,116,32,97,116,32,108,111,111,112,46,101,120,97,109,112,108,101,47,103,48,48,56,51,48,47,108,97,119,115,46,70,110,66,97,108,97,110,99,101,100,32,108,111,111,112,46,101,120,97,109,112,108,101,47,103,48,48,56,51,48,47,108,97,119,115,46,70,110,87,111,114,107,32,108,111,111,112,46,101,120,97,109,112,108,101,47,103,48,48,56,51,48,47,108,97,119,115,46,70,110,82,101,97,99,116,105,111,110,115,32,108,111,111,112,46,101,120,97,109,112,108,101,47,103,48,48,56,51,48,47,108,97,119,115,46,70,110,67,111,110,101,32,108,111,111,112,46,101,120,97,109,112,108,101,47,103,48,48,56,51,48,47,108,97,119,115,46,70,110,68,101,116,101,114,109,105,110,97,116,101,32,108,111,111,112,46,101,120,97,109,112,108,101,47,103,48,48,56,51,48,47,108,97,119,115,46,70,110,69,120,97,99,116,67,97,110,67,97,114,114,121,32,108,111,111,112,46,101,120,97,109,112,108,101,47,103,48,48,56,51,48,47,108,97,119,115,46,70,110,69,120,97,99,116,67,97,110,80,114,101,116,101,110,115,105,111,110,32,108,111,111,112,46,101,120,97,109,112,108,101,47,103,48,48,56,51,48,47,108,97,119,115,46,70,110,69,120,97,99,116,82,97,110,103,101,79,102,32,108,111,111,112,46,101,120,97,109,112,108,101,47,103,48,48,56,51,48,47,108,97,119,115,46,70,110,69,120,97,99,116,68,101,110,115,105,116,105,101,115,79,102,32,108,111,111,112,46,101,120,97,109,112,108,101,47,103,48,48,56,51,48,47,108,97,119,115,46,70,110,69,120,97,99,116,80,114,101,116,101,110,115,105,111,110,79,102,32,108,111,111,112,46,101,120,97,109,112,108,101,47,103,48,48,56,51,48,47,108,97,119,115,46,70,110,69,120,97,99,116,69,120,116,114,101,109,101,79,102,32,108,111,111,112,46,101,120,97,109,112,108,101,47,103,48,48,56,51,48,47,108,97,119,115,46,70,110,69,120,97,99,116,82,101,102,117,115,97,108,79,102]
theorem tT :Tryz.prog.initOrder=String.ofList (It.map Char.ofNat):=by kernel_rfl
theorem vE :Tryz.prog.initOrder.toList=It.map Char.ofNat:=by
 rw[tT];exact String.toList_ofList
theorem Iq {P : Program} {rest : List (List Char)} (h : behindMainWord (wordsSigns P.initOrder.toList) = "cut".toList :: rest) : P.make = some .cut := by
 unfold Program.make
 rw[h]
 rfl
theorem Df {P : Program} {rest : List (List Char)} (h : behindMainWord (wordsSigns P.initOrder.toList) = "cut".toList :: rest) : P.liftsFinal = false := by
 have hh:P.headLifts= []:=by
  unfold Program.headLifts
  rw[h]
  rfl
 unfold Program.liftsFinal
 rw[h,hh]
 rfl
theorem Dj {P : Program} {rest : List (List Char)} (h : behindMainWord (wordsSigns P.initOrder.toList) = "cut".toList :: rest) (h1 : P.laysLater = false) (h2 : P.bearsReflect = false) (h3 : P.doorFits [] = true) : P.mayEnter = true := by
 have hs : stripLifts liftWords ("cut".toList :: rest) = ([], "cut".toList :: rest) := rfl
 unfold Program.mayEnter
 rw[h]
 simp only[hs,h1,h2,h3]
 simp
noncomputable def wM (P : Program) (f : FuncId) (fn : Func) (s : ChangeSpec) (c : OpenClaim) (e1 : P.mayEnter = true) (e2 : P.liftsFinal = false) (e3 : P.make = some .cut) : { b : Bool // joinedFacts P f fn s c = b } :=
 ⟨_,by unfold joinedFacts;rw[e1,e2,e3]⟩
set_option maxRecDepth 100000 in
theorem mX : behindMainWord (wordsSigns Tryz.prog.initOrder.toList) = "cut".toList :: ws2 ((It.drop 77).map Char.ofNat) [] := by
 rw[vE,aGR]
 kernel_rfl
theorem Hc :Tryz.prog.laysLater=false:=by kernel_rfl
theorem Y8 :Tryz.prog.bearsReflect=false:=by kernel_rfl
theorem aLU :Tryz.prog.doorFits []=true:=by kernel_rfl
theorem tP :Tryz.prog.liftsFinal=false:=Df mX
theorem zI :Tryz.prog.mayEnter=true:=Dj mX Hc Y8 aLU
theorem made :Tryz.prog.make=some .cut:=Iq mX
theorem facts {f:FuncId} {fn:Func} {s:ChangeSpec} {c:OpenClaim} (hJ:(wM Tryz.prog f fn s c zI tP made).1=true):joinedFacts Tryz.prog f fn s c=true:=(wM Tryz.prog f fn s c zI tP made).2.trans hJ
theorem laidOut :laidOutB Tryz.prog=true:=by kernel_rfl
theorem own :ownKnob Tryz.prog.godebug=none:=by kernel_rfl
end Go.Proofs.YticmgmemnpcbbaaGreat.Vm

namespace Go.Proofs.YticmgmemnpcbbaaGreat.Vm
open Go Go.RowKit
set_option linter.unusedSimpArgs false
set_option linter.unusedVariables false
section
variable {P : Program} {ops : Array Oper} {w0 : World} {M F : Nat → Prop} {a : Act} {w : World}
def St.fH (σ:St) (bl:Int→Option Blk):St:= { σ with bl:=bl }
def kept (gL:List Int) (bl:Int→Option Blk):Int→Option Blk:=fun g=>if gL.contains g then bl g else none
def aM3 (gL:List Int) (bl bl':Int→Option Blk):Prop:= ∀g,gL.contains g=true→bl' g=bl g
def quietOp :Op→Bool
 | .move _ | .assign _ | .pick .. | .load .. | .nilCheck _ | .binOp .. | .unOp .. | .convert .. | .makeFunc .. | .slice .. | .fieldAddr .. | .field .. | .indexAddr .. | .index .. | .extract .. | .build .. => true
 | .call { callee := .builtin .len, .. } => true
 | _ => false
def RL (P:Program) (blK:Int→Option Blk) (f:FuncId) (xs:List V) (r:V):Prop:= ∀bl,Sub blK bl→bJ P f xs bl fun v bl'=>v=r∧bl'=bl
theorem aCS {P:Program} {blK:Int→Option Blk} {f:FuncId} {xs:List V} {r:V} (h:RO P f xs r):RL P blK f xs r:=fun bl _=>h bl
def SV (P:Program) (blK:Int→Option Blk) (o:Oper) (σ:St) (v:V):Prop:=
 (quietOp o.op=true∧T P o (fun σ'=>σ'=(σ.fH blK).put o.dst v) (σ.fH blK))∨
 (∃c f p n ys,o.op= .call c∧c.callee= .value f∧callV σ f c.args.toList=some p∧((frzL blK n p.2=some ys∧RO P p.1 ys v∧v.sc=true)∨RL P blK p.1 p.2 v))
theorem eN (σ:St) (bl:Int→Option Blk) (x:Operand):(σ.fH bl).ev x=σ.ev x:=by cases x<;>rfl
theorem Kx {bl bl':Int→Option Blk} (h:Sub bl bl') {x:V} {cs:List V} (hx:rdP bl x=some cs):rdP bl' x=some cs:=by
 cases x<;>simp only[rdP] at hx ⊢ <;>try exact hx
 split at hx
 ·rename_i b hb;rw[h _ b hb];exact hx
 ·cases hx
theorem Cq {bl bl':Int→Option Blk} (h:Sub bl bl') {sz:Nat} {x:V} {els:List (List V)} (hx:elsV bl sz x=some els):elsV bl' sz x=some els:=by
 cases x<;>simp only[elsV] at hx ⊢ <;>try exact hx
 split at hx
 ·rename_i hg;rw[if_pos hg];exact hx
 ·rename_i hg
  rw[if_neg hg]
  split at hx
  ·rename_i b hb;rw[h _ b hb];exact hx
  ·cases hx
theorem Eg {bl bl':Int→Option Blk} (h:Sub bl bl') {P:Program} {s d:TypeId} {x v:V} (hx:cvtV P bl s d x=some v):cvtV P bl' s d x=some v:=by
 have key:cvtS P bl s d x=some v→cvtS P bl' s d x=some v:=by
  intro hx
  unfold cvtS at hx ⊢
  split at hx
  ·split at hx
   ·rename_i e he hd els hu Wp
    rw[hu,Cq h Wp];exact hx
   ·cases hx
  ·cases hx
 cases x<;>first | exact key hx | exact hx
theorem Gi {bl bl':Int→Option Blk} (h:Sub bl bl') (n:Nat): ∀ {x y:V},frz bl n x=some y→frz bl' n x=some y:=by
 induction n with
 | zero => intro x y hx; cases x <;> simp only [frz] at hx ⊢ <;> exact hx
 | succ n ih =>
   have hm: ∀ {cs ds:List V},cs.mapM (frz bl n)=some ds→cs.mapM (frz bl' n)=some ds:=by
    intro cs
    induction cs with
    | nil => intro ds h; exact h
    | cons c cs ihc =>
      intro ds h
      rw[List.mapM_cons] at h ⊢
      cases hc:frz bl n c with
      | none=>rw[hc] at h;cases h
      | some d=>
        rw[hc] at h;rw[ih hc]
        cases hcs:cs.mapM (frz bl n) with
        | none=>rw[hcs] at h;cases h
        | some ds'=>rw[hcs] at h;rw[ihc hcs];exact h
   have hmm: ∀ {cs ds:List (List V)},cs.mapM (fun e:List V=>e.mapM (frz bl n))=some ds→cs.mapM (fun e:List V=>e.mapM (frz bl' n))=some ds:=by
    intro cs
    induction cs with
    | nil => intro ds h; exact h
    | cons c cs ihc =>
      intro ds h
      rw[List.mapM_cons] at h ⊢
      cases hc:c.mapM (frz bl n) with
      | none=>rw[hc] at h;cases h
      | some d=>
        rw[hc] at h;rw[hm hc]
        cases hcs:cs.mapM (fun e:List V=>e.mapM (frz bl n)) with
        | none=>rw[hcs] at h;cases h
        | some ds'=>rw[hcs] at h;rw[ihc hcs];exact h
   have wrap: ∀(cs:List V) (k:List V→V) (y:V),(if cs.all V.cl then some (k cs) else(cs.mapM (frz bl n)).map k)=some y→(if cs.all V.cl then some (k cs) else(cs.mapM (frz bl' n)).map k)=some y:=by
    intro cs k y h
    split at h
    ·rename_i hc;rw[if_pos hc];exact h
    ·rename_i hc
     rw[if_neg hc]
     cases hcs:cs.mapM (frz bl n) with
     | none => rw [hcs] at h; cases h
     | some ds => rw [hcs] at h; rw [hm hcs]; exact h
   intro x y hx
   cases x<;>simp only[frz] at hx ⊢ <;>try exact hx
   case loc g sz k j=>
    split at hx
    ·rename_i b hb
     rw[h _ b hb]
     simp only
     split at hx
     ·rename_i hsz
      rw[if_pos hsz]
      split at hx
      ·rename_i e he
       exact wrap _ V.ptr y hx
      ·cases hx
     ·cases hx
    ·cases hx
   case lsl g sz o m=>
    split at hx
    ·rename_i hg;rw[if_pos hg];exact hx
    ·rename_i hg
     rw[if_neg hg]
     split at hx
     ·rename_i b hb
      rw[h _ b hb]
      simp only
      split at hx
      ·rename_i hc
       rw[if_pos hc]
       split at hx
       ·rename_i hc2;rw[if_pos hc2];exact hx
       ·rename_i hc2
        rw[if_neg hc2]
        cases hcs:((b.els.drop o).take m).mapM (fun e:List V=>e.mapM (frz bl n)) with
        | none => rw [hcs] at hx; cases hx
        | some ds => rw [hcs] at hx; rw [hmm hcs]; exact hx
      ·cases hx
     ·cases hx
   case agg cs=>exact wrap _ V.agg y hx
   case tup cs=>exact wrap _ V.tup y hx
   case fn f cs=>exact wrap _ (V.fn f) y hx
theorem zA {bl bl':Int→Option Blk} (h:Sub bl bl') {n:Nat} : ∀ {xs ys:List V},frzL bl n xs=some ys→frzL bl' n xs=some ys
 | [], ys, hx => hx
 | x :: xs, ys, hx => by
   simp only[frzL] at hx ⊢
   split at hx
   ·rename_i y' ys' h1 h2
    rw[Gi h n h1,zA h h2];exact hx
   ·cases hx
theorem SV.T {blK:Int→Option Blk} {o:Oper} {σ:St} {v:V} (h:SV P blK o σ v) (hs:Sub blK σ.bl) {K:St→Prop} (hK:K (σ.put o.dst v)):T P o K σ:=by
 have fin: ∀ {v':V},(σ.fH blK).put o.dst v'=(σ.fH blK).put o.dst v→K (σ.put o.dst v'):=by
  intro v' h
  have:σ.put o.dst v'=σ.put o.dst v:=by
   cases hd:o.dst with
   | none => rfl
   | some d =>
     rw[hd] at h
     have h2:upd σ.sl d v'=upd σ.sl d v:=congrArg St.sl h
     show({ σ with sl:=upd σ.sl d v' } :St)= { σ with sl:=upd σ.sl d v }
     rw[h2]
  rw[this];exact hK
 rcases h with ⟨hq,hT⟩| ⟨c,f,p,n,ys,ho,hc,hp,hro⟩
 ·unfold Vm.T at hT ⊢
  cases ho:o.op<;>rw[ho] at hT hq<;>simp only[eN] at hT ⊢ <;>try (simp[quietOp] at hq;done)
  case move x=>exact fin hT
  case assign x=>exact fin hT
  case pick c x y=>obtain⟨q,hq,h1⟩:=kK hT;rw[hq];simp only[L3];exact fin h1
  case build t ps=>obtain⟨cs,h1,h2,r,h3,h4⟩:=hT;exact⟨cs,h1,h2,r,h3,fin h4⟩
  case load t x=>obtain⟨cs,h1,u,h2,h3⟩:=hT;exact⟨cs,Kx hs h1,u,h2,fin h3⟩
  case nilCheck x=>obtain⟨u,h1,h2⟩:=hT;exact⟨u,h1,fin h2⟩
  case binOp=>obtain⟨u,h1,h2⟩:=hT;exact⟨u,h1,fin h2⟩
  case unOp=>obtain⟨u,h1,h2⟩:=hT;exact⟨u,h1,fin h2⟩
  case convert=>obtain⟨u,h1,h2⟩:=hT;exact⟨u,Eg hs h1,fin h2⟩
  case makeFunc f first cap=>
   cases f<;>simp only at hT ⊢ <;>try exact hT.elim
   obtain⟨h1,h2⟩:=hT
   have:(cap.toList.map (σ.fH blK).ev)=cap.toList.map σ.ev:=List.map_congr_left fun x _=>eN _ _ x
   rw[this] at h2
   exact⟨h1,fin h2⟩
  case slice t x lo hi mx=>
   cases mx<;>simp only at hT ⊢
   obtain⟨u,h1,h2⟩:=hT
   have e1:lo.map (σ.fH blK).ev=lo.map σ.ev:=by cases lo<;>simp[eN]
   have e2:hi.map (σ.fH blK).ev=hi.map σ.ev:=by cases hi<;>simp[eN]
   rw[e1,e2] at h1
   exact⟨u,h1,fin h2⟩
  case fieldAddr=>obtain⟨u,h1,h2⟩:=hT;exact⟨u,h1,fin h2⟩
  case field=>obtain⟨u,h1,h2⟩:=hT;exact⟨u,h1,fin h2⟩
  case indexAddr=>obtain⟨u,h1,h2⟩:=hT;exact⟨u,h1,fin h2⟩
  case index=>obtain⟨u,h1,h2⟩:=hT;exact⟨u,h1,fin h2⟩
  case extract=>obtain⟨u,h1,h2⟩:=hT;exact⟨u,h1,fin h2⟩
  case call c=>
   obtain⟨cal,args,ats⟩:=c
   cases cal with
   | value f => simp [quietOp] at hq
   | invoke r m => simp [quietOp] at hq
   | builtin b =>
     cases b<;>try (simp[quietOp] at hq;done)
     simp only at hT ⊢
     obtain⟨u,h1,h2,h3,h4⟩:=hT
     exact⟨u,h1,h2,h3,fin h4⟩
 ·unfold Vm.T
  rw[ho]
  simp only[hc]
  rcases hro with ⟨hf,hr,hsc⟩| hr
  ·exact⟨p,hp,bS n (zA hs hf) hr hsc hK⟩
  ·exact⟨p,hp,(hr _ hs).mono fun v' b ⟨hv,hb⟩=>by subst hv hb;exact hK⟩
theorem Pu {o:Oper} {K K':St→Prop} {σ σ':St} (h:T P o K σ) (hev: ∀x∈o.op.operands,σ'.ev x=σ.ev x) (hbl:σ'.bl=σ.bl)
  (hk: ∀bl' u,K (({ σ with bl:=bl' } :St).put o.dst u)→K' (({ σ' with bl:=bl' } :St).put o.dst u)):T P o K' σ':=by
 have hk0: ∀u,K (σ.put o.dst u)→K' (σ'.put o.dst u):=fun u hu=>by
  have:=hk σ.bl u hu
  rw[←hbl] at this
  exact this
 unfold T at h ⊢
 cases ho:o.op<;>rw[ho] at h hev<;>simp only[Op.operands] at h hev ⊢ <;>try exact h.elim
 case move x=>rw[hev x (by simp)];exact hk0 _ h
 case assign x=>rw[hev x (by simp)];exact hk0 _ h
 case pick c x y=>
  obtain⟨q,hq,hK⟩:=kK h
  rw[hev c (by simp),hev x (by simp),hev y (by simp),hq];exact hk0 _ hK
 case alloc t=>obtain⟨cs,h1,h2⟩:=h;exact⟨cs,h1,fun g h0 hg=>by rw[hbl] at hg ⊢;exact hk _ _ (h2 g h0 hg)⟩
 case box t x=>rw[hev x (by simp)];exact⟨h.1,fun g h0 hg=>by rw[hbl] at hg ⊢;exact hk _ _ (h.2 g h0 hg)⟩
 case build t ps=>
  obtain⟨cs,h1,h2,r,h3,h4⟩:=h
  have:(ps.toList.map fun p=>(p.1,σ'.ev p.2))=ps.toList.map fun p=>(p.1,σ.ev p.2):=List.map_congr_left fun p hp=>by rw[hev p.2 (by simp;exact⟨p.1,by simpa using hp⟩)]
  rw[this]
  exact⟨cs,h1,h2,r,h3,hk0 _ h4⟩
 case buildSlice t n ps=>
  obtain⟨e,h1,cs,h2,h3,h4,r,h5,h6⟩:=h
  have:(ps.toList.map fun p=>(p.1,σ'.ev p.2))=ps.toList.map fun p=>(p.1,σ.ev p.2):=List.map_congr_left fun p hp=>by rw[hev p.2 (by simp;exact⟨p.1,by simpa using hp⟩)]
  rw[this]
  exact⟨e,h1,cs,h2,h3,h4,r,h5,fun g h0 hg=>by rw[hbl] at hg ⊢;exact hk _ _ (h6 g h0 hg)⟩
 case load t x=>obtain⟨cs,h1,v,h2,h3⟩:=h;rw[hev x (by simp),hbl];exact⟨cs,h1,v,h2,hk0 _ h3⟩
 case store t x y=>
  rw[hev x (by simp),hev y (by simp),hbl]
  split at h
  ·obtain⟨b,h1,e,h2,h3,h4,h5,h6,h7⟩:=h
   exact⟨b,h1,e,h2,h3,h4,h5,h6,hk _ _ h7⟩
  ·exact h.elim
 case nilCheck x=>obtain⟨v,h1,h2⟩:=h;rw[hev x (by simp)];exact⟨v,h1,hk0 _ h2⟩
 case binOp op t x y t'=>obtain⟨v,h1,h2⟩:=h;rw[hev x (by simp),hev y (by simp)];exact⟨v,h1,hk0 _ h2⟩
 case unOp u t x=>obtain⟨v,h1,h2⟩:=h;rw[hev x (by simp)];exact⟨v,h1,hk0 _ h2⟩
 case convert s d x=>obtain⟨v,h1,h2⟩:=h;rw[hev x (by simp),hbl];exact⟨v,h1,hk0 _ h2⟩
 case makeFunc f first cap=>
  cases f<;>simp only at h ⊢ <;>try exact h.elim
  have:cap.toList.map σ'.ev=cap.toList.map σ.ev:=List.map_congr_left fun x hx=>hev x (by simp at hx ⊢;exact .inr hx)
  rw[this]
  exact⟨h.1,hk0 _ h.2⟩
 case makeSlice t l c=>
  obtain⟨e,h1,cs,h2,n,h3,h4,h5,h6,h7⟩:=h
  rw[hev l (by simp),hev c (by simp)]
  exact⟨e,h1,cs,h2,n,h3,h4,h5,h6,fun g h0 hg=>by rw[hbl] at hg ⊢;exact hk _ _ (h7 g h0 hg)⟩
 case slice t x lo hi mx=>
  cases mx<;>simp only at h ⊢
  obtain⟨v,h1,h2⟩:=h
  have e1:lo.map σ'.ev=lo.map σ.ev:=by
   cases lo with
   | none => rfl
   | some l => simp only [Option.map_some]; rw [hev l (by simp)]
  have e2:hi.map σ'.ev=hi.map σ.ev:=by
   cases hi with
   | none => rfl
   | some l => simp only [Option.map_some]; rw [hev l (by cases lo <;> simp)]
  rw[hev x (by simp),e1,e2]
  exact⟨v,h1,hk0 _ h2⟩
 case fieldAddr t x i=>obtain⟨v,h1,h2⟩:=h;rw[hev x (by simp)];exact⟨v,h1,hk0 _ h2⟩
 case field t x i=>obtain⟨v,h1,h2⟩:=h;rw[hev x (by simp)];exact⟨v,h1,hk0 _ h2⟩
 case indexAddr t x i=>obtain⟨v,h1,h2⟩:=h;rw[hev x (by simp),hev i (by simp)];exact⟨v,h1,hk0 _ h2⟩
 case index t x i=>obtain⟨v,h1,h2⟩:=h;rw[hev x (by simp),hev i (by simp)];exact⟨v,h1,hk0 _ h2⟩
 case extract x i=>obtain⟨v,h1,h2⟩:=h;rw[hev x (by simp)];exact⟨v,h1,hk0 _ h2⟩
 case lookup t x i co=>obtain⟨v,h1,h2⟩:=h;rw[hev x (by simp),hev i (by simp)];exact⟨v,h1,hk0 _ h2⟩
 case call c=>
  obtain⟨cal,args,ats⟩:=c
  have Kw: ∀i,σ'.ev (args.getD i (.const undef))=σ.ev (args.getD i (.const undef)):=by
   intro i
   rcases Nat.lt_or_ge i args.size with hi | hi
   ·exact hev _ (by
     have sU:args.getD i (.const undef)∈args:=by simp[Array.getD_eq_getD_getElem?,hi]
     unfold Call.operands
     cases cal<;>simp only[Array.mem_append,Array.mem_push]<;>first | exact sU | exact .inr sU | exact .inl sU)
   ·have:args.getD i (.const undef)= .const undef:=by simp[Array.getD_eq_getD_getElem?,hi]
    rw[this];rfl
  cases cal with
  | value f =>
    simp only[Call.operands] at h hev ⊢
    obtain⟨p,h1,h2⟩:=h
    have e1:callV σ' f args.toList=callV σ f args.toList:=by
     unfold callV
     rw[hev f (by simp)]
     have:args.toList.map σ'.ev=args.toList.map σ.ev:=List.map_congr_left fun x hx=>hev x (by simp at hx ⊢;simp[hx])
     rw[this]
    rw[e1,hbl]
    exact⟨p,h1,h2.mono fun v b hb=>hk _ _ hb⟩
  | invoke r m => exact h.elim
  | builtin b =>
    cases b<;>simp only at h ⊢ <;>try exact h.elim
    case len=>obtain⟨v,h1,h2,h3,h4⟩:=h;rw[Kw 0];exact⟨v,h1,h2,h3,hk0 _ h4⟩
    case min=>obtain⟨v,h1,h2,h3⟩:=h;rw[Kw 0,Kw 1];exact⟨v,h1,h2,hk0 _ h3⟩
    case append=>
     obtain⟨p,h1,h2,h3,h4,h5⟩:=h
     rw[Kw 0,Kw 1,hbl]
     exact⟨p,h1,h2,h3,h4,fun g h0 hg=>hk _ _ (h5 g h0 hg)⟩
theorem Ga {σ:St} {d:Option Nat} {u:V} {x:Operand} (h: ∀t,d=some t→x≠ .tmp t):(σ.put d u).ev x=σ.ev x:=by
 cases d with
 | none => rfl
 | some d =>
   cases x with
   | tmp t=>
     show(if t<σ.n then upd σ.sl d u t else _)=if t<σ.n then σ.sl t else _
     rw[aL _ _ _ _ (fun e=>h d rfl (by rw[e]))]
   | _=>rfl
theorem put_comm (σ:St) (bl:Int→Option Blk) {d e:Option Nat} (u v:V) (h: ∀t,d=some t→e≠some t):(({ σ.put d u with bl:=bl } :St).put e v)=(({ σ with bl:=bl } :St).put e v).put d u:=by
 cases d with
 | none => rfl
 | some d =>
   cases e with
   | none=>rfl
   | some e=>
     have hne:d≠e:=fun hh=>h d rfl (by rw[hh])
     show({ n:=σ.n,sl:=upd (upd σ.sl d u) e v,bl:=bl } :St)= { n:=σ.n,sl:=upd (upd σ.sl e v) d u,bl:=bl }
     congr 1
     funext x
     simp only[aA]
     by_cases h1:x=e<;>by_cases h2:x=d<;>simp_all
theorem Kg {o:Oper} {d:Option Nat} (h: ∀t,d=some t→t∉o.looksAt ops): ∀x∈o.op.operands,∀t,d=some t→x≠ .tmp t:=fun x hx t ht he=>h t ht (by
 subst he
 exact List.mem_append_left _ (List.mem_filterMap.2 ⟨.tmp t,by simpa using hx,rfl⟩))
theorem aEC {o:Oper} {K:St→Prop} {σ:St} {d:Option Nat} {u:V} (hl: ∀t,d=some t→t∉o.looksAt ops) (hd: ∀t,d=some t→o.dst≠some t) (h:T P o K (σ.put d u)):T P o (fun σ'=>K (σ'.put d u)) σ:=by
 refine Pu h (fun x hx=>(Ga (Kg hl x hx)).symm) (by cases d<;>rfl) fun bl' v hk=> ?_
 rwa [put_comm _ _ _ _ hd] at hk
theorem SV.same {blK:Int→Option Blk} {o:Oper} {σ σ':St} {v:V} (h:SV P blK o σ v) (hev: ∀x∈o.op.operands,σ'.ev x=σ.ev x):SV P blK o σ' v:=by
 rcases h with ⟨hq,hT⟩| ⟨c,f,p,n,ys,ho,hc,hp,hro⟩
 ·refine .inl ⟨hq,Pu hT (fun x hx=>by rw[eN,eN];exact hev x hx) rfl fun bl' u hk=> ?_⟩
  cases hd:o.dst with
  | none =>
    rw[hd] at hk
    have h2:bl'=blK:=congrArg St.bl hk
    subst h2;rfl
  | some d =>
    rw[hd] at hk
    have h2:bl'=blK:=congrArg St.bl hk
    have h3:upd σ.sl d u=upd σ.sl d v:=congrArg St.sl hk
    have h4:u=v:=by have:=congrFun h3 d;rwa [bO,bO] at this
    subst h2 h4;rfl
 ·refine .inr ⟨c,f,p,n,ys,ho,hc,?_,hro⟩
  rw[ho] at hev
  obtain⟨cal,args,ats⟩:=c
  simp only at hc
  subst hc
  simp only[Op.operands,Call.operands] at hev
  unfold callV at hp ⊢
  rw[hev f (by simp)]
  have:args.toList.map σ'.ev=args.toList.map σ.ev:=List.map_congr_left fun x hx=>hev x (by simp at hx ⊢;simp[hx])
  simp only at hp ⊢
  rw[this];exact hp
def D1 (P:Program) (ops:Array Oper) (i:Nat) (K:St→Prop) (σ:St):Prop:=match ops[i]? with
 | none => K σ
 | some o => match o.guard with
   | none=>T P o K σ
   | some (j,b)=>match (ops[j]?).bind (·.dst) with
     | some d=>onG (σ.ev (.tmp d)) (K (σ.put o.dst (.tup []))) fun q=>(q=b→T P o K σ)∧(q=(!b)→K (σ.put o.dst (.tup [])))
     | none=>False
def iM (P:Program) (ops:Array Oper) (blK:Int→Option Blk) (tl:Nat→Bool) (K:St→Prop):Nat→Array Bool→St→Prop
 | 0, l, σ => Region.ready .any ops l = [] ∧ K σ
 | fuel + 1, l, σ => (Region.ready .any ops l = [] → K σ) ∧ ∀ i ∈ Region.ready .any ops l, D1 P ops i (fun σ' => (tl i = false → Sub blK σ'.bl) ∧ iM P ops blK tl K fuel (l.setIfInBounds i true) σ') σ
theorem F3 {i:Nat} {K K':St→Prop} {σ:St} (h:D1 P ops i K σ) (hk: ∀σ,K σ→K' σ):D1 P ops i K' σ:=by
 unfold D1 at h ⊢
 split
 ·rename_i ho;simp only[ho] at h;exact hk _ h
 ·rename_i o ho
  simp only[ho] at h
  split
  ·rename_i hg;simp only[hg] at h;exact gW h hk
  ·rename_i j b hg
   simp only[hg] at h
   split
   ·rename_i d hd
    simp only[hd] at h
    rcases fR h with ⟨q,hq,h1,h2⟩| ⟨hq,h1⟩
    ·rw[hq]
     exact⟨fun hh=>gW (h1 hh) hk,fun hh=>hk _ (h2 hh)⟩
    ·rw[hq]
     exact hk _ h1
   ·rename_i hd;simp only[hd] at h
theorem X9 {j:Nat} {d:Tmp} {q:Bool} {σ:St} (h1:(ops[j]?).bind (·.dst)=some d) (hs:Sim w0 M F σ a w) (hq:σ.ev (.tmp d)= .bool q):yielded ops a.tmps j=some q:=by
 have hdn:d<σ.n:=by
  rcases Nat.lt_or_ge d σ.n with h | h
  ·exact h
  ·simp only[St.ev] at hq;rw[if_neg (Nat.not_lt.2 h)] at hq;cases hq
 have hv:a.tmps.getD d undef= .bool q:=xH (hs.ev (.tmp d)) hq
 have h2:a.tmps[d]? =some (.bool q):=by
  have hlt:d<a.tmps.size:=by rw[hs.size];exact hdn
  rw[Array.getElem?_eq_getElem hlt]
  simpa [hlt] using hv
 unfold yielded
 rw[h1]
 simp only[Option.bind_some,h2]
theorem M3 {i:Nat} {K:St→Prop} {σ:St} {Q:Exit→Act→World→Prop} {K':Act→World→Prop} (hT:D1 P ops i K σ) (hs:Sim w0 M F σ a w)
  (hK: ∀σ' F' a' w',(∀b,F b→F' b)→Sim w0 M F' σ' a' w'→K σ'→K' a' w'):wpOp P ops Q i K' a w:=by
 unfold D1 at hT
 unfold wpOp
 split
 ·rename_i ho;simp only[ho] at hT;exact hK σ F a w (fun _ h=>h) hs hT
 ·rename_i o ho
  simp only[ho] at hT
  have next:T P o K σ→o.wp P a w K' Q:=fun hT=>
   Oper.wp_mono (fun a' w' hn=>by
    obtain⟨σ',F',hF',hs',hk⟩:=hn
    exact hK σ' F' a' w' hF' hs' hk) (A6 hT hs)
  split at hT
  ·rename_i hg
   rw[if_pos (by simp[Region.wanted,hg])]
   exact .inl (next hT)
  ·rename_i j b hg
   split at hT
   ·rename_i d hd
    rcases fR hT with ⟨q,hq,h1,h2⟩| ⟨hq,h1⟩
    rotate_left
    ·have hd':(ops.toList.map (·.dst))[j]? =some (some d):=by
      rw[List.getElem?_map,Array.getElem?_toList]
      rcases h:ops[j]? with _ | o
      ·rw[h] at hd;cases hd
      ·rw[h] at hd;simpa using hd
     rw[if_neg (by simp[Region.wanted,hg,lP hd' hs hq])]
     exact hK _ F _ w (fun _ h=>h) (hs.put kJ) h1
    have hy:=X9 hd hs hq
    by_cases hqb:q=b
    ·rw[if_pos (by simp[Region.wanted,hg,hy,hqb])]
     exact .inl (next (h1 hqb))
    ·rw[if_neg (by simp[Region.wanted,hg,hy,hqb])]
     have Q6:q= !b:=by cases q<;>cases b<;>simp_all
     exact hK _ F _ w (fun _ h=>h) (hs.put kJ) (h2 Q6)
   ·exact hT.elim
theorem wZ {blK:Int→Option Blk} {tl:Nat→Bool} {K:St→Prop} {Q:Exit→Act→World→Prop} {F0:Nat→Prop} (hQ: ∀σ F a w,(∀b,F0 b→F b)→Sim w0 M F σ a w→K σ→Q .normal a w):
  ∀(fuel:Nat) (l:Array Bool) (σ:St) (F:Nat→Prop) (a:Act) (w:World),(∀b,F0 b→F b)→iM P ops blK tl K fuel l σ→Sim w0 M F σ a w→wpAny P .any ops Q fuel l a w
 | 0, l, σ, F, a, w, hF, h, hs => ⟨h.1, hQ σ F a w hF hs h.2⟩
 | fuel + 1, l, σ, F, a, w, hF, h, hs => ⟨fun h0 => hQ σ F a w hF hs (h.1 h0), fun i hi => M3 (h.2 i hi) hs fun σ' F' a' w' hF' hs' hk => wZ hQ fuel _ σ' F' a' w' (fun b hb => hF' b (hF b hb)) hk.2 hs'⟩
theorem Z5 {id:Nat} {K:Ex→St→Prop} {σ:St} (hm:P.follows .mixedOrders=true) (blK:Int→Option Blk) {tl:Nat→Bool} (h:iM P ops blK tl (K .normal) ops.size (Array.replicate ops.size false) σ):AW P (.region id ops true) K σ:=by
 intro w0 M F a w hs
 refine wp_region_any hm (wZ (F0:=F) (w0:=w0) (M:=M) (fun σ' F' a' w' hF' hs' hK=>⟨.normal,σ',F',rfl,hF',hs',hK⟩) _ _ σ F a _ (fun _ h=>h) h ?_)
 have hsh:dM w { w with drawn:=w.drawn+1 } :=fun b c t f hc=>⟨c,f,hc,rfl⟩
 refine⟨⟨hs.mem.os,hs.mem.tape,hs.mem.output,hs.mem.size,hs.mem.frame,hs.mem.gP,hs.mem.fr,hs.mem.fin,hs.mem.own,fun g b hb=> ?_⟩,hs.size,fun t ht=> ?_,hs.defers⟩
 ·have hh: ∀b,F b→({ w with drawn:=w.drawn+1 } :World).heap[b]? =w.heap[b]? :=fun _ _=>rfl
  have hg:0≤g→({ w with drawn:=w.drawn+1 } :World).heap[g.toNat]? =w.heap[g.toNat]? :=fun _=>rfl
  refine cA.mono (fun _ h=>h) (fun h0 hFg=> ?_) hh hsh hg (hs.mem.blk g b hb)
  have:=hs.mem.blk g b hb
  unfold cA at this
  rw[if_neg (by omega)] at this
  exact this.1 hFg
 ·have hh: ∀b,F b→({ w with drawn:=w.drawn+1 } :World).heap[b]? =w.heap[b]? :=fun _ _=>rfl
  exact Rep.mono (fun _ h=>h) hh hsh (hs.sl t ht)
def DY (P:Program) (ops:Array Oper) (blK:Int→Option Blk) (o:Oper) (σ:St) (v:V):Prop:=match o.guard with
 | none => SV P blK o σ v
 | some (j, b) => match (ops[j]?).bind (·.dst) with
   | some d=>onG (σ.ev (.tmp d)) (v= .tup []) fun q=>(q=b→SV P blK o σ v)∧(q=(!b)→v= .tup [])
   | none=>False
theorem DY.step {blK:Int→Option Blk} {i:Nat} {o:Oper} {σ:St} {v:V} {K:St→Prop} (hi:ops[i]? =some o) (h:DY P ops blK o σ v) (hs:Sub blK σ.bl) (hK:K (σ.put o.dst v)):D1 P ops i K σ:=by
 unfold DY at h
 unfold Vm.D1
 simp only[hi]
 split
 ·rename_i hg;simp only[hg] at h;exact h.T hs hK
 ·rename_i j b hg
  simp only[hg] at h
  split
  ·rename_i d hd
   simp only[hd] at h
   rcases fR h with ⟨q,hq,h1,h2⟩| ⟨hq,h1⟩
   ·rw[hq]
    exact⟨fun hh=>(h1 hh).T hs hK,fun hh=>by rw[←h2 hh];exact hK⟩
   ·rw[hq]
    show K _
    rw[←h1];exact hK
  ·rename_i hd;simp only[hd] at h
theorem DY.same {blK:Int→Option Blk} {o:Oper} {σ σ':St} {v:V} (h:DY P ops blK o σ v) (hs: ∀t∈o.looksAt ops,σ'.ev (.tmp t)=σ.ev (.tmp t)):DY P ops blK o σ' v:=by
 have hev: ∀x∈o.op.operands,σ'.ev x=σ.ev x:=by
  intro x hx
  cases x with
  | tmp t => exact hs t (List.mem_append_left _ (List.mem_filterMap.2 ⟨.tmp t, by simpa using hx, rfl⟩))
  | _ => rfl
 unfold DY at h ⊢
 split
 ·rename_i hg;simp only[hg] at h;exact h.same hev
 ·rename_i j b hg
  simp only[hg] at h
  split
  ·rename_i d hd
   simp only[hd] at h
   rw[hs d (List.mem_append_right _ (by simp[hg,hd]))]
   rcases fR h with ⟨q,hq,h1,h2⟩| ⟨hq,h1⟩
   ·rw[hq]
    exact⟨fun hh=>(h1 hh).same hev,h2⟩
   ·rw[hq]
    exact h1
  ·rename_i hd;simp only[hd] at h
theorem DY.put {blK:Int→Option Blk} {j:Nat} {oi oj:Oper} {σ:St} {v:V} {K:St→Prop} (hj:ops[j]? =some oj) (hap:oi.apart ops oj=true) (hy:DY P ops blK oi σ v) (h:D1 P ops j K (σ.put oi.dst v)):
  D1 P ops j (fun σ'=>DY P ops blK oi σ' v∧K (σ'.put oi.dst v)) σ:=by
 obtain⟨h1,h2,h3⟩:=Oper.apart_spec hap
 have gL: ∀(σ':St),σ'.n=σ.n→(∀t,oj.dst≠some t→σ'.sl t=σ.sl t)→DY P ops blK oi σ' v:=fun σ' hn hsl=>hy.same fun t ht=>by
  show(if t<σ'.n then σ'.sl t else _)=if t<σ.n then σ.sl t else _
  rw[hn,hsl t (fun e=>h3 t e ht)]
 have hT:T P oj K (σ.put oi.dst v)→T P oj (fun σ'=>DY P ops blK oi σ' v∧K (σ'.put oi.dst v)) σ:=fun hh=>
  gW (B3 (aEC h1 (fun t ht=>h2 t ht) hh)) fun σ' ⟨k1,k2,k3⟩=>⟨gL σ' k2 k3,k1⟩
 have hJ:K ((σ.put oi.dst v).put oj.dst (.tup []))→DY P ops blK oi (σ.put oj.dst (.tup [])) v∧K ((σ.put oj.dst (.tup [])).put oi.dst v):=fun hh=>by
  refine⟨gL _ (by cases oj.dst<;>rfl) (fun t ht=> ?_),?_⟩
  ·cases hd:oj.dst with
   | none => rfl
   | some e => exact aL _ _ _ _ (fun hte => ht (by rw [hd, hte]))
  ·have hp:=put_comm σ σ.bl v (.tup []) h2
   have e1:({ σ.put oi.dst v with bl:=σ.bl } :St)=σ.put oi.dst v:=by cases oi.dst<;>rfl
   rw[e1] at hp
   rwa [hp] at hh
 unfold Vm.D1 at h ⊢
 simp only[hj] at h ⊢
 split
 ·rename_i hg;simp only[hg] at h;exact hT h
 ·rename_i i b hg
  simp only[hg] at h
  split
  ·rename_i d hd
   simp only[hd] at h
   have dU:(σ.put oi.dst v).ev (.tmp d)=σ.ev (.tmp d):=Ga fun t ht he=>h1 t ht (by
    cases he
    exact List.mem_append_right _ (by simp[hg,hd]))
   rw[dU] at h
   rcases fR h with ⟨q,hq,k1,k2⟩| ⟨hq,k1⟩
   ·rw[hq]
    exact⟨fun hh=>hT (k1 hh),fun hh=>hJ (k2 hh)⟩
   ·rw[hq]
    exact hJ k1
  ·rename_i hd;simp only[hd] at h
theorem Q3 {blK:Int→Option Blk} {tl:Nat→Bool} {K:St→Prop} {i:Nat} {oi:Oper} {v:V} (hi:ops[i]? =some oi) (hT: ∀j oj,tl j=true→ops[j]? =some oj→ ∃e∈oj.after,Region.binds .any e=true∧e.on=i): ∀(fuel:Nat) (l:Array Bool) (σ:St),
  (∀j oj,ops[j]? =some oj→j≠i→l.getD j true=false→(∀e∈oj.after,Region.binds .any e=true→e.on≠i)→oi.apart ops oj=true)→
  i∈Region.ready .any ops l→Sub blK σ.bl→DY P ops blK oi σ v→iM P ops blK tl K fuel (l.setIfInBounds i true) (σ.put oi.dst v)→iM P ops blK tl K (fuel+1) l σ:=by
 have hbl: ∀(σ:St),(σ.put oi.dst v).bl=σ.bl:=fun σ=>by cases oi.dst<;>rfl
 intro fuel
 induction fuel with
 | zero =>
   intro l σ _ hr hs hy H
   refine⟨fun h=>(by rw[h] at hr;cases hr),fun j hj=> ?_⟩
   by_cases hji:j=i
   ·subst hji;exact hy.step hi hs ⟨fun _=>by rw[hbl];exact hs,H⟩
   ·have:=ready_mono hj hji
    rw[H.1] at this
    cases this
 | succ fuel ih =>
   intro l σ tC hr hs hy H
   refine⟨fun h=>(by rw[h] at hr;cases hr),fun j hj=> ?_⟩
   by_cases hji:j=i
   ·subst hji;exact hy.step hi hs ⟨fun _=>by rw[hbl];exact hs,H⟩
   ·have h1:=H.2 j (ready_mono hj hji)
    obtain⟨D9,oj,hoj,cO⟩:=mem_ready.1 hj
    have Q2: ∀e∈oj.after,Region.binds .any e=true→e.on≠i:=fun e he hb heq=>by
     have h1:=cO e he hb
     have h0:=(mem_ready.1 hr).1
     rw[heq] at h1
     rcases Nat.lt_or_ge i l.size with h' | h'
     ·simp[h'] at h0 h1;rw[h0] at h1;cases h1
     ·simp[Array.getElem?_eq_none h'] at h1
    have h2:=DY.put hoj (tC j oj hoj hji D9 Q2) hy h1
    have vH: ∀k ok,ops[k]? =some ok→k≠i→(l.setIfInBounds j true).getD k true=false→
      (∀e∈ok.after,Region.binds .any e=true→e.on≠i)→oi.apart ops ok=true:=fun k ok hk hki hun hno=>by
     refine tC k ok hk hki ?_ hno
     by_cases hjk:j=k
     ·subst hjk;exact D9
     ·rw[getD_set_ne true hjk] at hun;exact hun
    refine F3 h2 fun σ' ⟨h3,h4,h5⟩=> ?_
    have htj:tl j=false:=by
     cases htl:tl j with
     | false => rfl
     | true =>
       obtain⟨e,he,hb,hon⟩:=hT j oj htl hoj
       exact absurd hon (Q2 e he hb)
    have h4:=h4 htj
    rw[hbl] at h4
    refine⟨fun _=>h4,ih (l.setIfInBounds j true) σ' vH (ready_mono hr (Ne.symm hji)) h4 h3 ?_⟩
    rw[Array.setIfInBounds_comm _ _ hji]
    exact h5
def Hoist (P:Program) (ops:Array Oper) (blK:Int→Option Blk):List Nat→(St→Prop)→St→Prop
 | [], K, σ => K σ
 | i :: is, K, σ => match ops[i]? with
   | some o=> ∃v,DY P ops blK o σ v∧Hoist P ops blK is K (σ.put o.dst v)
   | none=>False
def hoistB (ops:Array Oper):List Nat→Array Bool→Bool
 | [], _ => true
 | k :: ks, l => (Region.ready .any ops l).contains k && Region.free .any ops l k && hoistB ops ks (l.setIfInBounds k true)
def gA :List Nat→Array Bool→Array Bool
 | [], l => l
 | k :: ks, l => gA ks (l.setIfInBounds k true)
def yO (ops:Array Oper) (tl:Nat→Bool) (is:List Nat):Bool:=(List.range ops.size).all fun j=> !tl j || match ops[j]? with | none=>true | some o=>is.all fun i=>o.after.any fun e=>Region.binds .any e && e.on==i
theorem jC {tl:Nat→Bool} {is:List Nat} (h:yO ops tl is=true) (i:Nat) (hi:i∈is): ∀j oj,tl j=true→ops[j]? =some oj→ ∃e∈oj.after,Region.binds .any e=true∧e.on=i:=by
 intro j oj ht ho
 have hj:=(Array.getElem?_eq_some_iff.1 ho).1
 have h1:=List.all_eq_true.1 h j (List.mem_range.2 hj)
 simp only[ht,Bool.not_true,Bool.false_or,ho] at h1
 have h2:=List.all_eq_true.1 h1 i hi
 obtain⟨e,he,h3⟩:=Array.any_eq_true'.1 h2
 simp only[Bool.and_eq_true,beq_iff_eq] at h3
 exact⟨e,he,h3.1,h3.2⟩
theorem lM {blK:Int→Option Blk} {tl:Nat→Bool} {K:St→Prop} (fuel:Nat): ∀(is:List Nat) (l:Array Bool) (σ:St),(∀i,i∈is→ ∀j oj,tl j=true→ops[j]? =some oj→ ∃e∈oj.after,Region.binds .any e=true∧e.on=i)→hoistB ops is l=true→Sub blK σ.bl→
  Hoist P ops blK is (iM P ops blK tl K fuel (gA is l)) σ→iM P ops blK tl K (fuel+is.length) l σ
 | [], l, σ, _, _, _, h => h
 | i :: is, l, σ, hT, hB, hs, h => by
   simp only[hoistB,Bool.and_eq_true] at hB
   obtain⟨⟨hr,hf⟩,hB'⟩:=hB
   unfold Hoist at h
   split at h
   ·rename_i o ho
    obtain⟨v,hy,hK⟩:=h
    have:fuel+(i::is).length=(fuel+is.length)+1:=by simp;omega
    rw[this]
    refine Q3 ho (hT i List.mem_cons_self) _ _ _ (Region.free_spec ho hf) (by simpa using hr) hs hy (lM fuel is _ _ (fun i hi=>hT i (List.mem_cons_of_mem _ hi)) hB' ?_ hK)
    cases o.dst<;>exact hs
   ·exact h.elim
theorem yG {id:Nat} {K:Ex→St→Prop} {σ:St} (hm:P.follows .mixedOrders=true) (hB:hoistB ops (List.range ops.size) (Array.replicate ops.size false)=true)
  (hE:Region.ready .any ops (gA (List.range ops.size) (Array.replicate ops.size false))= [])
  (h:Hoist P ops σ.bl (List.range ops.size) (K .normal) σ):AW P (.region id ops true) K σ:=by
 refine Z5 hm σ.bl (tl:=fun _=>false) ?_
 have:=lM (P:=P) (ops:=ops) (blK:=σ.bl) (tl:=fun _=>false) (K:=K .normal) 0 (List.range ops.size) (Array.replicate ops.size false) σ (fun _ _ _ _ h=>by cases h) hB (Sub.refl _)
 rw[List.length_range,Nat.zero_add] at this
 refine this ?_
 have hm: ∀(is:List Nat) (σ':St),Hoist P ops σ.bl is (K .normal) σ'→Hoist P ops σ.bl is (iM P ops σ.bl (fun _=>false) (K .normal) 0 (gA (List.range ops.size) (Array.replicate ops.size false))) σ':=by
  intro is
  induction is with
  | nil => intro σ' h; exact ⟨hE, h⟩
  | cons i is ih =>
    intro σ' h
    unfold Hoist at h ⊢
    split
    ·rename_i o ho;simp only[ho] at h;obtain⟨v,h1,h2⟩:=h;exact⟨v,h1,ih _ h2⟩
    ·rename_i ho;simp only[ho] at h
 exact hm _ _ h
theorem iH {id:Nat} {K:Ex→St→Prop} {σ:St} (hm:P.follows .mixedOrders=true) (is:List Nat) (fuel:Nat) (blK:Int→Option Blk) (hs:Sub blK σ.bl) (hn:ops.size=fuel+is.length)
  (hB:hoistB ops is (Array.replicate ops.size false)=true) {tl:Nat→Bool} (hT: ∀i,i∈is→ ∀j oj,tl j=true→ops[j]? =some oj→ ∃e∈oj.after,Region.binds .any e=true∧e.on=i)
  (h:Hoist P ops blK is (iM P ops blK tl (K .normal) fuel (gA is (Array.replicate ops.size false))) σ):AW P (.region id ops true) K σ:=by
 refine Z5 hm blK (tl:=tl) ?_
 have:=lM (P:=P) (ops:=ops) (blK:=blK) (tl:=tl) (K:=K .normal) fuel is (Array.replicate ops.size false) σ hT hB hs h
 rw[←hn] at this
 exact this
end
end Go.Proofs.YticmgmemnpcbbaaGreat.Vm

namespace Go.Proofs.YticmgmemnpcbbaaGreat.Vm
open Go Go.Proofs
@[simp] theorem aI5 : csz Tryz.prog 2 = some 1 := by kernel_rfl
@[simp] theorem aIJ : bsz Tryz.prog 2 = 8 := by kernel_rfl
@[simp] theorem aJ2 : aggT Tryz.prog 2 = some false := by kernel_rfl
@[simp] theorem aFP : zeroC Tryz.prog 2 = some [.int .i64 0] := by kernel_rfl
@[simp] theorem aH9 : isInt Tryz.prog 2 = some .i64 := by kernel_rfl
@[simp] theorem aJW : csz Tryz.prog 3 = some 1 := by kernel_rfl
@[simp] theorem aJI : bsz Tryz.prog 3 = 8 := by kernel_rfl
@[simp] theorem aJL : aggT Tryz.prog 3 = some false := by kernel_rfl
@[simp] theorem aBG : zeroC Tryz.prog 3 = some [.int .i64 0] := by kernel_rfl
@[simp] theorem aI0 : isInt Tryz.prog 3 = some .i64 := by kernel_rfl
@[simp] theorem aHT : csz Tryz.prog 4 = some 1 := by kernel_rfl
@[simp] theorem aJ3 : bsz Tryz.prog 4 = 1 := by kernel_rfl
@[simp] theorem aHO : aggT Tryz.prog 4 = some false := by kernel_rfl
@[simp] theorem aFH : zeroC Tryz.prog 4 = some [.bool false] := by kernel_rfl
@[simp] theorem aIT : csz Tryz.prog 5 = some 1 := by kernel_rfl
@[simp] theorem aJN : bsz Tryz.prog 5 = 1 := by kernel_rfl
@[simp] theorem aHQ : aggT Tryz.prog 5 = some false := by kernel_rfl
@[simp] theorem aC6 : zeroC Tryz.prog 5 = some [.int .u8 0] := by kernel_rfl
@[simp] theorem aJY : isInt Tryz.prog 5 = some .u8 := by kernel_rfl
@[simp] theorem aIR : csz Tryz.prog 6 = some 1 := by kernel_rfl
@[simp] theorem aH2 : bsz Tryz.prog 6 = 1 := by kernel_rfl
@[simp] theorem aIF : aggT Tryz.prog 6 = some false := by kernel_rfl
@[simp] theorem aBL : zeroC Tryz.prog 6 = some [.int .u8 0] := by kernel_rfl
@[simp] theorem aJG : isInt Tryz.prog 6 = some .u8 := by kernel_rfl
@[simp] theorem aHS : csz Tryz.prog 9 = some 1 := by kernel_rfl
@[simp] theorem aHW : bsz Tryz.prog 9 = 16 := by kernel_rfl
@[simp] theorem aJP : aggT Tryz.prog 9 = some false := by kernel_rfl
@[simp] theorem aB5 : zeroC Tryz.prog 9 = some [.str ⟨#[]⟩] := by kernel_rfl
@[simp] theorem aH6 : isStr Tryz.prog 9 = true := by kernel_rfl
@[simp] theorem aDN : csz Tryz.prog 22 = some 1 := by kernel_rfl
@[simp] theorem aEE : bsz Tryz.prog 22 = 24 := by kernel_rfl
@[simp] theorem aGO : aggT Tryz.prog 22 = some false := by kernel_rfl
@[simp] theorem Yu : zeroC Tryz.prog 22 = some [.nils] := by kernel_rfl
@[simp] theorem aJT : slE Tryz.prog 22 = some 5 := by kernel_rfl
@[simp] theorem aFX : csz Tryz.prog 23 = some 1 := by kernel_rfl
@[simp] theorem aEW : bsz Tryz.prog 23 = 24 := by kernel_rfl
@[simp] theorem aDX : aggT Tryz.prog 23 = some false := by kernel_rfl
@[simp] theorem aAJ : zeroC Tryz.prog 23 = some [.nils] := by kernel_rfl
@[simp] theorem aJU : slE Tryz.prog 23 = some 48 := by kernel_rfl
@[simp] theorem aF3 : csz Tryz.prog 24 = some 1 := by kernel_rfl
@[simp] theorem aFY : bsz Tryz.prog 24 = 24 := by kernel_rfl
@[simp] theorem aCY : aggT Tryz.prog 24 = some false := by kernel_rfl
@[simp] theorem Zt : zeroC Tryz.prog 24 = some [.nils] := by kernel_rfl
@[simp] theorem aHP : slE Tryz.prog 24 = some 106 := by kernel_rfl
@[simp] theorem aEY : csz Tryz.prog 26 = some 2 := by kernel_rfl
@[simp] theorem aFU : bsz Tryz.prog 26 = 48 := by kernel_rfl
@[simp] theorem aDK : aggT Tryz.prog 26 = some true := by kernel_rfl
@[simp] theorem aAK : zeroC Tryz.prog 26 = some [.nils, .nils] := by kernel_rfl
@[simp] theorem aIS : fPl Tryz.prog 26 0 = some (0, 1) := by kernel_rfl
@[simp] theorem aH1 : fTy Tryz.prog 26 0 = some 23 := by kernel_rfl
@[simp] theorem aIQ : fPl Tryz.prog 26 1 = some (1, 1) := by kernel_rfl
@[simp] theorem aI9 : fTy Tryz.prog 26 1 = some 24 := by kernel_rfl
@[simp] theorem aHX : okF Tryz.prog 26 = true := by kernel_rfl
@[simp] theorem aC2 : csz Tryz.prog 27 = some 1 := by kernel_rfl
@[simp] theorem aF8 : bsz Tryz.prog 27 = 24 := by kernel_rfl
@[simp] theorem aET : aggT Tryz.prog 27 = some false := by kernel_rfl
@[simp] theorem Xe : zeroC Tryz.prog 27 = some [.nils] := by kernel_rfl
@[simp] theorem aJB : slE Tryz.prog 27 = some 3 := by kernel_rfl
@[simp] theorem aFR : csz Tryz.prog 30 = some 1 := by kernel_rfl
@[simp] theorem aBI : bsz Tryz.prog 30 = 24 := by kernel_rfl
@[simp] theorem aBZ : aggT Tryz.prog 30 = some false := by kernel_rfl
@[simp] theorem Yl : zeroC Tryz.prog 30 = some [.nils] := by kernel_rfl
@[simp] theorem aJE : slE Tryz.prog 30 = some 42 := by kernel_rfl
@[simp] theorem aCA : csz Tryz.prog 40 = some 2 := by kernel_rfl
@[simp] theorem aB0 : bsz Tryz.prog 40 = 32 := by kernel_rfl
@[simp] theorem aA4 : aggT Tryz.prog 40 = some true := by kernel_rfl
@[simp] theorem Zj : zeroC Tryz.prog 40 = some [.bool false, .nils] := by kernel_rfl
@[simp] theorem aH4 : fPl Tryz.prog 40 0 = some (0, 1) := by kernel_rfl
@[simp] theorem aJR : fTy Tryz.prog 40 0 = some 4 := by kernel_rfl
@[simp] theorem aIC : fPl Tryz.prog 40 1 = some (1, 1) := by kernel_rfl
@[simp] theorem aHL : fTy Tryz.prog 40 1 = some 27 := by kernel_rfl
@[simp] theorem aHY : okF Tryz.prog 40 = true := by kernel_rfl
@[simp] theorem aE8 : csz Tryz.prog 42 = some 3 := by kernel_rfl
@[simp] theorem aB9 : bsz Tryz.prog 42 = 56 := by kernel_rfl
@[simp] theorem aGI : aggT Tryz.prog 42 = some true := by kernel_rfl
@[simp] theorem Yo : zeroC Tryz.prog 42 = some [.bool false, .nils, .nils] := by kernel_rfl
@[simp] theorem aJ0 : fPl Tryz.prog 42 0 = some (0, 2) := by kernel_rfl
@[simp] theorem aH5 : fTy Tryz.prog 42 0 = some 40 := by kernel_rfl
@[simp] theorem aIL : fPl Tryz.prog 42 1 = some (2, 1) := by kernel_rfl
@[simp] theorem aJ6 : fTy Tryz.prog 42 1 = some 27 := by kernel_rfl
@[simp] theorem aIM : okF Tryz.prog 42 = true := by kernel_rfl
@[simp] theorem aBB : csz Tryz.prog 48 = some 4 := by kernel_rfl
@[simp] theorem aCW : bsz Tryz.prog 48 = 40 := by kernel_rfl
@[simp] theorem aBS : aggT Tryz.prog 48 = some true := by kernel_rfl
@[simp] theorem Xm : zeroC Tryz.prog 48 = some [.str ⟨#[]⟩, .int .i64 0, .int .i64 0, .bool false] := by kernel_rfl
@[simp] theorem aJC : fPl Tryz.prog 48 0 = some (0, 1) := by kernel_rfl
@[simp] theorem aIY : fTy Tryz.prog 48 0 = some 9 := by kernel_rfl
@[simp] theorem aII : fPl Tryz.prog 48 1 = some (1, 1) := by kernel_rfl
@[simp] theorem aI3 : fTy Tryz.prog 48 1 = some 3 := by kernel_rfl
@[simp] theorem aHU : fPl Tryz.prog 48 2 = some (2, 1) := by kernel_rfl
@[simp] theorem aIO : fTy Tryz.prog 48 2 = some 3 := by kernel_rfl
@[simp] theorem aIK : fPl Tryz.prog 48 3 = some (3, 1) := by kernel_rfl
@[simp] theorem aHV : fTy Tryz.prog 48 3 = some 4 := by kernel_rfl
@[simp] theorem aI6 : Jd Tryz.prog 48 = some [(0, 2), (1, 1), (2, 1), (3, 0)] := by kernel_rfl
@[simp] theorem aJO : okF Tryz.prog 48 = true := by kernel_rfl
@[simp] theorem aEH : csz Tryz.prog 59 = some 1 := by kernel_rfl
@[simp] theorem aA2 : bsz Tryz.prog 59 = 24 := by kernel_rfl
@[simp] theorem aFQ : aggT Tryz.prog 59 = some false := by kernel_rfl
@[simp] theorem Zh : zeroC Tryz.prog 59 = some [.nils] := by kernel_rfl
@[simp] theorem aJZ : slE Tryz.prog 59 = some 27 := by kernel_rfl
@[simp] theorem aDQ : csz Tryz.prog 90 = some 1 := by kernel_rfl
@[simp] theorem aC8 : bsz Tryz.prog 90 = 8 := by kernel_rfl
@[simp] theorem aEB : aggT Tryz.prog 90 = some false := by kernel_rfl
@[simp] theorem aAQ : zeroC Tryz.prog 90 = some [.nilp] := by kernel_rfl
@[simp] theorem aFL : isPtr Tryz.prog 90 = true := by kernel_rfl
@[simp] theorem aD7 : csz Tryz.prog 92 = some 1 := by kernel_rfl
@[simp] theorem aD2 : bsz Tryz.prog 92 = 24 := by kernel_rfl
@[simp] theorem aA7 : aggT Tryz.prog 92 = some false := by kernel_rfl
@[simp] theorem Xg : zeroC Tryz.prog 92 = some [.nils] := by kernel_rfl
@[simp] theorem aI8 : slE Tryz.prog 92 = some 107 := by kernel_rfl
@[simp] theorem aEJ : csz Tryz.prog 96 = some 5 := by kernel_rfl
@[simp] theorem aA3 : bsz Tryz.prog 96 = 88 := by kernel_rfl
@[simp] theorem aFT : aggT Tryz.prog 96 = some true := by kernel_rfl
@[simp] theorem Xb : zeroC Tryz.prog 96 = some [.int .i64 0, .int .i64 0, .nils, .nils, .nils] := by kernel_rfl
@[simp] theorem aJS : fPl Tryz.prog 96 0 = some (0, 1) := by kernel_rfl
@[simp] theorem aID : fTy Tryz.prog 96 0 = some 3 := by kernel_rfl
@[simp] theorem aH3 : fPl Tryz.prog 96 1 = some (1, 1) := by kernel_rfl
@[simp] theorem aJQ : fTy Tryz.prog 96 1 = some 3 := by kernel_rfl
@[simp] theorem aI1 : fPl Tryz.prog 96 2 = some (2, 1) := by kernel_rfl
@[simp] theorem aJ5 : fTy Tryz.prog 96 2 = some 27 := by kernel_rfl
@[simp] theorem aIA : fPl Tryz.prog 96 3 = some (3, 1) := by kernel_rfl
@[simp] theorem aJF : fTy Tryz.prog 96 3 = some 27 := by kernel_rfl
@[simp] theorem aIB : fPl Tryz.prog 96 4 = some (4, 1) := by kernel_rfl
@[simp] theorem aH7 : fTy Tryz.prog 96 4 = some 27 := by kernel_rfl
@[simp] theorem aJK : okF Tryz.prog 96 = true := by kernel_rfl
@[simp] theorem aAB : csz Tryz.prog 104 = some 1 := by kernel_rfl
@[simp] theorem Zd : bsz Tryz.prog 104 = 8 := by kernel_rfl
@[simp] theorem Zk : aggT Tryz.prog 104 = some false := by kernel_rfl
@[simp] theorem Su : zeroC Tryz.prog 104 = some [.nilp] := by kernel_rfl
@[simp] theorem Xf : isPtr Tryz.prog 104 = true := by kernel_rfl
@[simp] theorem Yz : csz Tryz.prog 106 = some 3 := by kernel_rfl
@[simp] theorem Yj : bsz Tryz.prog 106 = 24 := by kernel_rfl
@[simp] theorem aAU : aggT Tryz.prog 106 = some true := by kernel_rfl
@[simp] theorem Td : zeroC Tryz.prog 106 = some [.int .i64 0, .int .i64 0, .int .i64 0] := by kernel_rfl
@[simp] theorem aD9 : fPl Tryz.prog 106 0 = some (0, 1) := by kernel_rfl
@[simp] theorem aCN : fTy Tryz.prog 106 0 = some 3 := by kernel_rfl
@[simp] theorem aEO : fPl Tryz.prog 106 1 = some (1, 1) := by kernel_rfl
@[simp] theorem aBE : fTy Tryz.prog 106 1 = some 3 := by kernel_rfl
@[simp] theorem aG7 : fPl Tryz.prog 106 2 = some (2, 1) := by kernel_rfl
@[simp] theorem aB7 : fTy Tryz.prog 106 2 = some 3 := by kernel_rfl
@[simp] theorem aF0 : Jd Tryz.prog 106 = some [(0, 1), (1, 1), (2, 1)] := by kernel_rfl
@[simp] theorem aHJ : okF Tryz.prog 106 = true := by kernel_rfl
@[simp] theorem aAY : csz Tryz.prog 107 = some 1 := by kernel_rfl
@[simp] theorem aAL : bsz Tryz.prog 107 = 8 := by kernel_rfl
@[simp] theorem Za : aggT Tryz.prog 107 = some false := by kernel_rfl
@[simp] theorem Ux : zeroC Tryz.prog 107 = some [.nilp] := by kernel_rfl
@[simp] theorem Yb : isPtr Tryz.prog 107 = true := by kernel_rfl
@[simp] theorem Zz : csz Tryz.prog 148 = some 1 := by kernel_rfl
@[simp] theorem aAV : bsz Tryz.prog 148 = 8 := by kernel_rfl
@[simp] theorem Zq : aggT Tryz.prog 148 = some false := by kernel_rfl
@[simp] theorem Uj : zeroC Tryz.prog 148 = some [.nilp] := by kernel_rfl
@[simp] theorem Yp : isPtr Tryz.prog 148 = true := by kernel_rfl
@[simp] theorem Zm : csz Tryz.prog 151 = some 1 := by kernel_rfl
@[simp] theorem Zy : bsz Tryz.prog 151 = 8 := by kernel_rfl
@[simp] theorem Xw : aggT Tryz.prog 151 = some false := by kernel_rfl
@[simp] theorem Vx : zeroC Tryz.prog 151 = some [.nilp] := by kernel_rfl
@[simp] theorem Zc : isPtr Tryz.prog 151 = true := by kernel_rfl
@[simp] theorem Xa : csz Tryz.prog 164 = some 3 := by kernel_rfl
@[simp] theorem Yx : bsz Tryz.prog 164 = 40 := by kernel_rfl
@[simp] theorem Xj : aggT Tryz.prog 164 = some true := by kernel_rfl
@[simp] theorem Ri : zeroC Tryz.prog 164 = some [.nils, .int .i64 0, .int .i64 0] := by kernel_rfl
@[simp] theorem aCK : fPl Tryz.prog 164 0 = some (0, 1) := by kernel_rfl
@[simp] theorem aDY : fTy Tryz.prog 164 0 = some 22 := by kernel_rfl
@[simp] theorem aHC : fPl Tryz.prog 164 1 = some (1, 1) := by kernel_rfl
@[simp] theorem aBU : fTy Tryz.prog 164 1 = some 3 := by kernel_rfl
@[simp] theorem aE2 : fPl Tryz.prog 164 2 = some (2, 1) := by kernel_rfl
@[simp] theorem aEV : fTy Tryz.prog 164 2 = some 3 := by kernel_rfl
@[simp] theorem aE0 : okF Tryz.prog 164 = true := by kernel_rfl
@[simp] theorem Xu : csz Tryz.prog 167 = some 1 := by kernel_rfl
@[simp] theorem Zf : bsz Tryz.prog 167 = 24 := by kernel_rfl
@[simp] theorem aAS : aggT Tryz.prog 167 = some false := by kernel_rfl
@[simp] theorem Wx : zeroC Tryz.prog 167 = some [.nils] := by kernel_rfl
@[simp] theorem aDH : slE Tryz.prog 167 = some 172 := by kernel_rfl
@[simp] theorem aAC : csz Tryz.prog 172 = some 2 := by kernel_rfl
@[simp] theorem aAD : bsz Tryz.prog 172 = 16 := by kernel_rfl
@[simp] theorem Yr : aggT Tryz.prog 172 = some true := by kernel_rfl
@[simp] theorem Rj : zeroC Tryz.prog 172 = some [.int .i64 0, .int .i64 0] := by kernel_rfl
@[simp] theorem aGU : fPl Tryz.prog 172 0 = some (0, 1) := by kernel_rfl
@[simp] theorem aHK : fTy Tryz.prog 172 0 = some 3 := by kernel_rfl
@[simp] theorem aEP : fPl Tryz.prog 172 1 = some (1, 1) := by kernel_rfl
@[simp] theorem aCT : fTy Tryz.prog 172 1 = some 3 := by kernel_rfl
@[simp] theorem aEK : Jd Tryz.prog 172 = some [(0, 1), (1, 1)] := by kernel_rfl
@[simp] theorem aG6 : okF Tryz.prog 172 = true := by kernel_rfl
@[simp] theorem Xh : csz Tryz.prog 178 = some 3 := by kernel_rfl
@[simp] theorem Wz : bsz Tryz.prog 178 = 56 := by kernel_rfl
@[simp] theorem aAH : aggT Tryz.prog 178 = some true := by kernel_rfl
@[simp] theorem Vr : zeroC Tryz.prog 178 = some [.bool false, .nils, .nils] := by kernel_rfl
@[simp] theorem aG0 : fPl Tryz.prog 178 0 = some (0, 2) := by kernel_rfl
@[simp] theorem aG5 : fTy Tryz.prog 178 0 = some 40 := by kernel_rfl
@[simp] theorem aCB : fPl Tryz.prog 178 1 = some (2, 1) := by kernel_rfl
@[simp] theorem aGK : fTy Tryz.prog 178 1 = some 27 := by kernel_rfl
@[simp] theorem aD0 : okF Tryz.prog 178 = true := by kernel_rfl
@[simp] theorem Ya : csz Tryz.prog 222 = some 1 := by kernel_rfl
@[simp] theorem aAZ : bsz Tryz.prog 222 = 24 := by kernel_rfl
@[simp] theorem Xq : aggT Tryz.prog 222 = some false := by kernel_rfl
@[simp] theorem Vq : zeroC Tryz.prog 222 = some [.nils] := by kernel_rfl
@[simp] theorem aEM : slE Tryz.prog 222 = some 4 := by kernel_rfl
@[simp] theorem Yh : csz Tryz.prog 223 = some 1 := by kernel_rfl
@[simp] theorem Zi : bsz Tryz.prog 223 = 24 := by kernel_rfl
@[simp] theorem Yd : aggT Tryz.prog 223 = some false := by kernel_rfl
@[simp] theorem Ua : zeroC Tryz.prog 223 = some [.nils] := by kernel_rfl
@[simp] theorem aBT : slE Tryz.prog 223 = some 226 := by kernel_rfl
@[simp] theorem Ym : csz Tryz.prog 225 = some 6 := by kernel_rfl
@[simp] theorem Xc : bsz Tryz.prog 225 = 112 := by kernel_rfl
@[simp] theorem Zx : aggT Tryz.prog 225 = some true := by kernel_rfl
@[simp] theorem Ws : zeroC Tryz.prog 225 = some [.nils, .bool false, .nils, .nils, .int .i64 0, .nils] := by kernel_rfl
@[simp] theorem aC3 : fPl Tryz.prog 225 0 = some (0, 1) := by kernel_rfl
@[simp] theorem aCR : fTy Tryz.prog 225 0 = some 223 := by kernel_rfl
@[simp] theorem aDD : fPl Tryz.prog 225 1 = some (1, 2) := by kernel_rfl
@[simp] theorem aA5 : fTy Tryz.prog 225 1 = some 40 := by kernel_rfl
@[simp] theorem aGD : fPl Tryz.prog 225 2 = some (3, 1) := by kernel_rfl
@[simp] theorem aF1 : fTy Tryz.prog 225 2 = some 27 := by kernel_rfl
@[simp] theorem aHF : fPl Tryz.prog 225 3 = some (4, 1) := by kernel_rfl
@[simp] theorem aBA : fTy Tryz.prog 225 3 = some 3 := by kernel_rfl
@[simp] theorem aHB : fPl Tryz.prog 225 4 = some (5, 1) := by kernel_rfl
@[simp] theorem aGX : fTy Tryz.prog 225 4 = some 222 := by kernel_rfl
@[simp] theorem aF4 : okF Tryz.prog 225 = true := by kernel_rfl
@[simp] theorem Xx : csz Tryz.prog 226 = some 1 := by kernel_rfl
@[simp] theorem aAI : bsz Tryz.prog 226 = 24 := by kernel_rfl
@[simp] theorem Ye : aggT Tryz.prog 226 = some false := by kernel_rfl
@[simp] theorem Uv : zeroC Tryz.prog 226 = some [.nils] := by kernel_rfl
@[simp] theorem aA9 : slE Tryz.prog 226 = some 40 := by kernel_rfl
@[simp] theorem aAT : csz Tryz.prog 242 = some 1 := by kernel_rfl
@[simp] theorem aA0 : bsz Tryz.prog 242 = 8 := by kernel_rfl
@[simp] theorem aAN : aggT Tryz.prog 242 = some false := by kernel_rfl
@[simp] theorem Tu : zeroC Tryz.prog 242 = some [.int .u64 0] := by kernel_rfl
@[simp] theorem Yw : isInt Tryz.prog 242 = some .u64 := by kernel_rfl
end Go.Proofs.YticmgmemnpcbbaaGreat.Vm
