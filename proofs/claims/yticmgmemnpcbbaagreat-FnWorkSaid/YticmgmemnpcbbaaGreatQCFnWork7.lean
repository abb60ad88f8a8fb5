import Derived.Test.YticmgmemnpcbbaaGreatQCFnWork6

namespace Go.Proofs.YticmgmemnpcbbaaGreat.Lp
set_option linter.unusedSimpArgs false
set_option linter.unusedVariables false
structure Step (m b Q : Nat) (w : Nat → Nat → Rat) (F : Nat → Prop) (t : Tab) (r k : Nat) : Prop where
 hF:F k
 pos:fW Q fun q=>rc m (w q) t k
 first: ∀j,F j→j<k→ ¬ fW Q fun q=>rc m (w q) t j
 hr:r<m
 prk:0<t.X r k
 min: ∀i,i<m→0<t.X i k→t.X r b*t.X i k≤t.X i b*t.X r k
 tie: ∀i,i<m→0<t.X i k→t.X i b*t.X r k=t.X r b*t.X i k→t.bs r≤t.bs i
theorem eO (a b:Rat):a≤b∨b<a:=by grind
theorem Wu {a b:Rat} (ha:0≤a) (hb:0<b):0≤a / b:=by
 rcases eO 0 (a / b) with h | h
 ·exact h
 ·have h1:0<(- (a / b))*b:=Rat.mul_pos (by grind) hb
  have h2:a / b*b=a:=by grind
  grind
theorem Ps {a b:Rat} (ha:0<a) (hb:0<b):0<a / b:=by
 rcases eO (a / b) 0 with h | h
 ·have h1:0≤(- (a / b))*b:=Rat.mul_nonneg (by grind) (by grind)
  have h2:a / b*b=a:=by grind
  grind
 ·exact h
theorem Step.rhs {m b Q:Nat} {w:Nat→Nat→Rat} {F:Nat→Prop} {t:Tab} {r k:Nat} (h:Step m b Q w F t r k) (hb: ∀i,i<m→0≤t.X i b): ∀i,i<m→0≤(piv t r k).X i b:=by
 intro i hi
 have hr:=hb r h.hr
 have hth:=Wu hr h.prk
 by_cases e:i=r
 ·subst e;rw[qK];exact hth
 ·rw[lU t k b e]
  have hpk:=h.prk
  have h2:t.X r b / t.X r k*t.X r k=t.X r b:=by grind
  generalize t.X r b / t.X r k=θ at *
  by_cases hp:0<t.X i k
  ·have h1:=h.min i hi hp
   rw[←h2] at h1
   rcases eO 0 (t.X i b - t.X i k*θ) with h4 | h4
   ·exact h4
   ·have:=Rat.mul_pos (show 0< -(t.X i b - t.X i k*θ) by grind) hpk
    grind
  ·have h1:=hb i hi
   have h2:0≤(- t.X i k)*θ:=Rat.mul_nonneg (by grind) hth
   grind
theorem max_lt (f:Nat→Nat): ∀n,0<n→ ∃i,i<n∧ ∀j,j<n→f j≤f i
 | 1, _ => ⟨0, by omega, fun j hj => by rw [show j = 0 by omega]; exact Nat.le_refl _⟩
 | n + 2, _ => by
   obtain⟨i,h1,h2⟩:=max_lt f (n+1) (by omega)
   rcases Nat.lt_or_ge (f i) (f (n+1)) with h | h
   ·exact⟨n+1,by omega,fun j hj=>by
     by_cases e:j=n+1
     ·rw[e];exact Nat.le_refl _
     ·have:=h2 j (by omega);omega⟩
   ·exact⟨i,by omega,fun j hj=>by
     by_cases e:j=n+1
     ·rw[e];exact h
     ·exact h2 j (by omega)⟩
theorem Uf {P:Nat→Prop} {a c:Nat} (hac:a≤c) (ha:P a) (hc: ¬ P c): ∃n,a≤n∧n<c∧P n∧ ¬ P (n+1):=by
 induction c with
 | zero => exact absurd (by rw [show (0 : Nat) = a by omega]; exact ha) hc
 | succ c ih =>
   by_cases h:P c
   ·exact⟨c,by
     by_cases e:a=c+1
     ·exact absurd (e▸ha) hc
     ·omega,by omega,h,hc⟩
   ·have aMR:a≤c:=by
     by_cases e:a=c+1
     ·exact absurd (e▸ha) hc
     ·omega
    obtain⟨n,h1,h2,h3,h4⟩:=ih aMR h
    exact⟨n,h1,by omega,h3,h4⟩
section
variable {m b Q L : Nat} {E : Nat → Nat → Rat} {w : Nat → Nat → Rat} {F : Nat → Prop} {t : Nat → Tab} {r k : Nat → Nat}
theorem aDS (hT: ∀n,n≤L→TI m E (t n)) (hb: ∀n,n≤L→ ∀i,i<m→0≤(t n).X i b) (hs: ∀n,n<L→Step m b Q w F (t n) (r n) (k n)) (hn: ∀n,n<L→t (n+1)=piv (t n) (r n) (k n))
  (hL:0<L) (he: ∀i,i<m→(t 0).bs i=(t L).bs i):False:=by
 have hne: ∀n,n<L→(t n).X (r n) (k n)≠0:=fun n h=>by have:=(hs n h).prk;grind
 have huq: ∀i,i<m→ ∀c,(t L).X i c=(t 0).X i c:=fun i hi c=>(hT 0 (by omega)).uniq (hT L (Nat.le_refl _)) he hi c
 have hzL: ∀q,rc m (w q) (t L) b=rc m (w q) (t 0) b:=fun q=>by
  unfold rc
  congr 1
  exact aR fun i hi=>by rw[huq i hi,he i hi]
 have aKV: ∀n,n≤L→(fW Q (fun q=>rc m (w q) (t 0) b - rc m (w q) (t n) b)∨(xP Q fun q=>rc m (w q) (t 0) b - rc m (w q) (t n) b)∧ ∀n',n'<n→(t n').X (r n') b=0):=by
  intro n
  induction n with
  | zero => exact fun _ => .inr ⟨fun q _ => by grind, fun n' h => by omega⟩
  | succ n ih =>
    intro hnl
    have hst:=hs n (by omega)
    have hr0:=hb n (by omega) (r n) hst.hr
    have Gg: ∀q,rc m (w q) (t (n+1)) b=rc m (w q) (t n) b - rc m (w q) (t n) (k n)*((t n).X (r n) b / (t n).X (r n) (k n)):=fun q=>by
     rw[hn n (by omega),Wt _ _ hst.hr (hne n (by omega))]
    by_cases hz:(t n).X (r n) b=0
    ·have e: ∀q,rc m (w q) (t (n+1)) b=rc m (w q) (t n) b:=fun q=>by rw[Gg q,hz];grind
     rcases ih (by omega) with h | ⟨h1,h2⟩
     ·exact .inl (cU h fun q _=>by rw[e q])
     ·exact .inr ⟨fun q hq=>by have:=h1 q hq;simp only at this ⊢;rw[e q];exact this,fun n' h=>by
       by_cases en:n'=n
       ·rw[en];exact hz
       ·exact h2 n' (by omega)⟩
    ·have hth:=Ps (show 0<(t n).X (r n) b by grind) hst.prk
     have hp:=rH hth hst.pos
     refine .inl ?_
     rcases ih (by omega) with h | ⟨h1,h2⟩
     ·exact cU (O5 h hp) fun q _=>by rw[Gg q];grind
     ·exact cU (zY hp h1) fun q _=>by rw[Gg q];grind
 have hz: ∀n,n<L→(t n).X (r n) b=0:=by
  rcases aKV L (Nat.le_refl _) with h | ⟨_,h⟩
  ·exact absurd (fun q _=>by have:=hzL q;grind) fun h0=>fN h h0
  ·exact h
 have hconst: ∀n,n<L→ ∀i,i<m→(t (n+1)).X i b=(t n).X i b:=fun n h i hi=>by
  rw[hn n h]
  by_cases e:i=r n
  ·subst e;rw[qK,hz n h];grind
  ·rw[lU _ _ _ e,hz n h];grind
 have Fb: ∀n,n≤L→ ∀c,(∃i,i<m∧(t n).bs i=c)→ ¬ fW Q fun q=>rc m (w q) (t n) c:=fun n h c ⟨i,hi,hc⟩ hp=>
  fN hp fun q _=>by rw[←hc];exact mR (hT n h) _ hi
 have Fj: ∀n,n<L→ ∀c,(∃i,i<m∧(t n).bs i=c)→ ¬ (∃i,i<m∧(t (n+1)).bs i=c)→(t n).bs (r n)=c:=fun n h c ⟨i,hi,hc⟩ hno=>by
  by_cases e:i=r n
  ·rw[←e];exact hc
  ·exact absurd ⟨i,hi,by rw[hn n h,cC _ _ e];exact hc⟩ hno
 have Rv: ∀n,n<L→ ∀c, ¬ (∃i,i<m∧(t n).bs i=c)→(∃i,i<m∧(t (n+1)).bs i=c)→k n=c:=fun n h c hno ⟨i,hi,hc⟩=>by
  rw[hn n h] at hc
  by_cases e:i=r n
  ·rw[e,dK] at hc;exact hc
  ·rw[cC _ _ e] at hc;exact absurd ⟨i,hi,hc⟩ hno
 have aGG: ∀c,(∃i,i<m∧(t 0).bs i=c) ↔ (∃i,i<m∧(t L).bs i=c):=fun c=>by
  constructor
  ·rintro⟨i,hi,h⟩;exact⟨i,hi,by rw[←he i hi];exact h⟩
  ·rintro⟨i,hi,h⟩;exact⟨i,hi,by rw[he i hi];exact h⟩
 obtain⟨n1,hn1,aCC⟩:=max_lt k L hL
 have aKL: ¬ (∃i,i<m∧(t n1).bs i=k n1):=fun h=>Fb n1 (by omega) _ h (hs n1 hn1).pos
 have aMV: ∃i,i<m∧(t (n1+1)).bs i=k n1:=⟨r n1,(hs n1 hn1).hr,by rw[hn n1 hn1,dK]⟩
 obtain⟨n0,hn0,hl0⟩: ∃n0,n0<L∧(t n0).bs (r n0)=k n1:=by
  by_cases h0: ∃i,i<m∧(t 0).bs i=k n1
  ·obtain⟨n,_,h2,h3,h4⟩:=Uf (P:=fun n=> ∃i,i<m∧(t n).bs i=k n1) (Nat.zero_le n1) h0 aKL
   exact⟨n,by omega,Fj n (by omega) _ h3 h4⟩
  ·have hL0: ¬ ∃i,i<m∧(t L).bs i=k n1:=fun h=>h0 ((aGG _).2 h)
   obtain⟨n,_,h2,h3,h4⟩:=Uf (P:=fun n=> ∃i,i<m∧(t n).bs i=k n1) (show n1+1≤L by omega) aMV hL0
   exact⟨n,by omega,Fj n (by omega) _ h3 h4⟩
 have R7:=hs n0 hn0
 have Vi:=hs n1 hn1
 have hT0:=hT n0 (by omega)
 have hT1:=hT n1 (by omega)
 have hs1:k n0<k n1:=by
  rcases Nat.lt_or_ge (k n0) (k n1) with h | h
  ·exact h
  ·have e:k n0=k n1:=by have:=aCC n0 hn0;omega
   exact absurd R7.pos (Fb n0 (by omega) _ ⟨r n0,R7.hr,by rw[hl0,e]⟩)
 have hnp:=Vi.first (k n0) R7.hF hs1
 have hex: ∃i,i<m∧fW Q fun q=> - ((t n0).X i (k n0)*rc m (w q) (t n1) ((t n0).bs i)):=by
  rcases Classical.em (∃i,i<m∧fW Q fun q=> - ((t n0).X i (k n0)*rc m (w q) (t n1) ((t n0).bs i))) with h | h
  ·exact h
  ·refine absurd ?_ hnp
   have:=wT (n:=m) (f:=fun i q=>(t n0).X i (k n0)*rc m (w q) (t n1) ((t n0).bs i)) R7.pos fun i hi=>by
    rcases Nh Q fun q=>(t n0).X i (k n0)*rc m (w q) (t n1) ((t n0).bs i) with h1 | h1 | h1
    ·exact .inl h1
    ·exact .inr h1
    ·exact absurd ⟨i,hi,h1⟩ h
   exact cU this fun q _=>(Hq hT0 hT1 (w q) (k n0)).symm
 obtain⟨i,hi,cQ⟩:=hex
 obtain⟨c,hc⟩: ∃c,(t n0).bs i=c:=⟨_,rfl⟩
 rw[hc] at cQ
 have hnb: ¬ (∃j,j<m∧(t n1).bs j=c):=fun⟨j,hj,h⟩=>by
  refine fN cQ fun q _=> ?_
  rw[←h,mR hT1 _ hj];grind
 have aFM: ∃n,n<L∧k n=c:=by
  have hin: ∃j,j<m∧(t n0).bs j=c:=⟨i,hi,hc⟩
  have go: ∀a e,a≤e→e≤L→ ¬ (∃j,j<m∧(t a).bs j=c)→(∃j,j<m∧(t e).bs j=c)→ ∃n,n<L∧k n=c:=fun a e h1 h2 h3 h4=>by
   obtain⟨n,_,g2,g3,g4⟩:=Uf (P:=fun n=> ¬ ∃j,j<m∧(t n).bs j=c) h1 h3 (fun h=>h h4)
   exact⟨n,by omega,Rv n (by omega) c g3 (Classical.not_not.1 g4)⟩
  rcases Nat.lt_or_ge n1 n0 with h | h
  ·exact go n1 n0 (by omega) (by omega) hnb hin
  ·by_cases h0: ∃j,j<m∧(t 0).bs j=c
   ·exact go n1 L (by omega) (Nat.le_refl _) hnb ((aGG c).1 h0)
   ·exact go 0 n0 (by omega) (by omega) h0 hin
 obtain⟨nc,hnc,hkc⟩:=aFM
 have aN3:c≤k n1:=by rw[←hkc];exact aCC nc hnc
 have Gh: ∀n,n≤L→ ∀j,j<m→(t n).bs j=c→(t n).X j b=0:=by
  have fwd: ∀n,n<L→(∀j,j<m→(t n).bs j=c→(t n).X j b=0)→ ∀j,j<m→(t (n+1)).bs j=c→(t (n+1)).X j b=0:=fun n h ih j hj hbj=>by
   rw[hconst n h j hj]
   by_cases e:j=r n
   ·rw[e];exact hz n h
   ·rw[hn n h,cC _ _ e] at hbj;exact ih j hj hbj
  have bwd: ∀n,n<L→(∀j,j<m→(t (n+1)).bs j=c→(t (n+1)).X j b=0)→ ∀j,j<m→(t n).bs j=c→(t n).X j b=0:=fun n h ih j hj hbj=>by
   by_cases e:j=r n
   ·rw[e];exact hz n h
   ·rw[←hconst n h j hj]
    exact ih j hj (by rw[hn n h,cC _ _ e];exact hbj)
  have h1: ∀j,j<m→(t n1).bs j=c→(t n1).X j b=0:=fun j hj h=>absurd ⟨j,hj,h⟩ hnb
  intro n hnL
  rcases Nat.le_total n n1 with h | h
  ·have: ∀d,d≤n1→ ∀j,j<m→(t (n1 - d)).bs j=c→(t (n1 - d)).X j b=0:=by
    intro d
    induction d with
    | zero => exact fun _ => h1
    | succ d ih =>
      intro hd
      refine bwd (n1 - (d+1)) (by omega) ?_
      rw[show n1 - (d+1)+1=n1 - d by omega]
      exact ih (by omega)
   have:=this (n1 - n) (by omega)
   rwa [show n1 - (n1 - n)=n by omega] at this
  ·have: ∀d,n1+d≤L→ ∀j,j<m→(t (n1+d)).bs j=c→(t (n1+d)).X j b=0:=by
    intro d
    induction d with
    | zero => exact fun _ => h1
    | succ d ih => exact fun hd => fwd (n1 + d) (by omega) (ih (by omega))
   have:=this (n - n1) (by omega)
   rwa [show n1+(n - n1)=n by omega] at this
 have hxi:(t n0).X i b=0:=Gh n0 (by omega) i hi hc
 have hFc:F c:=by rw[←hkc];exact(hs nc hnc).hF
 have hx0:(t n0).X i (k n0)≠0:=fun h=>fN cQ fun q _=>by rw[h];grind
 have aMO:(0<(t n0).X i (k n0))∧c≠k n1:=by
  rcases eO ((t n0).X i (k n0)) 0 with h | h
  ·
   have hp:fW Q fun q=>rc m (w q) (t n1) c:=by
    have:=rH (Ps (show(0:Rat)<1 by decide) (show 0< - (t n0).X i (k n0) by grind)) cQ
    exact cU this fun q _=>by grind
   have hge: ¬ c<k n1:=fun hl=>Vi.first c hFc hl hp
   have e:c=k n1:=by omega
   have:i=r n0:=hT0.inj hi R7.hr (by rw[hc,hl0,e])
   rw[this] at h
   have:=R7.prk
   grind
  ·refine⟨h,fun e=> ?_⟩
   have hp:=rH h Vi.pos
   rw[e] at cQ
   exact A9 hp cQ
 have aMS:=R7.tie i hi aMO.1 (by rw[hxi,hz n0 hn0];grind)
 rw[hl0,hc] at aMS
 omega
end
theorem X7 {α:Type} [DecidableEq α]: ∀(l:List α) (f:Nat→α),(∀n,n≤l.length→f n∈l)→ ∃a b,a<b∧b≤l.length∧f a=f b
 | [], f, h => absurd (h 0 (Nat.le_refl _)) (by simp)
 | x :: l, f, h => by
   rcases Classical.em (∃n0,n0≤l.length+1∧f n0=x) with ⟨n0,h0,hx⟩| hno
   ·rcases Classical.em (∃n1,n1≤l.length+1∧n1≠n0∧f n1=x) with ⟨n1,h1,hne,hx1⟩| hno
    ·rcases Nat.lt_or_gt_of_ne hne with h | h
     ·exact⟨n1,n0,h,by simpa using h0,by rw[hx,hx1]⟩
     ·exact⟨n0,n1,h,by simpa using h1,by rw[hx,hx1]⟩
    ·obtain⟨a,b,h1,h2,h3⟩:=X7 l (fun n=>if n<n0 then f n else f (n+1)) fun n hn=>by
      have hm: ∀k,k≤l.length+1→k≠n0→f k∈l:=fun k hk hkn=>by
       have:=h k (by simpa using hk)
       rcases List.mem_cons.1 this with e | e
       ·exact absurd ⟨k,hk,hkn,e⟩ hno
       ·exact e
      split
      ·exact hm n (by omega) (by omega)
      ·exact hm (n+1) (by omega) (by omega)
     by_cases ha:a<n0
     ·by_cases hb:b<n0
      ·simp only[ha,hb,if_true] at h3
       exact⟨a,b,h1,by simp;omega,h3⟩
      ·simp only[ha,hb,if_true,if_false] at h3
       exact⟨a,b+1,by omega,by simp;omega,h3⟩
     ·simp only[ha,show ¬ b<n0 by omega,if_false] at h3
      exact⟨a+1,b+1,by omega,by simp;omega,h3⟩
   ·obtain⟨a,b,h1,h2,h3⟩:=X7 l f fun n hn=>by
     rcases List.mem_cons.1 (h n (by simp;omega)) with e | e
     ·exact absurd ⟨n,by omega,e⟩ hno
     ·exact e
    exact⟨a,b,h1,by simp;omega,h3⟩
def allL (N:Nat):Nat→List (List Nat)
 | 0 => [[]]
 | m + 1 => (allL N m).flatMap fun l => (List.range N).map fun x => l ++ [x]
theorem M1 (N:Nat) (f:Nat→Nat): ∀m,(∀i,i<m→f i<N)→(List.range m).map f∈allL N m
 | 0, _ => by simp [allL]
 | m + 1, h => by
   rw[allL,List.mem_flatMap]
   exact⟨_,M1 N f m fun i hi=>h i (by omega),List.mem_map.2 ⟨f m,by simpa using h m (by omega),by simp[List.range_succ]⟩⟩
def orb (nx:Tab→Option (Nat×Nat)) (t:Tab):Nat→Tab
 | 0 => t
 | n + 1 => match nx (orb nx t n) with
   | some (r,k)=>piv (orb nx t n) r k
   | none=>orb nx t n

structure hH (n m : Nat) (E : Nat → Nat → Rat) (b : Nat) (x : Nat → Rat) : Prop where
 nn: ∀c,c<n→0≤x c
 sol:Sol m n E b x
def dot (n:Nat) (w x:Nat→Rat):Rat:=S n fun c=>w c*x c
theorem D3 {n m b:Nat} (w:Nat→Rat) (t:Tab) {x:Nat→Rat} (h:Sol m n t.X b x):dot n w x=dot n (rc m w t) x - rc m w t b+w b:=by
 have e:dot n (rc m w t) x=dot n w x - S m fun i=>w (t.bs i)*S n fun c=>t.X i c*x c:=by
  unfold dot rc
  rw[show(fun c=>(w c - S m fun i=>t.X i c*w (t.bs i))*x c)=fun c=>w c*x c - S m fun i=>w (t.bs i)*(t.X i c*x c) from funext fun c=>by
   rw[show(S m fun i=>w (t.bs i)*(t.X i c*x c))=(S m fun i=>t.X i c*w (t.bs i))*x c by rw[←kY];exact aR fun i _=>by grind]
   grind,wU,lC]
  congr 1
  exact aR fun i _=>by rw[fG]
 have e2:(S m fun i=>w (t.bs i)*S n fun c=>t.X i c*x c)=S m fun i=>t.X i b*w (t.bs i):=aR fun i hi=>by rw[h i hi];grind
 rw[e,e2]
 unfold rc
 grind
def xb (m b:Nat) (t:Tab) (c:Nat):Rat:=S m fun i=>if t.bs i=c then t.X i b else 0
theorem aEF {m b:Nat} {E:Nat→Nat→Rat} {t:Tab} (h:TI m E t) {i:Nat} (hi:i<m):xb m b t (t.bs i)=t.X i b:=by
 unfold xb
 rw[cJ hi,if_pos rfl]
 intro j hj hne
 rw[if_neg fun e=>hne (h.inj hj hi e)]
theorem Sc {m b:Nat} {t:Tab} {c:Nat} (h: ∀i,i<m→t.bs i≠c):xb m b t c=0:=fV fun i hi=>if_neg (h i hi)
theorem aFE {m b:Nat} {t:Tab} (h: ∀i,i<m→0≤t.X i b) (c:Nat):0≤xb m b t c:=gS fun i hi=>by
 split
 ·exact h i hi
 ·exact Rat.le_refl
theorem D6 {n m:Nat} (bs:Nat→Nat) (f g:Nat→Rat) (hz: ∀i,i<m→ ¬ bs i<n→f i=0):(S n fun c=>g c*S m fun i=>if bs i=c then f i else 0)=S m fun i=>f i*g (bs i):=by
 rw[show(fun c=>g c*S m fun i=>if bs i=c then f i else 0)=fun c=>S m fun i=>if bs i=c then f i*g c else 0 from funext fun c=>by
  rw[←fG]
  exact aR fun i _=>by split<;>grind,lC]
 refine aR fun i hi=> ?_
 by_cases h:bs i<n
 ·rw[cJ h,if_pos rfl]
  intro c hc hne
  rw[if_neg (Ne.symm hne)]
 ·rw[fV,hz i hi h]
  ·grind
  ·intro c hc
   rw[if_neg (by omega)]
theorem Um {n m b:Nat} {E:Nat→Nat→Rat} {t:Tab} (h:TI m E t) (hz: ∀i,i<m→ ¬ t.bs i<n→t.X i b=0):Sol m n t.X b (xb m b t):=by
 intro i hi
 unfold xb
 rw[D6 t.bs (fun j=>t.X j b) (t.X i) hz,cJ hi,h.unit i i hi hi,if_pos rfl]
 ·grind
 ·intro j hj hne
  rw[h.unit i j hi hj,if_neg (Ne.symm hne)];grind
theorem uE {n m b:Nat} {E:Nat→Nat→Rat} {t:Tab} (h:TI m E t) (hb: ∀i,i<m→0≤t.X i b) (hz: ∀i,i<m→ ¬ t.bs i<n→t.X i b=0):hH n m E b (xb m b t):=
 ⟨fun c _=>aFE hb c,(kX h n b _).2 (Um h hz)⟩
def cN (n m:Nat) (c:Nat):Rat:=if n≤c∧c<n+m then -1 else 0
theorem sW {n m b:Nat} {t:Tab} (hb:b=n+m):rc m (cN n m) t b=S m fun i=>if n≤t.bs i∧t.bs i<n+m then t.X i b else 0:=by
 unfold rc
 rw[show cN n m b=0 by unfold cN;rw[if_neg (by omega)]]
 rw[show(fun i=>if n≤t.bs i∧t.bs i<n+m then t.X i b else 0)=fun i=>(-1)*(t.X i b*cN n m (t.bs i)) from funext fun i=>by
  unfold cN;split<;>grind,fG]
 grind
theorem Cl {n m b:Nat} {E:Nat→Nat→Rat} {t:Tab} (hb:b=n+m) (h:TI m E t) (hnn: ∀i,i<m→0≤t.X i b) (hend: ∀c,c<n→rc m (cN n m) t c≤0) (hp:0<rc m (cN n m) t b) (x:Nat→Rat): ¬ hH n m E b x:=by
 intro hx
 have h1:=D3 (cN n m) t ((kX h n b x).1 hx.sol)
 have h2:dot n (cN n m) x=0:=fV fun c hc=>by unfold cN;rw[if_neg (by omega)];grind
 have h3:cN n m b=0:=by unfold cN;rw[if_neg (by omega)]
 have h4:dot n (rc m (cN n m) t) x≤0:=by
  have:0≤S n fun c=> - rc m (cN n m) t c*x c:=gS fun c hc=>Rat.mul_nonneg (by have:=hend c hc;grind) (hx.nn c hc)
  have e:(S n fun c=> - rc m (cN n m) t c*x c)=(-1)*dot n (rc m (cN n m) t) x:=by
   unfold dot;rw[←fG];exact aR fun c _=>by grind
  grind
 grind
theorem Jf {n m b:Nat} {t:Tab} (hb:b=n+m) (hnn: ∀i,i<m→0≤t.X i b) (hz:rc m (cN n m) t b=0) (hlt: ∀i,i<m→t.bs i<n+m): ∀i,i<m→ ¬ t.bs i<n→t.X i b=0:=by
 intro i hi hge
 rw[sW hb] at hz
 rcases eO (t.X i b) 0 with h | h
 ·have:=hnn i hi;grind
 ·have:=Iu (f:=fun i=>if n≤t.bs i∧t.bs i<n+m then t.X i b else 0) (k:=i) (n:=m) (fun j hj=>by
   split
   ·exact hnn j hj
   ·exact Rat.le_refl) hi (by
    have:=hlt i hi
    rw[if_pos (by omega)];exact h)
  grind
def wl (C:Nat→Rat):Nat→Nat→Rat
 | 0 => C
 | q + 1 => fun c => if c = q then -1 else 0
def qF (n m:Nat) (E:Nat→Nat→Rat) (b:Nat) (C x:Nat→Rat):Prop:=hH n m E b x∧ ∀y,hH n m E b y→ ¬ fW (n+1) fun q=>dot n (wl C q) y - dot n (wl C q) x
theorem H3 {n c:Nat} (hc:c<n) (C x:Nat→Rat):dot n (wl C (c+1)) x= - x c:=by
 unfold dot wl
 rw[cJ hc]
 ·simp;grind
 ·intro i _ hne
  simp only[if_neg hne];grind
theorem Bv {n m b:Nat} {E:Nat→Nat→Rat} {C x y:Nat→Rat} (hx:qF n m E b C x) (hy:qF n m E b C y): ∀c,c<n→x c=y c:=by
 intro c hc
 have hz:xP (n+1) fun q=>dot n (wl C q) y - dot n (wl C q) x:=by
  rcases Nh (n+1) fun q=>dot n (wl C q) y - dot n (wl C q) x with h | h | h
  ·exact absurd h (hx.2 y hy.1)
  ·exact h
  ·exact absurd (cU h fun q _=>by grind) (hy.2 x hx.1)
 have:=hz (c+1) (by omega)
 simp only at this
 rw[H3 hc,H3 hc] at this
 grind
theorem Jp {n m b:Nat} {E:Nat→Nat→Rat} {t:Tab} {C:Nat→Rat} (h:TI m E t) (hb: ∀i,i<m→0≤t.X i b) (hz: ∀i,i<m→ ¬ t.bs i<n→t.X i b=0) (hend: ∀c,c<n→ ¬ fW (n+1) fun q=>rc m (wl C q) t c):qF n m E b C (xb m b t):=by
 have hf:=uE h hb hz
 refine⟨hf,fun y hy hp=> ?_⟩
 have h1: ∀q,dot n (wl C q) y - dot n (wl C q) (xb m b t)=S n fun c=>y c*rc m (wl C q) t c:=fun q=>by
  have e1:=D3 (wl C q) t ((kX h n b y).1 hy.sol)
  have e2:=D3 (wl C q) t ((kX h n b _).1 hf.sol)
  have e3:dot n (rc m (wl C q) t) (xb m b t)=0:=by
   unfold dot xb
   rw[D6 t.bs (fun j=>t.X j b) (rc m (wl C q) t) hz]
   exact fV fun i hi=>by rw[mR h _ hi];grind
  have e4:dot n (rc m (wl C q) t) y=S n fun c=>y c*rc m (wl C q) t c:=aR fun c _=>by grind
  grind
 have h2:=wT (n:=n) (f:=fun c q=> - (y c*rc m (wl C q) t c)) hp fun c hc=>by
  have hy0:=hy.nn c hc
  rcases Nh (n+1) fun q=>rc m (wl C q) t c with g | g | g
  ·exact absurd g (hend c hc)
  ·exact .inr fun q hq=>by have:=g q hq;simp only at this ⊢;rw[this];grind
  ·rcases eO (y c) 0 with k | k
   ·exact .inr fun q hq=>by
     have:y c=0:=by grind
     simp only;rw[this];grind
   ·exact .inl (cU (rH k g) fun q _=>by grind)
 refine fN h2 fun q _=> ?_
 have:(S n fun c=> - (y c*rc m (wl C q) t c))=(-1)*S n fun c=>y c*rc m (wl C q) t c:=by rw[←fG];exact aR fun c _=>by grind
 rw[h1 q,this];grind
def Unb (n m:Nat) (E:Nat→Nat→Rat) (b:Nat) (C:Nat→Rat):Prop:= ∀x,hH n m E b x→ ∃y,hH n m E b y∧dot n C x<dot n C y
theorem C1 {n m b:Nat} {E:Nat→Nat→Rat} {C x:Nat→Rat} (h:Unb n m E b C) (hx:qF n m E b C x):False:=by
 obtain⟨y,h1,h2⟩:=h x hx.1
 exact hx.2 y h1 ⟨0,by omega,by simp only[wl];grind,fun j hj=>by omega⟩
theorem Ph {n m b:Nat} {E:Nat→Nat→Rat} {t:Tab} {C:Nat→Rat} {j:Nat} (h:TI m E t) (hj:j<n) (hle: ∀i,i<m→t.X i j≤0) (hz: ∀i,i<m→ ¬ t.bs i<n→t.X i j=0) (hg:0<rc m C t j):Unb n m E b C:=by
 intro x hx
 have hnb: ∀i,i<m→t.bs i≠j:=fun i hi e=>by
  have:=h.unit i i hi hi
  rw[e,if_pos rfl] at this
  have:=hle i hi
  grind
 let y:Nat→Rat:=fun c=>x c+((if c=j then 1 else 0) - S m fun i=>if t.bs i=c then t.X i j else 0)
 have aD8: ∀g:Nat→Rat,(S n fun c=>g c*y c)=(S n fun c=>g c*x c)+(g j - S m fun i=>t.X i j*g (t.bs i)):=fun g=>by
  have e:(S n fun c=>g c*y c)=S n fun c=>g c*x c+((if c=j then g j else 0) - g c*S m fun i=>if t.bs i=c then t.X i j else 0):=aR fun c _=>by
   simp only[y]
   by_cases hc:c=j
   ·subst hc;simp only[if_true];grind
   ·simp only[if_neg hc];grind
  rw[e,sY,wU,D6 t.bs (fun i=>t.X i j) g hz,cJ (f:=fun c=>if c=j then g j else 0) hj fun i _ hne=>if_neg hne]
  simp
 refine⟨y,⟨fun c hc=> ?_,(kX h n b y).2 fun i hi=> ?_⟩,?_⟩
 ·have h1:=hx.nn c hc
  have h2:0≤S m fun i=> - (if t.bs i=c then t.X i j else 0):=gS fun i hi=>by
   split
   ·have:=hle i hi;grind
   ·grind
  have h3:(S m fun i=> - (if t.bs i=c then t.X i j else 0))=(-1)*S m fun i=>if t.bs i=c then t.X i j else 0:=by rw[←fG];exact aR fun i _=>by grind
  have h4:(0:Rat)≤if c=j then 1 else 0:=by split<;>decide
  simp only[y]
  grind
 ·rw[aD8 (t.X i),((kX h n b x).1 hx.sol) i hi]
  have:(S m fun l=>t.X l j*t.X i (t.bs l))=t.X i j:=by
   rw[cJ hi,h.unit i i hi hi,if_pos rfl]
   ·grind
   ·intro l hl hne
    rw[h.unit i l hi hl,if_neg (Ne.symm hne)];grind
  rw[this];grind
 ·have:=aD8 C
  unfold dot
  rw[this]
  unfold rc at hg
  grind
structure Round (n m b : Nat) (E : Nat → Nat → Rat) (w : Nat → Rat) (F F' : Nat → Prop) (t : Tab) : Prop where
 ti:TI m E t
 nn: ∀i,i<m→0≤t.X i b
 zero: ∀i,i<m→ ¬ t.bs i<n→t.X i b=0
 bas: ∀i,i<m→t.bs i<n→F (t.bs i)
 up: ∀c,c<n→F c→rc m w t c≤0
 gL: ∀c,c<n→(F' c ↔ F c∧rc m w t c=0)
def yC (n:Nat) (F:Nat→Prop) (x:Nat→Rat):Prop:= ∀c,c<n→ ¬ F c→x c=0
theorem mO {n m b:Nat} {E:Nat→Nat→Rat} {w:Nat→Rat} {F F':Nat→Prop} {t:Tab} (h:Round n m b E w F F' t) {x:Nat→Rat} (hx:hH n m E b x) (ho:yC n F x):
  dot n w x≤w b - rc m w t b∧(dot n w x=w b - rc m w t b→yC n F' x)∧(yC n F' x→dot n w x=w b - rc m w t b):=by
 have h1:=D3 w t ((kX h.ti n b x).1 hx.sol)
 have Pm: ∀c,c<n→0≤ - rc m w t c*x c:=fun c hc=>by
  by_cases hF:F c
  ·exact Rat.mul_nonneg (by have:=h.up c hc hF;grind) (hx.nn c hc)
  ·rw[ho c hc hF];grind
 have e:(S n fun c=> - rc m w t c*x c)=(-1)*dot n (rc m w t) x:=by
  unfold dot;rw[←fG];exact aR fun c _=>by grind
 have h2:=gS Pm
 refine⟨by grind,fun heq c hc hF'=> ?_,fun ho'=> ?_⟩
 ·by_cases hF:F c
  ·have hne:rc m w t c≠0:=fun h0=>hF' ((h.gL c hc).2 ⟨hF,h0⟩)
   have hlt:rc m w t c<0:=by have:=h.up c hc hF;grind
   rcases eO (x c) 0 with g | g
   ·have:=hx.nn c hc;grind
   ·have:=Iu Pm hc (Rat.mul_pos (by grind) g)
    grind
  ·exact ho c hc hF
 ·have:dot n (rc m w t) x=0:=fV fun c hc=>by
   by_cases hF':F' c
   ·rw[((h.gL c hc).1 hF').2];grind
   ·rw[ho' c hc hF'];grind
  grind

def vol (m:Nat) (E:Nat→Nat→Rat) (t:Tab):Rat:=det m fun j i=>E i (t.bs j)
theorem zE {m:Nat} {E:Nat→Nat→Rat} {t:Tab} (h:TI m E t) {p:Nat} (hp:p<m) (c:Nat):det m (put (fun j i=>E i (t.bs j)) p fun i=>E i c)=t.X p c*vol m E t:=
 Se _ hp (fun j=>t.X j c) _ fun i hi=>h.col i hi c
theorem Z1 {m:Nat} {E:Nat→Nat→Rat} {t:Tab} (h:TI m E t) {r k:Nat} (hr:r<m):vol m E (piv t r k)=t.X r k*vol m E t:=by
 rw[←zE h hr k]
 unfold vol
 refine oC fun j i _ _=> ?_
 unfold put
 by_cases e:j=r
 ·subst e;rw[dK,if_pos rfl]
 ·rw[cC _ _ e,if_neg e]
structure aE5 (m N K : Nat) (E : Nat → Nat → Rat) : Prop where
 int: ∀i c,i<m→c<N→isInt (E i c)
 le: ∀i c,i<m→c<N→ -(K:Rat)≤E i c∧E i c≤K
structure TZ (m N K : Nat) (E : Nat → Nat → Rat) (t : Tab) : Prop where
 ti:TI m E t
 ints:aE5 m N K E
 bs: ∀i,i<m→t.bs i<N
 vol:vol m E t≠0
theorem TZ.piv {m N K:Nat} {E:Nat→Nat→Rat} {t:Tab} (h:TZ m N K E t) {r k:Nat} (hr:r<m) (hk:k<N) (hp:t.X r k≠0):TZ m N K E (piv t r k):=by
 refine⟨h.ti.piv hr hp,h.ints,fun i hi=> ?_,?_⟩
 ·by_cases e:i=r
  ·subst e;rw[dK];exact hk
  ·rw[cC _ _ e];exact h.bs i hi
 ·rw[Z1 h.ti hr]
  have:=h.vol
  intro h0
  rcases Rat.mul_eq_zero.1 h0 with h1 | h1
  ·exact hp h1
  ·exact this h1
theorem TZ.nK {m N K:Nat} {E:Nat→Nat→Rat} {t:Tab} (h:TZ m N K E t):isInt (Lp.vol m E t)∧ -(lid K m:Rat)≤Lp.vol m E t∧Lp.vol m E t≤lid K m:=
 ⟨C0 fun j i hj hi=>h.ints.int i _ hi (h.bs j hj),S5 fun j i hj hi=>h.ints.le i _ hi (h.bs j hj)⟩
theorem TZ.entry {m N K:Nat} {E:Nat→Nat→Rat} {t:Tab} (h:TZ m N K E t) {p c:Nat} (hp:p<m) (hc:c<N):isInt (t.X p c*Lp.vol m E t)∧ -(lid K m:Rat)≤t.X p c*Lp.vol m E t∧t.X p c*Lp.vol m E t≤lid K m:=by
 rw[←zE h.ti hp c]
 refine⟨C0 fun j i hj hi=> ?_,S5 fun j i hj hi=> ?_⟩
 ·unfold put;split
  ·exact h.ints.int i c hi hc
  ·exact h.ints.int i _ hi (h.bs j hj)
 ·unfold put;split
  ·exact h.ints.le i c hi hc
  ·exact h.ints.le i _ hi (h.bs j hj)
def iP (q:Rat):Rat:=if q<0 then -q else q
theorem K9 {q:Rat} (h:q≠0):0<iP q:=by unfold iP;split<;>grind
theorem Kq (a b:Rat):iP (a*b)=iP a*iP b:=by
 rcases eO a 0 with h1 | h1<;>rcases eO b 0 with h2 | h2
 ·have:=Rat.mul_nonneg (show 0≤ -a by grind) (show 0≤ -b by grind)
  unfold iP
  rw[if_neg (show ¬ a*b<0 by grind)]
  by_cases ha:a<0
  ·by_cases hb:b<0
   ·rw[if_pos ha,if_pos hb];grind
   ·have:b=0:=by grind
    rw[this];grind
  ·have:a=0:=by grind
   rw[this];grind
 ·unfold iP
  by_cases ha:a<0
  ·have:=Rat.mul_pos (show 0< -a by grind) h2
   rw[if_pos (show a*b<0 by grind),if_pos ha,if_neg (by grind)];grind
  ·have:a=0:=by grind
   rw[this];grind
 ·unfold iP
  by_cases hb:b<0
  ·have:=Rat.mul_pos h1 (show 0< -b by grind)
   rw[if_pos (show a*b<0 by grind),if_pos hb,if_neg (by grind)];grind
  ·have:b=0:=by grind
   rw[this];grind
 ·have:=Rat.mul_pos h1 h2
  unfold iP
  rw[if_neg (by grind),if_neg (by grind),if_neg (by grind)]
theorem rK {a:Rat} :isInt a→isInt (-a):=fun⟨x,hx⟩=>⟨-x,by rw[hx,Rat.intCast_neg]⟩
theorem Cw {a b:Rat} (ha:isInt a) (hb:isInt b):isInt (a - b):=by
 rw[show a - b=a+ -b by grind];exact yS ha (rK hb)
theorem T4 {a:Rat} (h:isInt a):isInt (iP a):=by
 unfold iP;split
 ·exact rK h
 ·exact h
theorem wH {q:Rat} (h:isInt q):(q.num:Rat)=q:=by obtain⟨z,rfl⟩:=h;simp
def dz (m:Nat) (E:Nat→Nat→Rat) (t:Tab):Int:=(iP (vol m E t)).num
def zt (m:Nat) (E:Nat→Nat→Rat) (t:Tab) (i c:Nat):Int:=(t.X i c*iP (vol m E t)).num
section
variable {m N K : Nat} {E : Nat → Nat → Rat} {t : Tab}
theorem kZ (h:TZ m N K E t):(dz m E t:Rat)=iP (vol m E t):=wH (T4 h.nK.1)
theorem pO (h:TZ m N K E t):0<dz m E t:=by
 have:=K9 h.vol
 rw[←kZ h] at this
 exact Rat.intCast_pos.1 this
theorem fE (h:TZ m N K E t) {i c:Nat} (hi:i<m) (hc:c<N):(zt m E t i c:Rat)=t.X i c*dz m E t:=by
 rw[kZ h]
 refine wH ?_
 have h1:=(h.entry hi hc).1
 unfold iP;split
 ·rw[show t.X i c* -vol m E t= -(t.X i c*vol m E t) by grind];exact rK h1
 ·exact h1
theorem Qg (h:TZ m N K E t) {i c:Nat} (hi:i<m) (hc:c<N): -(lid K m:Int)≤zt m E t i c∧zt m E t i c≤lid K m:=by
 have h1:=(h.entry hi hc).2
 have h2: -(lid K m:Rat)≤(zt m E t i c:Rat)∧(zt m E t i c:Rat)≤lid K m:=by
  rw[fE h hi hc,kZ h]
  unfold iP;split<;>grind
 constructor
 ·have:=h2.1
  rw[←Rat.intCast_natCast,←Rat.intCast_neg] at this
  exact Rat.intCast_le_intCast.1 this
 ·have:=h2.2
  rw[←Rat.intCast_natCast] at this
  exact Rat.intCast_le_intCast.1 this
theorem Pn (h:TZ m N K E t):dz m E t≤lid K m:=by
 have h1:=h.nK.2
 have h2:(dz m E t:Rat)≤lid K m:=by
  rw[kZ h]
  unfold iP;split<;>grind
 rw[←Rat.intCast_natCast] at h2
 exact Rat.intCast_le_intCast.1 h2
theorem nZ (h:TZ m N K E t) {i c:Nat} (hi:i<m) (hc:c<N):(0<zt m E t i c ↔ 0<t.X i c)∧(zt m E t i c=0 ↔ t.X i c=0):=by
 have h1:=fE h hi hc
 have h2:(0:Rat)<dz m E t:=by rw[kZ h];exact K9 h.vol
 constructor
 ·constructor
  ·intro hp
   have h3:(0:Rat)<zt m E t i c:=Rat.intCast_pos.2 hp
   rw[h1] at h3
   rcases eO (t.X i c) 0 with g | g
   ·have:=Rat.mul_nonneg (show 0≤ - t.X i c by grind) (show 0≤(dz m E t:Rat) by grind)
    grind
   ·exact g
  ·intro hp
   have:=Rat.mul_pos hp h2
   rw[←h1] at this
   exact Rat.intCast_pos.1 this
 ·constructor
  ·intro h0
   rw[h0] at h1
   rcases Rat.mul_eq_zero.1 h1.symm with g | g
   ·exact g
   ·rw[g] at h2;exact absurd h2 (by decide)
  ·intro h0
   rw[h0,Rat.zero_mul] at h1
   exact Rat.intCast_inj.1 h1
theorem Uz (h:TZ m N K E t) {r k:Nat} (hr:r<m) (hk:k<N) (hp:t.X r k≠0) {i c:Nat} (hi:i<m) (hc:c<N):
  (0<zt m E t r k→dz m E (piv t r k)=zt m E t r k∧(zt m E (piv t r k) i c*dz m E t=if i=r then zt m E t i c*dz m E t else zt m E t i c*zt m E t r k - zt m E t i k*zt m E t r c))∧
  (zt m E t r k<0→dz m E (piv t r k)= - zt m E t r k∧(zt m E (piv t r k) i c*dz m E t= - if i=r then zt m E t i c*dz m E t else zt m E t i c*zt m E t r k - zt m E t i k*zt m E t r c)):=by
 have h':=h.piv hr hk hp
 have e1:=fE h hi hc
 have e2:=fE h' hi hc
 have e3:=fE h hr hk
 have e4:=fE h hi hk
 have e5:=fE h hr hc
 have hd:(dz m E (piv t r k):Rat)=iP (t.X r k)*dz m E t:=by rw[kZ h',kZ h,Z1 h.ti hr,Kq]
 have hdp:=pO h
 have hs:=nZ h hr hk
 constructor
 ·intro pG
  have hx:=hs.1.1 pG
  have hd2:(dz m E (piv t r k):Rat)=zt m E t r k:=by rw[hd,e3];unfold iP;rw[if_neg (by grind)]
  refine⟨Rat.intCast_inj.1 hd2,?_⟩
  have hz:=Rat.intCast_inj.1 hd2
  refine Rat.intCast_inj.1 ?_
  rw[Rat.intCast_mul,e2,hd]
  split
  ·rename_i e
   subst e
   rw[Rat.intCast_mul,qK,e1]
   unfold iP;rw[if_neg (by grind)]
   grind
  ·rename_i e
   rw[Rat.intCast_sub,Rat.intCast_mul,Rat.intCast_mul,lU _ _ _ e,e1,e3,e4,e5]
   unfold iP;rw[if_neg (by grind)]
   grind
 ·intro cQ
  have hx:t.X r k<0:=by
   rcases eO (t.X r k) 0 with g | g
   ·grind
   ·have:=hs.1.2 g;omega
  have hd2:(dz m E (piv t r k):Rat)=((- zt m E t r k:Int):Rat):=by rw[hd,Rat.intCast_neg,e3];unfold iP;rw[if_pos hx];grind
  refine⟨Rat.intCast_inj.1 hd2,?_⟩
  refine Rat.intCast_inj.1 ?_
  rw[Rat.intCast_mul,e2,hd,Rat.intCast_neg]
  split
  ·rename_i e
   subst e
   rw[Rat.intCast_mul,qK,e1]
   unfold iP;rw[if_pos hx]
   grind
  ·rename_i e
   rw[Rat.intCast_sub,Rat.intCast_mul,Rat.intCast_mul,lU _ _ _ e,e1,e3,e4,e5]
   unfold iP;rw[if_pos hx]
   grind
end
end Go.Proofs.YticmgmemnpcbbaaGreat.Lp

namespace Go.Proofs.YticmgmemnpcbbaaGreat.Lp
set_option linter.unusedSimpArgs false
set_option linter.unusedVariables false
open Classical
noncomputable def fstP (p : Nat → Prop) : Nat → Option Nat
 | 0 => none
 | n + 1 => match fstP p n with
   | some k=>some k
   | none=>if p n then some n else none
theorem eJ {p:Nat→Prop} : ∀ {n:Nat},fstP p n=none ↔ ∀k,k<n→ ¬ p k
 | 0 => by simp [fstP]
 | n + 1 => by
   have ih:=eJ (p:=p) (n:=n)
   rw[fstP]
   cases h:fstP p n with
   | some k=>
     constructor
     ·intro h';cases h'
     ·intro h'
      have:=ih.2 fun k hk=>h' k (by omega)
      rw[h] at this;cases this
   | none=>
     have hn:=ih.1 h
     constructor
     ·intro h' k hk
      by_cases e:k=n
      ·subst e;intro hp;simp[hp] at h'
      ·exact hn k (by omega)
     ·intro h'
      simp[h' n (by omega)]
theorem dZ {p:Nat→Prop} {k:Nat} : ∀ {n:Nat},fstP p n=some k ↔ k<n∧p k∧ ∀j,j<k→ ¬ p j
 | 0 => by simp [fstP]
 | n + 1 => by
   have ih:=dZ (p:=p) (k:=k) (n:=n)
   rw[fstP]
   cases h:fstP p n with
   | some k'=>
     rw[h] at ih
     constructor
     ·intro h'
      obtain⟨h1,h2,h3⟩:=ih.1 h'
      exact⟨by omega,h2,h3⟩
     ·rintro⟨h1,h2,h3⟩
      by_cases e:k<n
      ·exact ih.2 ⟨e,h2,h3⟩
      ·obtain⟨g1,g2,_⟩:=dZ.1 h
       exact absurd g2 (h3 k' (by omega))
   | none=>
     have hn:=eJ.1 h
     constructor
     ·intro h'
      by_cases hp:p n
      ·simp[hp] at h'
       subst h'
       exact⟨by omega,hp,hn⟩
      ·simp[hp] at h'
     ·rintro⟨h1,h2,h3⟩
      by_cases e:k<n
      ·exact absurd h2 (hn k e)
      ·obtain rfl:k=n:=by omega
       simp[h2]
def quo (t:Tab) (b k i:Nat):Rat:=t.X i b / t.X i k
noncomputable def lvStep (t : Tab) (b k : Nat) (Jw : Option Nat) (i : Nat) : Option Nat :=
 if 0<t.X i k then match Jw with
  | none => some i
  | some j => if quo t b k i < quo t b k j ∨ quo t b k i = quo t b k j ∧ t.bs i < t.bs j then some i else some j
 else Jw
noncomputable def leave (t : Tab) (b k : Nat) (rows : List Nat) : Option Nat := rows.foldl (lvStep t b k) none
theorem xF (t:Tab) (b k:Nat) (rows:List Nat) (i:Nat):leave t b k (rows++ [i])=lvStep t b k (leave t b k rows) i:=by
 unfold leave;rw[List.foldl_append];rfl
theorem Ho {α:Type} {P:List α→Prop} (h0:P []) (hs: ∀l x,P l→P (l++ [x])) (l:List α):P l:=by
 rw[←List.reverse_reverse l]
 induction l.reverse with
 | nil => exact h0
 | cons x xs ih => rw [List.reverse_cons]; exact hs _ _ ih
theorem jA (t:Tab) (b k:Nat) (rows:List Nat):(leave t b k rows=none→ ∀i,i∈rows→ ¬ 0<t.X i k)∧
  ∀r,leave t b k rows=some r→r∈rows∧0<t.X r k∧ ∀i,i∈rows→0<t.X i k→quo t b k r≤quo t b k i∧(quo t b k i=quo t b k r→t.bs r≤t.bs i):=by
 induction rows using Ho with
 | h0 => exact ⟨fun _ i hi => (by cases hi), fun r h => (by cases h)⟩
 | hs l x ih =>
   obtain⟨ih1,ih2⟩:=ih
   rw[xF]
   unfold lvStep
   by_cases hp:0<t.X x k
   ·rw[if_pos hp]
    cases hb:leave t b k l with
    | none =>
      refine⟨fun h=>(by cases h),fun r h=> ?_⟩
      have hx:x=r:=Option.some.inj h
      subst hx
      refine⟨by simp,hp,fun i hi hpi=> ?_⟩
      rcases List.mem_append.1 hi with hi | hi
      ·exact absurd hpi (ih1 hb i hi)
      ·obtain rfl:i=x:=by simpa using hi
       exact⟨Rat.le_refl,fun _=>Nat.le_refl _⟩
    | some j =>
      obtain⟨g1,g2,g3⟩:=ih2 j hb
      simp only
      by_cases hc:quo t b k x<quo t b k j∨quo t b k x=quo t b k j∧t.bs x<t.bs j
      ·rw[if_pos hc]
       refine⟨fun h=>(by cases h),fun r h=> ?_⟩
       have hx:x=r:=Option.some.inj h
       subst hx
       refine⟨by simp,hp,fun i hi hpi=> ?_⟩
       rcases List.mem_append.1 hi with hi | hi
       ·obtain⟨q1,q2⟩:=g3 i hi hpi
        rcases hc with hc | ⟨hc1,hc2⟩
        ·exact⟨by grind,fun e=>by grind⟩
        ·exact⟨by grind,fun e=>by have:=q2 (by grind);omega⟩
       ·obtain rfl:i=x:=by simpa using hi
        exact⟨Rat.le_refl,fun _=>Nat.le_refl _⟩
      ·rw[if_neg hc]
       refine⟨fun h=>(by cases h),fun r h=> ?_⟩
       have hx:j=r:=Option.some.inj h
       subst hx
       refine⟨by simp[g1],g2,fun i hi hpi=> ?_⟩
       rcases List.mem_append.1 hi with hi | hi
       ·exact g3 i hi hpi
       ·obtain rfl:i=x:=by simpa using hi
        have h1: ¬ quo t b k i<quo t b k j:=fun h=>hc (.inl h)
        refine⟨by grind,fun e=> ?_⟩
        have h2: ¬ t.bs i<t.bs j:=fun h=>hc (.inr ⟨e,h⟩)
        omega
   ·rw[if_neg hp]
    refine⟨fun h i hi=> ?_,fun r h=> ?_⟩
    ·rcases List.mem_append.1 hi with hi | hi
     ·exact ih1 h i hi
     ·obtain rfl:i=x:=by simpa using hi
      exact hp
    ·obtain⟨g1,g2,g3⟩:=ih2 r h
     refine⟨by simp[g1],g2,fun i hi hpi=> ?_⟩
     rcases List.mem_append.1 hi with hi | hi
     ·exact g3 i hi hpi
     ·obtain rfl:i=x:=by simpa using hi
      exact absurd hpi hp
theorem sK {a b c d:Rat} (hb:0<b) (hd:0<d):(a / b<c / d ↔ a*d<c*b)∧(a / b=c / d ↔ a*d=c*b):=by
 have h1:a / b*b=a:=by grind
 have h2:c / d*d=c:=by grind
 generalize a / b=x at *
 generalize c / d=y at *
 subst h1 h2
 have h3:=Rat.mul_pos hb hd
 constructor
 ·constructor
  ·intro h
   have:=Rat.mul_pos (show 0<y - x by grind) h3
   grind
  ·intro h
   rcases eO y x with g | g
   ·have:=Rat.mul_nonneg (show 0≤x - y by grind) (show 0≤b*d by grind)
    grind
   ·exact g
 ·constructor
  ·intro h;rw[h];grind
  ·intro h
   have:(x - y)*(b*d)=0:=by grind
   rcases Rat.mul_eq_zero.1 this with g | g
   ·grind
   ·grind
noncomputable def nx (N b : Nat) (rows : List Nat) (ok : Tab → Nat → Prop) (t : Tab) : Option (Nat × Nat) :=
 match fstP (ok t) N with
 | none => none
 | some k => match leave t b k rows with
   | none=>none
   | some r=>some (r,k)
theorem oD {N b:Nat} {rows:List Nat} {ok:Tab→Nat→Prop} {t:Tab} {r k:Nat} :nx N b rows ok t=some (r,k) ↔ fstP (ok t) N=some k∧leave t b k rows=some r:=by
 unfold nx
 cases h1:fstP (ok t) N with
 | none => simp
 | some k' =>
   simp only
   cases h2:leave t b k' rows with
   | none=>
     constructor
     ·intro h;cases h
     ·rintro⟨h,h'⟩
      obtain rfl:k'=k:=Option.some.inj h
      rw[h2] at h';cases h'
   | some r'=>
     simp only[Option.some.injEq,Prod.mk.injEq]
     constructor
     ·rintro⟨rfl,rfl⟩;exact⟨rfl,h2⟩
     ·rintro⟨rfl,h'⟩;rw[h2] at h';exact⟨Option.some.inj h',rfl⟩
theorem Ae {N b:Nat} {rows:List Nat} {ok:Tab→Nat→Prop} {t:Tab} (h:nx N b rows ok t=none):fstP (ok t) N=none∨ ∃k,fstP (ok t) N=some k∧leave t b k rows=none:=by
 unfold nx at h
 cases h1:fstP (ok t) N with
 | none => exact .inl rfl
 | some k =>
   rw[h1] at h
   simp only at h
   cases h2:leave t b k rows with
   | none=>exact .inr ⟨k,rfl,h2⟩
   | some r=>rw[h2] at h;cases h
structure Inv (n m b N K : Nat) (E : Nat → Nat → Rat) (rows : List Nat) (t : Tab) : Prop where
 z:TZ m N K E t
 nn: ∀i,i<m→0≤t.X i b
 sub: ∀i,i∈rows→i<m
 dead: ∀i,i<m→i∉rows→n≤t.bs i∧t.X i b=0∧ ∀c,c<n→t.X i c=0
 lt: ∀i,i<m→t.bs i<b
structure rO (n m b Q N' N : Nat) (w : Nat → Nat → Rat) (F : Nat → Prop) (rows : List Nat) (ok : Tab → Nat → Prop) : Prop where
 ok: ∀t c,c<N'→(ok t c ↔ F c∧fW Q fun q=>rc m (w q) t c)
 hF: ∀c,F c→c<N'
 le:N'≤N
 lb:N'≤b
 few:(∀c,F c→c<n)∨ ∀i,i<m→i∈rows
theorem rO.step {n m b Q N' N K:Nat} {E:Nat→Nat→Rat} {w:Nat→Nat→Rat} {F:Nat→Prop} {rows:List Nat} {ok:Tab→Nat→Prop} (R:rO n m b Q N' N w F rows ok) {t:Tab} {r k:Nat} (h:Inv n m b N K E rows t)
  (hk:fstP (ok t) N'=some k) (hr:leave t b k rows=some r):Step m b Q w F t r k∧Inv n m b N K E rows (piv t r k)∧k<N'∧r∈rows∧r<m∧t.X r k≠0:=by
 obtain⟨k1,k2,k3⟩:=dZ.1 hk
 obtain⟨r1,r2,r3⟩:=(jA t b k rows).2 r hr
 obtain⟨f1,f2⟩:=(R.ok t k k1).1 k2
 have hrm:=h.sub r r1
 have hin: ∀i,i<m→0<t.X i k→i∈rows:=fun i hi hp=>by
  rcases Classical.em (i∈rows) with g | g
  ·exact g
  ·rcases R.few with hf | hf
   ·have:=(h.dead i hi g).2.2 k (hf k f1)
    rw[this] at hp;exact absurd hp (by decide)
   ·exact hf i hi
 have hst:Step m b Q w F t r k:=⟨f1,f2,fun j hj hjk hp=>k3 j hjk ((R.ok t j (by omega)).2 ⟨hj,hp⟩),hrm,r2,fun i hi hp=>by
  have h1:=(r3 i (hin i hi hp) hp).1
  have h2:=sK (a:=t.X i b) (b:=t.X i k) (c:=t.X r b) (d:=t.X r k) hp r2
  unfold quo at h1
  rcases eO (t.X r b*t.X i k) (t.X i b*t.X r k) with g | g
  ·exact g
  ·have:=h2.1.2 g;grind,fun i hi hp e=>by
  have h1:=(r3 i (hin i hi hp) hp).2
  have h2:=sK (a:=t.X i b) (b:=t.X i k) (c:=t.X r b) (d:=t.X r k) hp r2
  exact h1 (h2.2.2 e)⟩
 have hne:t.X r k≠0:=by grind
 refine⟨hst,⟨h.z.piv hrm (by have:=R.le;omega) hne,hst.rhs h.nn,h.sub,fun i hi hno=> ?_,fun i hi=> ?_⟩,k1,r1,hrm,hne⟩
 ·have hir:i≠r:=fun e=>hno (e▸r1)
  obtain⟨d1,d2,d3⟩:=h.dead i hi hno
  have hkn:k<n:=by
   rcases R.few with hf | hf
   ·exact hf k f1
   ·exact absurd (hf i hi) hno
  rw[cC _ _ hir]
  refine⟨d1,?_,fun c hc=> ?_⟩
  ·rw[lU _ _ _ hir,d2,d3 k hkn];grind
  ·rw[lU _ _ _ hir,d3 c hc,d3 k hkn];grind
 ·by_cases e:i=r
  ·subst e;rw[dK];have:=R.lb;omega
  ·rw[cC _ _ e];exact h.lt i hi
theorem rO.low {n m b Q N' N K:Nat} {E:Nat→Nat→Rat} {w:Nat→Nat→Rat} {F:Nat→Prop} {rows:List Nat} {ok:Tab→Nat→Prop} (R:rO n m b Q N' N w F rows ok) (hF: ∀c,F c→c<n) {t:Tab} {e:Nat} (hI: ∀e',e'≤e→Inv n m b N K E rows (orb (nx N' b rows ok) t e')) (hl: ∀i,i∈rows→t.bs i<n):
  ∀e',e'≤e→ ∀i,i∈rows→(orb (nx N' b rows ok) t e').bs i<n
 | 0, _ => hl
 | e' + 1, he => by
   have ih:=rO.low R hF hI hl e' (by omega)
   rw[orb]
   cases hs:nx N' b rows ok (orb (nx N' b rows ok) t e') with
   | none=>exact ih
   | some p=>
     obtain⟨g1,g2⟩:=oD.1 hs
     have hst:=(R.step (hI e' (by omega)) g1 g2).1
     intro i hi
     by_cases ei:i=p.1
     ·simp only;rw[ei,dK];exact hF _ hst.hF
     ·simp only;rw[cC _ _ ei];exact ih i hi
theorem rO.ends {n m b Q N' N K:Nat} {E:Nat→Nat→Rat} {w:Nat→Nat→Rat} {F:Nat→Prop} {rows:List Nat} {ok:Tab→Nat→Prop} (R:rO n m b Q N' N w F rows ok) {t:Tab} (h:Inv n m b N K E rows t):
  ∃e,nx N' b rows ok (orb (nx N' b rows ok) t e)=none∧(∀e',e'<e→(nx N' b rows ok (orb (nx N' b rows ok) t e')).isSome=true)∧ ∀e',e'≤e→Inv n m b N K E rows (orb (nx N' b rows ok) t e'):=by
 have hinv: ∀e,Inv n m b N K E rows (orb (nx N' b rows ok) t e):=by
  intro e
  induction e with
  | zero => exact h
  | succ e ih =>
    rw[orb]
    cases hs:nx N' b rows ok (orb (nx N' b rows ok) t e) with
    | none=>exact ih
    | some p=>
      obtain⟨g1,g2⟩:=oD.1 hs
      exact(R.step ih g1 g2).2.1
 rcases Classical.em (∃e,nx N' b rows ok (orb (nx N' b rows ok) t e)=none) with ⟨e,he⟩| hno
 ·have least: ∀e,nx N' b rows ok (orb (nx N' b rows ok) t e)=none→ ∃e,nx N' b rows ok (orb (nx N' b rows ok) t e)=none∧ ∀e',e'<e→(nx N' b rows ok (orb (nx N' b rows ok) t e')).isSome=true:=by
   intro e
   induction e using Nat.strongRecOn with
   | ind e ih =>
     intro h
     rcases Classical.em (∃e',e'<e∧nx N' b rows ok (orb (nx N' b rows ok) t e')=none) with ⟨e',h1,h2⟩| h2
     ·exact ih e' h1 h2
     ·refine⟨e,h,fun e' he'=> ?_⟩
      cases hh:nx N' b rows ok (orb (nx N' b rows ok) t e') with
      | none => exact absurd ⟨e', he', hh⟩ h2
      | some p => rfl
  obtain⟨e,h1,h2⟩:=least e he
  exact⟨e,h1,h2,fun e' _=>hinv e'⟩
 ·exfalso
  have zB: ∀e,∃p,nx N' b rows ok (orb (nx N' b rows ok) t e)=some p:=fun e=>by
   cases hh:nx N' b rows ok (orb (nx N' b rows ok) t e) with
   | none => exact absurd ⟨e, hh⟩ hno
   | some p => exact ⟨p, rfl⟩
  obtain⟨a,c,h1,h2,h3⟩:=X7 (allL N m) (fun e=>(List.range m).map (orb (nx N' b rows ok) t e).bs) fun e _=>M1 N _ m (hinv e).z.bs
  have heq: ∀i,i<m→(orb (nx N' b rows ok) t a).bs i=(orb (nx N' b rows ok) t c).bs i:=fun i hi=>by
   have:=congrArg (fun l=>l[i]?) h3
   simpa [hi] using this
  let p:Nat→Nat×Nat:=fun e=>(nx N' b rows ok (orb (nx N' b rows ok) t e)).getD (0,0)
  have hp: ∀e,nx N' b rows ok (orb (nx N' b rows ok) t e)=some ((p e).1,(p e).2):=fun e=>by obtain⟨q,hq⟩:=zB e;simp[p,hq]
  refine aDS (m:=m) (b:=b) (Q:=Q) (L:=c - a) (E:=E) (w:=w) (F:=F) (t:=fun e=>orb (nx N' b rows ok) t (a+e)) (r:=fun e=>(p (a+e)).1) (k:=fun e=>(p (a+e)).2) (fun e _=>(hinv _).z.ti) (fun e _=>(hinv _).nn)
   (fun e _=> ?_) (fun e _=> ?_) (by omega) (fun i hi=> ?_)
  ·obtain⟨g1,g2⟩:=oD.1 (hp (a+e))
   exact(R.step (hinv _) g1 g2).1
  ·show orb (nx N' b rows ok) t (a+e+1)=_
   rw[orb,hp]
  ·simp only[Nat.add_zero]
   rw[show a+(c - a)=c by omega]
   exact heq i hi

structure Init (n m K : Nat) (E : Nat → Nat → Rat) : Prop where
 ints:aE5 m (n+m+1) K E
 art: ∀i j,i<m→j<m→E i (n+j)=if i=j then 1 else 0
 nn: ∀i,i<m→0≤E i (n+m)
def lW (n:Nat) (E:Nat→Nat→Rat):Tab:=⟨E,fun i=>n+i⟩
theorem Init.inv {n m K:Nat} {E:Nat→Nat→Rat} (h:Init n m K E):Inv n m (n+m) (n+m+1) K E (List.range m) (lW n E):=by
 refine⟨⟨⟨fun i hi=>⟨fun l=>if l=i then 1 else 0,fun c=> ?_⟩,fun l hl c=> ?_,fun i j hi hj=> ?_⟩,h.ints,fun i hi=> ?_,?_⟩,h.nn,fun i hi=>by simpa using hi,fun i hi hn=>absurd (by simpa using hi) hn,fun i hi=>by show n+i<_;omega⟩
 ·rw[cJ hi]
  ·simp[lW]
  ·intro j _ hne;show(if j=i then(1:Rat) else 0)*E j c=0;rw[if_neg hne];grind
 ·show E l c=S m fun i=>E i c*E l (n+i)
  rw[cJ hl,h.art l l hl hl,if_pos rfl]
  ·grind
  ·intro j hj hne;rw[h.art l j hl hj,if_neg (Ne.symm hne)];grind
 ·exact h.art i j hi hj
 ·show n+i<_
  omega
 ·show det m (fun j i=>E i (n+j))≠0
  rw[Q7 m _ fun j i hj hi=>by rw[h.art i j hi hj];by_cases e:j=i
                              ·rw[if_pos e,if_pos e.symm]
                              ·rw[if_neg e,if_neg (Ne.symm e)]]
  decide
theorem aEU {v:Nat→Rat} :fW 1 v ↔ 0<v 0:=by
 constructor
 ·rintro⟨q,h1,h2,_⟩
  obtain rfl:q=0:=by omega
  exact h2
 ·exact fun h=>⟨0,by omega,h,fun j hj=>by omega⟩
def okW (m:Nat) (w:Nat→Rat) (F:Nat→Prop) (t:Tab) (c:Nat):Prop:=F c∧0<rc m w t c
theorem Ks {n m b N' N:Nat} {w:Nat→Rat} {F:Nat→Prop} {rows:List Nat} (hF: ∀c,F c→c<N') (hN:N'≤N) (hB:N'≤b) (hf:(∀c,F c→c<n)∨ ∀i,i<m→i∈rows):rO n m b 1 N' N (fun _=>w) F rows (okW m w F):=
 ⟨fun t c _=>by unfold okW;rw[aEU],hF,hN,hB,hf⟩
theorem xY {n m N K:Nat} {E:Nat→Nat→Rat} {t:Tab} (h:Inv n m (n+m) N K E (List.range m) t) {k:Nat} (hk:0<rc m (cN n m) t k):leave t (n+m) k (List.range m)≠none:=by
 intro hl
 have h1:=(jA t (n+m) k (List.range m)).1 hl
 have h2:0≤S m fun i=>t.X i k*cN n m (t.bs i):=gS fun i hi=>by
  have:=h1 i (by simpa using hi)
  unfold cN;split<;>grind
 have h3:cN n m k≤0:=by unfold cN;split<;>decide
 unfold rc at hk
 grind
structure mD (n m N K : Nat) (E : Nat → Nat → Rat) (t : Tab) : Prop where
 inv:Inv n m (n+m) N K E (List.range m) t
 up: ∀c,c<n→rc m (cN n m) t c≤0
theorem mD.sum {n m N K:Nat} {E:Nat→Nat→Rat} {t:Tab} (h:mD n m N K E t):0≤rc m (cN n m) t (n+m):=by
 rw[sW rfl]
 exact gS fun i hi=>by
  split
  ·exact h.inv.nn i hi
  ·exact Rat.le_refl
theorem mD.no {n m N K:Nat} {E:Nat→Nat→Rat} {t:Tab} (h:mD n m N K E t) (hp:rc m (cN n m) t (n+m)≠0) (x:Nat→Rat): ¬ hH n m E (n+m) x:=
 Cl rfl h.inv.z.ti h.inv.nn h.up (by have:=h.sum;grind) x
theorem mD.zero {n m N K:Nat} {E:Nat→Nat→Rat} {t:Tab} (h:mD n m N K E t) (hp:rc m (cN n m) t (n+m)=0): ∀i,i<m→ ¬ t.bs i<n→t.X i (n+m)=0:=Jf rfl h.inv.nn hp h.inv.lt
theorem mD.Fm {n m N K:Nat} {E:Nat→Nat→Rat} {t:Tab} (h:mD n m N K E t) (hp:rc m (cN n m) t (n+m)=0):hH n m E (n+m) (xb m (n+m) t):=uE h.inv.z.ti h.inv.nn (h.zero hp)
theorem uV {n m N' K:Nat} {E:Nat→Nat→Rat} {F:Nat→Prop} (h:Init n m K E) (hF: ∀c,F c→c<N') (hN:N'≤n+m) (hFn: ∀c,c<n→c<N'∧F c):
  ∃e,fstP (okW m (cN n m) F (orb (nx N' (n+m) (List.range m) (okW m (cN n m) F)) (lW n E) e)) N'=none∧
   (∀e',e'<e→(nx N' (n+m) (List.range m) (okW m (cN n m) F) (orb (nx N' (n+m) (List.range m) (okW m (cN n m) F)) (lW n E) e')).isSome=true)∧
   (∀e',e'≤e→Inv n m (n+m) (n+m+1) K E (List.range m) (orb (nx N' (n+m) (List.range m) (okW m (cN n m) F)) (lW n E) e'))∧mD n m (n+m+1) K E (orb (nx N' (n+m) (List.range m) (okW m (cN n m) F)) (lW n E) e):=by
 have R:rO n m (n+m) 1 N' (n+m+1) (fun _=>cN n m) F (List.range m) (okW m (cN n m) F):=Ks hF (by omega) hN (.inr fun i hi=>by simpa using hi)
 obtain⟨e,h1,h2,h3⟩:=R.ends h.inv
 have hI:=h3 e (Nat.le_refl _)
 have hf:fstP (okW m (cN n m) F (orb (nx N' (n+m) (List.range m) (okW m (cN n m) F)) (lW n E) e)) N'=none:=by
  rcases Ae h1 with g | ⟨k,g1,g2⟩
  ·exact g
  ·exact absurd g2 (xY hI (dZ.1 g1).2.1.2)
 refine⟨e,hf,h2,h3,hI,fun c hc=> ?_⟩
 have:=eJ.1 hf c (hFn c hc).1
 unfold okW at this
 rcases eO (rc m (cN n m) (orb (nx N' (n+m) (List.range m) (okW m (cN n m) F)) (lW n E) e) c) 0 with g | g
 ·exact g
 ·exact absurd ⟨(hFn c hc).2,g⟩ this
noncomputable def uZ (n : Nat) (t : Tab) (i : Nat) : Tab := if t.bs i < n then t else match fstP (fun k => t.X i k ≠ 0) n with
 | some k => piv t i k
 | none => t
noncomputable def kicks (n : Nat) (t : Tab) : Nat → Tab
 | 0 => t
 | i + 1 => uZ n (kicks n t i) i
structure yN (n m N K : Nat) (E : Nat → Nat → Rat) (i : Nat) (t : Tab) : Prop where
 z:TZ m N K E t
 nn: ∀i,i<m→0≤t.X i (n+m)
 zero: ∀j,j<m→ ¬ t.bs j<n→t.X j (n+m)=0
 done: ∀j,j<i→ ¬ t.bs j<n→ ∀c,c<n→t.X j c=0
 lt: ∀j,j<m→t.bs j<n+m
theorem yN.next {n m N K:Nat} {E:Nat→Nat→Rat} {i:Nat} {t:Tab} (h:yN n m N K E i t) (hi:i<m) (hN:n≤N):yN n m N K E (i+1) (uZ n t i):=by
 unfold uZ
 by_cases hb:t.bs i<n
 ·rw[if_pos hb]
  refine⟨h.z,h.nn,h.zero,fun j hj hn=> ?_,h.lt⟩
  by_cases e:j=i
  ·subst e;exact absurd hb hn
  ·exact h.done j (by omega) hn
 ·rw[if_neg hb]
  have hz:=h.zero i hi hb
  cases hk:fstP (fun k=>t.X i k≠0) n with
  | none =>
    refine⟨h.z,h.nn,h.zero,fun j hj hn c hc=> ?_,h.lt⟩
    by_cases e:j=i
    ·subst e
     have:=eJ.1 hk c hc
     exact Classical.not_not.1 this
    ·exact h.done j (by omega) hn c hc
  | some k =>
    obtain⟨k1,k2,_⟩:=dZ.1 hk
    have aDB: ∀j,j<m→(piv t i k).X j (n+m)=t.X j (n+m):=fun j hj=>by
     by_cases e:j=i
     ·subst e;rw[qK,hz];grind
     ·rw[lU _ _ _ e,hz];grind
    refine⟨h.z.piv hi (by omega) k2,fun j hj=>by rw[aDB j hj];exact h.nn j hj,fun j hj hn=> ?_,fun j hj hn c hc=> ?_,fun j hj=> ?_⟩
    ·rw[aDB j hj]
     by_cases e:j=i
     ·subst e;exact hz
     ·rw[cC _ _ e] at hn;exact h.zero j hj hn
    ·by_cases e:j=i
     ·subst e;rw[dK] at hn;exact absurd k1 hn
     ·rw[cC _ _ e] at hn
      rw[lU _ _ _ e,h.done j (by omega) hn c hc,h.done j (by omega) hn k k1];grind
    ·by_cases e:j=i
     ·subst e;rw[dK];omega
     ·rw[cC _ _ e];exact h.lt j hj
theorem lL {n m N K:Nat} {E:Nat→Nat→Rat} {t:Tab} (h:yN n m N K E 0 t) (hN:n≤N): ∀i,i≤m→yN n m N K E i (kicks n t i)
 | 0, _ => h
 | i + 1, hi => (lL h hN i (by omega)).next (by omega) hN
theorem mD.uZ {n m N K:Nat} {E:Nat→Nat→Rat} {t:Tab} (h:mD n m N K E t) (hp:rc m (cN n m) t (n+m)=0):yN n m N K E 0 t:=⟨h.inv.z,h.inv.nn,h.zero hp,(fun j hj=>by omega),h.inv.lt⟩
def bH (n:Nat) (t:Tab) (i:Nat):List Nat:=(List.range i).filter fun i=>t.bs i<n
theorem qZ {n:Nat} {t:Tab} {i j:Nat} :j∈bH n t i ↔ j<i∧t.bs j<n:=by unfold bH;simp
theorem yN.inv {n m N K:Nat} {E:Nat→Nat→Rat} {t:Tab} (h:yN n m N K E m t):Inv n m (n+m) N K E (bH n t m) t:=
 ⟨h.z,h.nn,fun i hi=>(qZ.1 hi).1,fun i hi hn=>by
   have hb: ¬ t.bs i<n:=fun hb=>hn (qZ.2 ⟨hi,hb⟩)
   exact⟨by omega,h.zero i hi hb,h.done i hi hb⟩,h.lt⟩
def okL (m n:Nat) (C:Nat→Rat) (t:Tab) (c:Nat):Prop:=fW (n+1) fun q=>rc m (wl C q) t c
theorem aB2 {n m b N:Nat} {C:Nat→Rat} {rows:List Nat} (hN:n≤N) (hB:n≤b):rO n m b (n+1) n N (wl C) (fun c=>c<n) rows (okL m n C):=
 ⟨fun t c hc=>by unfold okL;exact⟨fun h=>⟨hc,h⟩,fun h=>h.2⟩,fun c h=>h,hN,hB,.inl fun c h=>h⟩
theorem Inv.zero {n m b N K:Nat} {E:Nat→Nat→Rat} {rows:List Nat} {t:Tab} (h:Inv n m b N K E rows t) (hl: ∀i,i∈rows→t.bs i<n): ∀i,i<m→ ¬ t.bs i<n→t.X i b=0:=fun i hi hb=>(h.dead i hi fun hm=>hb (hl i hm)).2.1
theorem oW {n m b N K:Nat} {E:Nat→Nat→Rat} {rows:List Nat} {t:Tab} (h:Inv n m b N K E rows t) {k:Nat} (hk:k<n) (hl:leave t b k rows=none): ∀i,i<m→t.X i k≤0:=fun i hi=>by
 rcases Classical.em (i∈rows) with g | g
 ·have:=(jA t b k rows).1 hl i g;grind
 ·rw[(h.dead i hi g).2.2 k hk];exact Rat.le_refl
theorem sZ {n m b N K:Nat} {E:Nat→Nat→Rat} {rows:List Nat} {t:Tab} {C:Nat→Rat} (h:Inv n m b N K E rows t) (F6: ∀i,i∈rows→t.bs i<n) {k:Nat} (hk:k<n) (hl:leave t b k rows=none) (hp:0<rc m C t k):Unb n m E b C:=
 Ph h.z.ti hk (oW h hk hl) (fun i hi hb=>(h.dead i hi fun hm=>hb (F6 i hm)).2.2 k hk) hp
theorem tN {n m b N K:Nat} {E:Nat→Nat→Rat} {rows:List Nat} {t:Tab} (h:Inv n m b N K E rows t) {k q:Nat} (C:Nat→Rat) (hk:k<n) (hp:0<rc m (wl C (q+1)) t k):leave t b k rows≠none:=by
 intro hl
 have h1:=oW h hk hl
 have h2:0≤S m fun i=>t.X i k*wl C (q+1) (t.bs i):=gS fun i hi=>by
  have:=h1 i hi
  unfold wl;simp only;split<;>grind
 have h3:wl C (q+1) k≤0:=by unfold wl;simp only;split<;>decide
 unfold rc at hp
 grind
theorem X8 {n m b N K:Nat} {E:Nat→Nat→Rat} {rows:List Nat} {t:Tab} {C:Nat→Rat} (h:Inv n m b N K E rows t) (F6: ∀i,i∈rows→t.bs i<n) (he:nx n b rows (okL m n C) t=none):
  (fstP (okL m n C t) n=none∧qF n m E b C (xb m b t))∨((∃k,fstP (okL m n C t) n=some k∧leave t b k rows=none)∧Unb n m E b C):=by
 rcases Ae he with g | ⟨k,g1,g2⟩
 ·exact .inl ⟨g,Jp h.z.ti h.nn (h.zero F6) fun c hc=>eJ.1 g c hc⟩
 ·obtain⟨k1,⟨q,q1,q2,q3⟩,_⟩:=dZ.1 g1
  refine .inr ⟨⟨k,g1,g2⟩,sZ h F6 k1 g2 ?_⟩
  cases q with
  | zero => exact q2
  | succ q => exact absurd g2 (tN h C k1 q2)
structure Sel (n m b : Nat) (E : Nat → Nat → Rat) (C : Nat → Rat) (q : Nat) (F : Nat → Prop) : Prop where
 Jw: ∀x y,hH n m E b x→hH n m E b y→yC n F x→ ¬ fW q fun q=>dot n (wl C q) y - dot n (wl C q) x
 same: ∀x y,hH n m E b x→hH n m E b y→yC n F x→(yC n F y ↔ xP q fun q=>dot n (wl C q) y - dot n (wl C q) x)
theorem Sel.start {n m b:Nat} {E:Nat→Nat→Rat} {C:Nat→Rat} {F:Nat→Prop} (hF: ∀c,c<n→F c):Sel n m b E C 0 F:=
 ⟨fun x y _ _ _ ⟨q,hq,_⟩=>by omega,fun x y _ _ _=>⟨fun _ q hq=>by omega,fun _ c hc hn=>absurd (hF c hc) hn⟩⟩
theorem Sel.next {n m b:Nat} {E:Nat→Nat→Rat} {C:Nat→Rat} {q:Nat} {F F':Nat→Prop} {t:Tab} (h:Sel n m b E C q F) (hr:Round n m b E (wl C q) F F' t):Sel n m b E C (q+1) F':=by
 have mK: ∀x,yC n F' x→yC n F x:=fun x ho c hc hn=>ho c hc fun hF'=>hn ((hr.gL c hc).1 hF').1
 refine⟨fun x y hx hy ho hp=> ?_,fun x y hx hy ho=> ?_⟩
 ·obtain⟨p,p1,p2,p3⟩:=hp
  have hox:=mK x ho
  by_cases e:p=q
  ·subst e
   have hyo:=(h.same x y hx hy hox).2 fun j hj=>p3 j hj
   have h1:=(mO hr hx hox).2.2 ho
   have h2:=(mO hr hy hyo).1
   simp only at p2
   grind
  ·exact h.Jw x y hx hy hox ⟨p,by omega,p2,p3⟩
 ·have hox:=mK x ho
  have h1:=(mO hr hx hox).2.2 ho
  constructor
  ·intro hoy j hj
   have aBM:=mK y hoy
   by_cases e:j=q
   ·subst e
    have h2:=(mO hr hy aBM).2.2 hoy
    simp only;grind
   ·exact(h.same x y hx hy hox).1 aBM j (by omega)
  ·intro hz
   have hyo:=(h.same x y hx hy hox).2 fun j hj=>hz j (by omega)
   have:=hz q (by omega)
   simp only at this
   exact(mO hr hy hyo).2.1 (by grind)
theorem Sel.done {n m b:Nat} {E:Nat→Nat→Rat} {C x:Nat→Rat} {F:Nat→Prop} (h:Sel n m b E C (n+1) F) (hx:hH n m E b x) (ho:yC n F x):qF n m E b C x:=⟨hx,fun y hy=>h.Jw x y hx hy ho⟩
def Fn (m:Nat) (w:Nat→Rat) (F:Nat→Prop) (t:Tab) (c:Nat):Prop:=F c∧rc m w t c=0
theorem Dp {n m b N K N':Nat} {E:Nat→Nat→Rat} {rows:List Nat} {t:Tab} {w:Nat→Rat} {F:Nat→Prop} (h:Inv n m b N K E rows t) (F6: ∀i,i∈rows→t.bs i<n) (Ic: ∀i,i∈rows→F (t.bs i)) (hN:n≤N') (hf:fstP (okW m w F t) N'=none):Round n m b E w F (Fn m w F t) t:=
 ⟨h.z.ti,h.nn,h.zero F6,fun i hi hb=>by
   rcases Classical.em (i∈rows) with g | g
   ·exact Ic i g
   ·have:=(h.dead i hi g).1;omega,fun c hc hF=>by
   have:=eJ.1 hf c (by omega)
   unfold okW at this
   rcases eO (rc m w t c) 0 with g | g
   ·exact g
   ·exact absurd ⟨hF,g⟩ this,fun c hc=>Iff.rfl⟩
structure Mid (n m K : Nat) (E : Nat → Nat → Rat) (rows : List Nat) (F : Nat → Prop) (t : Tab) : Prop where
 inv:Inv n m (n+m) (n+m+1) K E rows t
 low: ∀i,i∈rows→t.bs i<n
 bas: ∀i,i∈rows→F (t.bs i)
 lt: ∀c,F c→c<n
theorem Mid.step {n m K:Nat} {E:Nat→Nat→Rat} {rows:List Nat} {F:Nat→Prop} {t:Tab} {w:Nat→Rat} (h:Mid n m K E rows F t) {r k:Nat} (hs:nx (n+m) (n+m) rows (okW m w F) t=some (r,k)):Mid n m K E rows F (piv t r k):=by
 obtain⟨g1,g2⟩:=oD.1 hs
 have R:rO n m (n+m) 1 (n+m) (n+m+1) (fun _=>w) F rows (okW m w F):=Ks (fun c hc=>by have:=h.lt c hc;omega) (by omega) (Nat.le_refl _) (.inl h.lt)
 have h1:=(R.step h.inv g1 g2).2.1
 have hF:=(dZ.1 g1).2.1.1
 refine⟨h1,fun i hi=> ?_,fun i hi=> ?_,h.lt⟩
 ·by_cases e:i=r
  ·rw[e,dK];exact h.lt k hF
  ·rw[cC _ _ e];exact h.low i hi
 ·by_cases e:i=r
  ·rw[e,dK];exact hF
  ·rw[cC _ _ e];exact h.bas i hi
theorem Mid.ends {n m K:Nat} {E:Nat→Nat→Rat} {rows:List Nat} {F:Nat→Prop} {t:Tab} (w:Nat→Rat) (h:Mid n m K E rows F t):
  ∃e,nx (n+m) (n+m) rows (okW m w F) (orb (nx (n+m) (n+m) rows (okW m w F)) t e)=none∧
   (∀e',e'<e→(nx (n+m) (n+m) rows (okW m w F) (orb (nx (n+m) (n+m) rows (okW m w F)) t e')).isSome=true)∧
   ∀e',e'≤e→Mid n m K E rows F (orb (nx (n+m) (n+m) rows (okW m w F)) t e'):=by
 have R:rO n m (n+m) 1 (n+m) (n+m+1) (fun _=>w) F rows (okW m w F):=Ks (fun c hc=>by have:=h.lt c hc;omega) (by omega) (Nat.le_refl _) (.inl h.lt)
 obtain⟨e,h1,h2,h3⟩:=R.ends h.inv
 refine⟨e,h1,h2,fun e' he'=> ?_⟩
 induction e' with
 | zero => exact h
 | succ e' ih =>
   have hm:=ih (by omega)
   rw[orb]
   cases hs:nx (n+m) (n+m) rows (okW m w F) (orb (nx (n+m) (n+m) rows (okW m w F)) t e') with
   | none=>exact hm
   | some p=>exact hm.step hs
theorem Mid.next {n m K:Nat} {E:Nat→Nat→Rat} {rows:List Nat} {F:Nat→Prop} {t:Tab} {w:Nat→Rat} (h:Mid n m K E rows F t):Mid n m K E rows (Fn m w F t) t:=
 ⟨h.inv,h.low,fun i hi=>⟨h.bas i hi,mR h.inv.z.ti _ (h.inv.sub i hi)⟩,fun c hc=>h.lt c hc.1⟩
theorem Mid.Fm {n m K:Nat} {E:Nat→Nat→Rat} {rows:List Nat} {F:Nat→Prop} {t:Tab} (h:Mid n m K E rows F t):hH n m E (n+m) (xb m (n+m) t)∧yC n F (xb m (n+m) t):=by
 refine⟨uE h.inv.z.ti h.inv.nn (h.inv.zero h.low),fun c hc hn=> ?_⟩
 refine fV fun i hi=> ?_
 split
 ·rename_i e
  rcases Classical.em (i∈rows) with g | g
  ·exact absurd (e▸h.bas i g) hn
  ·exact(h.inv.dead i hi g).2.1
 ·rfl
end Go.Proofs.YticmgmemnpcbbaaGreat.Lp

namespace Go.Proofs.YticmgmemnpcbbaaGreat.Lp
set_option linter.unusedSimpArgs false
set_option linter.unusedVariables false
def sm (L:Nat) (q:Rat):Prop:= ∃a v:Int,v≠0∧q*v=a∧a.natAbs≤L∧v.natAbs≤L
theorem Jo {q:Rat} {a v:Int} (h:q*v=a):q.num*v=a*q.den:=by
 have h1:q*(q.den:Rat)=q.num:=by
  have h2:=Rat.mkRat_self q
  rw[Rat.mkRat_eq_div] at h2
  have h3:(q.den:Rat)≠0:=fun h=>q.den_nz (Rat.natCast_inj.1 h)
  grind
 have h2:((q.num*v:Int):Rat)=((a*q.den:Int):Rat):=by
  rw[Rat.intCast_mul,Rat.intCast_mul,←h,←h1,Rat.intCast_natCast]
  grind
 exact Rat.intCast_inj.1 h2
theorem vX {L:Nat} {q:Rat} (h:sm L q):q.num.natAbs≤L∧q.den≤L:=by
 obtain⟨a,v,hv,he,ha,hvl⟩:=h
 have hc:=congrArg Int.natAbs (Jo he)
 rw[Int.natAbs_mul,Int.natAbs_mul,Int.natAbs_natCast] at hc
 have hco:=q.reduced
 have hv0:0<v.natAbs:=Int.natAbs_pos.2 hv
 have h1:q.den∣v.natAbs:=by
  refine Nat.Coprime.dvd_of_dvd_mul_left (Nat.Coprime.symm hco) ⟨a.natAbs,?_⟩
  rw[hc,Nat.mul_comm]
 have h2:=Nat.le_of_dvd hv0 h1
 refine⟨?_,by omega⟩
 by_cases h0:a.natAbs=0
 ·rw[h0,Nat.zero_mul] at hc
  rcases Nat.mul_eq_zero.1 hc with g | g
  ·omega
  ·omega
 ·have h3:q.num.natAbs∣a.natAbs:=Nat.Coprime.dvd_of_dvd_mul_right hco ⟨v.natAbs,hc.symm⟩
  have:=Nat.le_of_dvd (by omega) h3
  omega
theorem nO {L M:Nat} {q:Rat} (h:sm L q) (hl:L≤M):sm M q:=by
 obtain⟨a,v,h1,h2,h3,h4⟩:=h
 exact⟨a,v,h1,h2,by omega,by omega⟩
theorem Wh {L M:Nat} {p q:Rat} (hp:sm L p) (hq:sm M q):sm (L*M) (p*q):=by
 obtain⟨a,v,h1,h2,h3,h4⟩:=hp
 obtain⟨b,w,g1,g2,g3,g4⟩:=hq
 refine⟨a*b,v*w,by simp[h1,g1],by rw[Rat.intCast_mul,Rat.intCast_mul,←h2,←g2];grind,?_,?_⟩
 ·rw[Int.natAbs_mul];exact Nat.mul_le_mul h3 g3
 ·rw[Int.natAbs_mul];exact Nat.mul_le_mul h4 g4
theorem Wb {L:Nat} {n:Int} (h:n.natAbs≤L) (hL:1≤L):sm L (n:Rat):=⟨n,1,by decide,by simp,h,by simpa using hL⟩
theorem nI {z:Int} {q:Rat} {L:Nat} (h:q=z) (hq: -(L:Rat)≤q∧q≤L):z.natAbs≤L:=by
 rw[h] at hq
 have h1: -(L:Int)≤z:=by
  have:=hq.1
  rw[←Rat.intCast_natCast,←Rat.intCast_neg] at this
  exact Rat.intCast_le_intCast.1 this
 have h2:z≤(L:Int):=by
  have:=hq.2
  rw[←Rat.intCast_natCast] at this
  exact Rat.intCast_le_intCast.1 this
 omega
theorem TZ.sm {m N K:Nat} {E:Nat→Nat→Rat} {t:Tab} (h:TZ m N K E t) {i c:Nat} (hi:i<m) (hc:c<N):Lp.sm (lid K m) (t.X i c):=by
 obtain⟨⟨a,ha⟩,hal⟩:=h.entry hi hc
 obtain⟨⟨v,hv⟩,hvl⟩:=h.nK
 have hne:=h.vol
 refine⟨a,v,fun e=>hne (by rw[hv,e];rfl),by rw[←hv,ha],nI ha hal,nI hv hvl⟩
theorem TZ.rc {m N K W:Nat} {E:Nat→Nat→Rat} {t:Tab} (h:TZ m N K E t) {w:Nat→Rat} (hw: ∀c,c<N→isInt (w c)∧ -(W:Rat)≤w c∧w c≤W) {c:Nat} (hc:c<N) (hW:1≤W):Lp.sm ((m+1)*(W*lid K m)) (Lp.rc m w t c):=by
 obtain⟨hvi,hvl⟩:=h.nK
 obtain⟨v,hv⟩:=hvi
 have hne:=h.vol
 have e:Lp.rc m w t c*Lp.vol m E t=w c*Lp.vol m E t - S m fun i=>w (t.bs i)*(t.X i c*Lp.vol m E t):=by
  unfold Lp.rc
  rw[show(S m fun i=>w (t.bs i)*(t.X i c*Lp.vol m E t))=(S m fun i=>t.X i c*w (t.bs i))*Lp.vol m E t by rw[←kY];exact aR fun i _=>by grind]
  grind
 have hint:isInt (Lp.rc m w t c*Lp.vol m E t):=by
  rw[e]
  exact Cw (nJ (hw c hc).1 h.nK.1) (E3 fun i hi=>nJ (hw _ (h.bs i hi)).1 (h.entry hi hc).1)
 have b1:=C9 (hw c hc).2 hvl
 have b2:=Jb (n:=m) (f:=fun i=>w (t.bs i)*(t.X i c*Lp.vol m E t)) (B:=(W:Rat)*lid K m) fun i hi=>C9 (hw _ (h.bs i hi)).2 (h.entry hi hc).2
 have hB:(((m+1)*(W*lid K m):Nat):Rat)=(m:Rat)*((W:Rat)*lid K m)+(W:Rat)*lid K m:=by
  rw[Rat.natCast_mul,Rat.natCast_mul,Rat.natCast_add]
  grind
 obtain⟨a,ha⟩:=hint
 refine⟨a,v,fun e0=>hne (by rw[hv,e0];rfl),by rw[←hv,ha],nI ha ?_,?_⟩
 ·rw[hB,e]
  grind
 ·have h1:=nI hv hvl
  have:lid K m≤(m+1)*(W*lid K m):=by
   calc lid K m=1*(1*lid K m):=by omega
    _≤(m+1)*(W*lid K m):=Nat.mul_le_mul (by omega) (Nat.mul_le_mul hW (Nat.le_refl _))
  omega
theorem K3 {K:Nat} (hK:1≤K): ∀ {m k:Nat},m≤k→lid K m≤lid K k
 | m, 0, h => by rw [show m = 0 by omega]; exact Nat.le_refl _
 | m, k + 1, h => by
   by_cases e:m=k+1
   ·rw[e];exact Nat.le_refl _
   ·have ih:=K3 hK (m:=m) (k:=k) (by omega)
    have:1*(1*lid K k)≤(k+1)*(K*lid K k):=Nat.mul_le_mul (by omega) (Nat.mul_le_mul hK (Nat.le_refl _))
    rw[lid];omega
def top :Nat:=lid 1000 17
theorem Tb :top≤10^66:=by decide+kernel
theorem nL {m:Nat} (h:m≤17):lid 1000 m≤10^66:=Nat.le_trans (K3 (by omega) h) Tb
end Go.Proofs.YticmgmemnpcbbaaGreat.Lp

namespace Go.Proofs.YticmgmemnpcbbaaGreat.Vm
open Go Go.RowKit Go.Proofs
set_option linter.unusedSimpArgs false
set_option linter.unusedVariables false
theorem U8 (x y q:Int) (h:x=q*y) (hy:0<y) (hx:(lim x.natAbs).length≤300000) (hyl:(lim y.natAbs).length≤300000):RO Tryz.prog 282 [.agg (biC x),.agg (biC y)] (.agg (biC q)):=by
 have hq:sg (decide (x<0) !=decide (y<0)) (x.natAbs / y.natAbs)=q:=by
  have e1:x.natAbs=q.natAbs*y.natAbs:=by rw[h,Int.natAbs_mul]
  have e2:x.natAbs / y.natAbs=q.natAbs:=by rw[e1];exact Nat.mul_div_cancel _ (by omega)
  have e3:decide (y<0)=false:=decide_eq_false (by omega)
  have e4:decide (x<0)=decide (q<0):=decide_eq_decide.2 (by
   rw[h]
   constructor
   ·intro hh
    rcases Int.lt_or_le q 0 with g | g
    ·exact g
    ·have:=Int.mul_nonneg g (Int.le_of_lt hy);omega
   ·intro hh;exact Int.mul_neg_of_neg_of_pos hh hy)
  rw[e2,e3,e4,Bool.bne_false]
  exact Bc q
 refine aI Tryz.func282 rfl rfl (by rw[Tryz.ntmps282];simp) fun bl=> ?_
 rw[Tryz.ntmps282,Tryz.results282]
 refine aE ?_
 rw[show biC x= [.bool (decide (x<0)),.sl (iv (lim x.natAbs))] from rfl,show biC y= [.bool (decide (y<0)),.sl (iv (lim y.natAbs))] from rfl]
 simp
 intro g hg0 hg g2 hg2 h2g hb2 g3 hg3 h32 h3g hb3
 refine aE ?_
 simp[h2g,Ne.symm h2g,h32,Ne.symm h32,h3g,Ne.symm h3g]
 refine aD (uF _ _ (by omega) hx hyl) ?_
 simp[h2g,Ne.symm h2g,h32,Ne.symm h32,h3g,Ne.symm h3g]
 refine aE ?_
 simp[h2g,Ne.symm h2g,h32,Ne.symm h32,h3g,Ne.symm h3g]
 refine aD (eK _ _) ?_
 simp[h2g,Ne.symm h2g,h32,Ne.symm h32,h3g,Ne.symm h3g]
 rw[hq]
 refine aC ?_
 simp[h2g,Ne.symm h2g,h32,Ne.symm h32,h3g,Ne.symm h3g]
 exact aN [.agg (biC q)] 1 (by simp[biC,h2g,Ne.symm h2g,h32,Ne.symm h32,h3g,Ne.symm h3g]) lI (by simp[hg,hb2,hb3])

@[simp] theorem Xn (x y : Int) : splice (biC x) 0 (biC y) = biC y := by simp [splice, biC]
@[simp] theorem aCG (x : Int) : (biC x).take 2 = biC x := rfl
def zv (n:Nat) (f:Nat→Int):List (List V):=(List.range n).map fun c=>biC (f c)
@[simp] theorem aAM (n : Nat) (f : Nat → Int) : (zv n f).length = n := by simp [zv]
@[simp] theorem E4 (n : Nat) (f : Nat → Int) (c : Nat) (h : c < (zv n f).length) : (zv n f)[c] = biC (f c) := by simp [zv]
theorem aB3 (n:Nat) (f:Nat→Int):(zv n f).all (fun e=>e.all V.cl)=true:=by simp[zv,Is]
def zzv (r n:Nat) (Z:Nat→Nat→Int):List (List V):=(List.range r).map fun i=> [.sl (zv n (Z i))]
@[simp] theorem Ts (r n : Nat) (Z : Nat → Nat → Int) : (zzv r n Z).length = r := by simp [zzv]
@[simp] theorem Ep (r n : Nat) (Z : Nat → Nat → Int) (i : Nat) (h : i < (zzv r n Z).length) : (zzv r n Z)[i] = [.sl (zv n (Z i))] := by simp [zzv]
def lb (r:Nat) (bs:Nat→Nat):List Int:=(List.range r).map fun i=>(bs i:Int)
@[simp] theorem Eb (r : Nat) (bs : Nat → Nat) : (lb r bs).length = r := by simp [lb]
@[simp] theorem uL (r : Nat) (bs : Nat → Nat) (i : Nat) (h : i < (lb r bs).length) : (lb r bs)[i] = (bs i : Int) := by simp [lb]
def lv (n:Nat) (f:Nat→Bool):List (List V):=(List.range n).map fun c=> [.bool (f c)]
@[simp] theorem Zu (n : Nat) (f : Nat → Bool) : (lv n f).length = n := by simp [lv]
@[simp] theorem Nj (n : Nat) (f : Nat → Bool) (c : Nat) (h : c < (lv n f).length) : (lv n f)[c] = [.bool (f c)] := by simp [lv]
theorem aGJ (n:Nat) (f:Nat→Bool):(lv n f).all (fun e=>e.all V.cl)=true:=by simp[lv,V.cl]
def jO (r n:Nat) (Z:Nat→Nat→Int) (d:Int) (bs:Nat→Nat) (fr:Nat→Bool):List V:=
 [.sl (zzv r (n+1) Z),.bool (decide (d<0)),.sl (iv (lim d.natAbs)),.sl (iv (lb r bs)),.int .i64 n,.sl (lv n fr)]
def lz (n:Nat) (f:Nat→Int):List Int:=(List.range n).map f
@[simp] theorem aAA (n : Nat) (f : Nat → Int) : (lz n f).length = n := by simp [lz]
@[simp] theorem uB (n : Nat) (f : Nat → Int) (c : Nat) (h : c < (lz n f).length) : (lz n f)[c] = f c := by simp [lz]
@[irreducible] def fC : Nat := 10 ^ 66
@[irreducible] def wP : Nat := 10 ^ 200
theorem Z9 :wP<LB^24:=by unfold wP;decide+kernel
theorem Ix :fC*fC≤wP:=by unfold wP fC;decide+kernel
theorem Ir :41*(fC*1000)≤wP:=by unfold wP fC;decide+kernel
theorem Hm :fC≤wP:=by unfold wP fC;decide+kernel
theorem zT :1000≤fC:=by unfold fC;decide+kernel
def rJ (x:Int):Prop:=x.natAbs≤wP
theorem cR {x:Int} (h:rJ x):(lim x.natAbs).length≤24:=aF.2 (Nat.lt_of_le_of_lt h Z9)
structure ZB (r n : Nat) (Z : Nat → Nat → Int) (d : Int) : Prop where
 z: ∀i c,i<r→c≤n→(Z i c).natAbs≤fC
 dl:d.natAbs≤fC
 d0:0<d
 rl:r≤40
 nl:n≤100
def gTo (Z:Nat→Nat→Int) (d:Int) (bs:Nat→Nat) (O:Nat→Int) (k:Nat):Nat→Int
 | 0 => d * O k
 | i + 1 => if O (bs i) ≠ 0 ∧ Z i k ≠ 0 then gTo Z d bs O k i - Z i k * O (bs i) else gTo Z d bs O k i
theorem Jc {r n:Nat} {Z:Nat→Nat→Int} {d:Int} {bs:Nat→Nat} {O:Nat→Int} {k:Nat} (h:ZB r n Z d) (hO: ∀c,(O c).natAbs≤1000) (hk:k≤n): ∀i,i≤r→(gTo Z d bs O k i).natAbs≤(i+1)*(fC*1000)
 | 0, _ => by
   have h1:(gTo Z d bs O k 0).natAbs=d.natAbs*(O k).natAbs:=Int.natAbs_mul _ _
   have h2:d.natAbs*(O k).natAbs≤fC*1000:=Nat.mul_le_mul h.dl (hO k)
   have h3:(0+1)*(fC*1000)=fC*1000:=by rw[Nat.zero_add,Nat.one_mul]
   rw[h3,h1]
   exact h2
 | i + 1, hi => by
   have ih:=Jc h hO hk (bs:=bs) i (by omega)
   have h1:(Z i k*O (bs i)).natAbs≤fC*1000:=by rw[Int.natAbs_mul];exact Nat.mul_le_mul (h.z i k (by omega) hk) (hO _)
   have e:(i+1+1)*(fC*1000)=(i+1)*(fC*1000)+fC*1000:=by rw[Nat.add_mul (i+1) 1,Nat.one_mul]
   rw[e,gTo]
   split
   ·exact Nat.le_trans (Int.natAbs_sub_le _ _) (Nat.add_le_add ih h1)
   ·exact Nat.le_trans ih (Nat.le_add_right _ _)
theorem V3 {r n:Nat} {Z:Nat→Nat→Int} {d:Int} {bs:Nat→Nat} {O:Nat→Int} {k:Nat} (h:ZB r n Z d) (hO: ∀c,(O c).natAbs≤1000) (hk:k≤n) (i:Nat) (hi:i≤r):rJ (gTo Z d bs O k i):=by
 have h1:=Jc h hO hk (bs:=bs) i hi
 have h2:(i+1)*(fC*1000)≤41*(fC*1000):=Nat.mul_le_mul_right _ (by have:=h.rl;omega)
 exact Nat.le_trans h1 (Nat.le_trans h2 Ir)
theorem iB {a b:Int} (ha:a.natAbs≤fC) (hb:b.natAbs≤fC):rJ (a*b):=by
 unfold rJ
 rw[Int.natAbs_mul]
 exact Nat.le_trans (Nat.mul_le_mul ha hb) Ix
theorem iA {a:Int} (ha:a.natAbs≤fC):rJ a:=Nat.le_trans ha Hm
theorem Gb {a:Int} (ha:a.natAbs≤1000):rJ a:=iA (Nat.le_trans ha zT)
theorem Nt (r n:Nat) (Z:Nat→Nat→Int) (d:Int) (bs:Nat→Nat) (fr:Nat→Bool) (O:Nat→Int) (k:Nat) (h:ZB r n Z d) (hO: ∀c,(O c).natAbs≤1000) (hk:k<n) (hb: ∀i,i<r→bs i<n):
  RO Tryz.prog 256 [.ptr (jO r n Z d bs fr),.sl (iv (lz n O)),.int .i64 k] (.int .i64 (gTo Z d bs O k r).sign):=by
 have hr:=h.rl
 have hn:=h.nl
 have hint: ∀c,RO Tryz.prog 160 [.int .i64 (O c)] (.agg (biC (O c))):=fun c=>pS _ (by have:=hO c;omega)
 have hOl: ∀c,(lim (O c).natAbs).length≤400000:=fun c=>Nat.le_trans (cR (Gb (hO c))) (by omega)
 have hdl:(lim d.natAbs).length≤400000:=Nat.le_trans (cR (iA h.dl)) (by omega)
 have hgl: ∀i,i≤r→(lim (gTo Z d bs O k i).natAbs).length≤24:=fun i hi=>cR (V3 h hO (by omega) i hi)
 have hT:=iZ d (O k) hdl (hOl k)
 rw[show biC d= [.bool (decide (d<0)),.sl (iv (lim d.natAbs))] from rfl] at hT
 refine aI Tryz.func256 rfl rfl (by rw[Tryz.ntmps256];simp) fun bl=> ?_
 rw[Tryz.ntmps256,Tryz.results256]
 refine aC ?_
 simp
 refine bY aQ bl (Sub.refl _) [0,1,2,3,4,5,6,7,8,9] 2 (by kernel_rfl) ?_
 simp[jO,hk]
 refine aO (hint k) ?_
 simp
 refine aO hT ?_
 simp
 refine Dz 10 ?_
 simp
 intro g7 hg7 hb7
 refine⟨by simp[hb7],Dz 11 ?_⟩
 simp
 refine⟨by simp[hb7],Dy ?_⟩
 simp
 refine aC ?_
 simp
 refine aK (fun i:Nat=> [(0,.ptr (jO r n Z d bs fr)),(1,.sl (iv (lz n O))),(2,.int .i64 k),(7,.loc g7 2 0 0),(23,.sl (iv (lb r bs))),(24,.int .i64 r),(25,.int .i64 i)]) (fun i=>upd bl g7 (some ⟨2,[biC (gTo Z d bs O k i)]⟩)) (fun i=>i≤r) (fun i=>r - i) _ 0 (Nat.zero_le _) ⟨rfl,by simp[jO],by rw[gTo];exact sub_eq rfl⟩ ?_
 intro i hi
 have wi:IntKind.i64.wrap ((i:Int)+1)=(i:Int)+1:=i64_in (by omega) (by omega)
 refine aE ?_
 simp
 refine aE ?_
 simp
 refine⟨fun hlt=> ?_,fun hlt=> ?_⟩
 ·have hbi:=hb i hlt
  have hS:=jS (Z i k)
  refine cK (cD ?_)
  refine aE ?_
  simp[hlt]
  refine aE ?_
  simp
  refine aV [(0,.ptr (jO r n Z d bs fr)),(1,.sl (iv (lz n O))),(2,.int .i64 k),(7,.loc g7 2 0 0),(8,.int .i64 i),(9,.int .i64 (bs i)),(23,.sl (iv (lb r bs))),(24,.int .i64 r),(25,.int .i64 i)] _ (upd bl g7 (some ⟨2,[biC (gTo Z d bs O k i)]⟩)) 48 (.bool (decide (O (bs i)≠0∧Z i k≠0))) ⟨rfl,by simp,Sub.refl _⟩ rfl ?_ ?_
  ·by_cases h0:O (bs i)=0
   ·simp[hbi,h0]
   ·simp[hbi,jO,hlt,show k<n+1 by omega,h0]
    refine aD hS ?_
    simp[Int.sign_eq_zero_iff_zero]
    by_cases h1:Z i k=0<;>simp[h1]
  have hTi:=iZ (Z i k) (O (bs i)) (Nat.le_trans (cR (iA (h.z i k hlt (by omega)))) (by omega)) (hOl _)
  have hP:(lim (Z i k*O (bs i)).natAbs).length≤24:=cR (iB (h.z i k hlt (by omega)) (Nat.le_trans (hO _) zT))
  have hM:=sV (gTo Z d bs O k i) (Z i k*O (bs i)) (Nat.le_trans (hgl i hi) (by omega)) (Nat.le_trans hP (by omega))
  simp
  refine aC ?_
  simp
  refine⟨fun h0 h1=> ?_,fun hno=> ?_⟩
  ·refine cL aQ [0,1,2,3,4,5,6,7,8,9,10,11,12,13,14,15,16,17] 1 18 (by kernel_rfl) ?_
   simp[hbi,jO,hlt,show k<n+1 by omega]
   refine aO (hint _) ?_
   simp
   refine aO hTi ?_
   simp
   refine aO hM ?_
   simp
   refine bX (i:=18) (by kernel_rfl) rfl rfl rfl ?_
   simp
   refine Dy ?_
   simp
   refine aC ?_
   simp[wi,aB]
   exact⟨i+1,by omega,by omega,rfl,by simp[jO],sub_eq (by rw[gTo,if_pos ⟨h0,h1⟩])⟩
  ·refine aC ?_
   simp[wi,aB]
   refine⟨i+1,by omega,by omega,rfl,by simp,sub_eq (by rw[gTo,if_neg];simpa using hno)⟩
 ·have hir:i=r:=by omega
  subst hir
  simp
  refine aD (jS _) ?_
  simp
  exact aN [.int .i64 (gTo Z d bs O k i).sign] 0 (by simp) (by simp[frz]) (by simp[hb7])

def lvZ (Z:Nat→Nat→Int) (n k:Nat) (bs:Nat→Nat):Nat→Option Nat
 | 0 => none
 | i + 1 => if Z i k ≤ 0 then lvZ Z n k bs i else match lvZ Z n k bs i with
   | none=>some i
   | some j=>if Z i n*Z j k<Z j n*Z i k∨Z i n*Z j k=Z j n*Z i k∧bs i<bs j then some i else some j
theorem vU {Z:Nat→Nat→Int} {n k:Nat} {bs:Nat→Nat} : ∀ {i j:Nat},lvZ Z n k bs i=some j→j<i
 | 0, _, h => by cases h
 | i + 1, j, h => by
   rw[lvZ] at h
   split at h
   ·have:=vU h;omega
   ·cases hb:lvZ Z n k bs i with
    | none => rw [hb] at h; cases h; omega
    | some j' =>
      rw[hb] at h
      simp only at h
      split at h
      ·cases h;omega
      ·cases h;have:=vU hb;omega
def oI :Option Nat→Int
 | none => -1
 | some j => j
theorem V4 (r n:Nat) (Z:Nat→Nat→Int) (d:Int) (bs:Nat→Nat) (fr:Nat→Bool) (k:Nat) (h:ZB r n Z d) (hk:k<n):
  RO Tryz.prog 257 [.ptr (jO r n Z d bs fr),.int .i64 k] (.int .i64 (oI (lvZ Z n k bs r))):=by
 have hr:=h.rl
 have hn:=h.nl
 have hl: ∀i c,i<r→c≤n→(lim (Z i c).natAbs).length≤400000:=fun i c hi hc=>Nat.le_trans (cR (iA (h.z i c hi hc))) (by omega)
 have hT: ∀i c j c',i<r→c≤n→j<r→c'≤n→RO Tryz.prog 231 [.agg (biC (Z i c)),.agg (biC (Z j c'))] (.agg (biC (Z i c*Z j c'))):=fun i c j c' h1 h2 h3 h4=>iZ _ _ (hl i c h1 h2) (hl j c' h3 h4)
 have hP: ∀i c j c',i<r→c≤n→j<r→c'≤n→(lim (Z i c*Z j c').natAbs).length≤1048576:=fun i c j c' h1 h2 h3 h4=>Nat.le_trans (cR (iB (h.z i c h1 h2) (h.z j c' h3 h4))) (by omega)
 refine aI Tryz.func257 rfl rfl (by rw[Tryz.ntmps257];simp) fun bl=> ?_
 rw[Tryz.ntmps257,Tryz.results257]
 refine aE ?_
 simp
 refine aE ?_
 simp
 refine aE ?_
 simp[jO]
 refine aK (fun i:Nat=> [(0,.ptr (jO r n Z d bs fr)),(1,.int .i64 k),(5,.int .i64 (oI (lvZ Z n k bs i))),(12,.sl (zzv r (n+1) Z)),(13,.int .i64 r),(14,.int .i64 i)]) (fun i=>bl) (fun i=>i≤r) (fun i=>r - i) _ 0 (Nat.zero_le _) ⟨rfl,by simp[jO,lvZ,oI],Sub.refl _⟩ ?_
 intro i hi
 have wi:IntKind.i64.wrap ((i:Int)+1)=(i:Int)+1:=i64_in (by omega) (by omega)
 refine aE ?_
 simp
 refine aE ?_
 simp
 refine⟨fun hlt=> ?_,fun hlt=> ?_⟩
 ·refine cK (cD ?_)
  refine aE ?_
  simp[hlt]
  refine aE ?_
  simp[show k<n+1 by omega]
  refine aD (jS _) ?_
  simp
  refine⟨fun hle=> ?_,fun hgt=> ?_⟩
  ·refine aC ?_
   simp[wi,aB]
   have e:lvZ Z n k bs (i+1)=lvZ Z n k bs i:=by rw[lvZ,if_pos hle]
   exact⟨i+1,by omega,by omega,rfl,by simp[e],Sub.refl _⟩
  ·have hng: ¬ Z i k≤0:=by omega
   cases hb:lvZ Z n k bs i with
   | none =>
     have e:lvZ Z n k bs (i+1)=some i:=by rw[lvZ,if_neg hng,hb]
     refine aC ?_
     simp[oI]
     refine aC ?_
     simp[wi,aB]
     exact⟨i+1,by omega,by omega,rfl,by simp[e,oI],Sub.refl _⟩
   | some j =>
     have hj:=vU hb
     have e:lvZ Z n k bs (i+1)=if Z i n*Z j k<Z j n*Z i k∨Z i n*Z j k=Z j n*Z i k∧bs i<bs j then some i else some j:=by rw[lvZ,if_neg hng,hb]
     have cQ: ¬ (j:Int)<0:=by omega
     have hC:=P3 (Z i n*Z j k) (Z j n*Z i k) (hP i n j k hlt (by omega) (by omega) (by omega)) (hP j n i k (by omega) (by omega) hlt (by omega))
     refine aE ?_
     simp[oI,cQ]
     refine aE ?_
     simp
     refine bQ aQ (by kernel_rfl) ?_
     simp[jO,hlt,show j<r by omega,show k<n+1 by omega]
     refine aO (hT i n j k hlt (by omega) (by omega) (by omega)) ?_
     simp[jO,hlt,show j<r by omega,show k<n+1 by omega]
     refine aO (hT j n i k (by omega) (by omega) hlt (by omega)) ?_
     simp
     refine aO hC ?_
     simp
     refine aE ?_
     simp
     generalize Z i n*Z j k=A at *
     generalize Z j n*Z i k=B at *
     have hjr:j<r:=by omega
     refine Aq aQ (by kernel_rfl) [(0,.ptr (jO r n Z d bs fr)),(1,.int .i64 k),(5,.int .i64 j),(6,.int .i64 i),(8,.int .i64 (lJ A B)),(12,.sl (zzv r (n+1) Z)),(13,.int .i64 r),(14,.int .i64 i)] _ bl 87 (.bool (decide (A<B∨A=B∧bs i<bs j))) ⟨rfl,by simp[jO],Sub.refl _⟩ rfl ?_ ?_
     ·rcases Int.lt_trichotomy A B with g | g | g
      ·have ec:lJ A B= -1:=by unfold lJ;rw[if_pos g]
       simp[ec,g]
      ·have ec:lJ A B=0:=by unfold lJ;rw[if_neg (by omega),if_pos g]
       have g2: ¬ A<B:=by omega
       subst g
       simp[ec,jO,hlt,hjr]
      ·have ec:lJ A B=1:=by unfold lJ;rw[if_neg (by omega),if_neg (by omega)]
       have g2: ¬ A<B:=by omega
       have g3: ¬ A=B:=by omega
       simp[ec,g2,g3]
     refine aC ?_
     simp
     refine⟨fun hc=> ?_,fun hc hc2=> ?_⟩
     ·rw[if_pos hc] at e
      refine aC ?_
      simp[wi,aB]
      exact⟨i+1,by omega,by omega,rfl,by simp[e,oI,jO],Sub.refl _⟩
     ·rw[if_neg (fun h=>h.elim (fun g=>by omega) (fun g=>by have:=hc2 g.1;omega))] at e
      refine aC ?_
      simp[wi,aB]
      exact⟨i+1,by omega,by omega,rfl,by simp[e,oI,jO],Sub.refl _⟩
 ·have hir:i=r:=by omega
  subst hir
  refine aC ?_
  simp
  exact aN [.int .i64 (oI (lvZ Z n k bs i))] 0 (by simp) (by simp[frz]) (Sub.refl _)
end Go.Proofs.YticmgmemnpcbbaaGreat.Vm

namespace Go.Proofs.YticmgmemnpcbbaaGreat.Vm
open Go Go.Proofs
set_option linter.unusedSimpArgs false
set_option linter.unusedVariables false
structure aPH where
 ids:List Int
 d:Option Rat
 b:Int→Option Blk
structure aNR where
 j:Nat
 b:Int→Option Blk

theorem xI {α β:Type} {f:α→Option β} : ∀(xs:List α) (ys:List β),xs.length=ys.length→(∀(i:Nat) x y,xs[i]? =some x→ys[i]? =some y→f x=some y)→xs.mapM f=some ys
 | [], [], _, _ => rfl
 | [], _ :: _, h, _ => by simp at h
 | _ :: _, [], h, _ => by simp at h
 | x :: xs, y :: ys, h, hf => by
   have h1:=hf 0 x y rfl rfl
   have h2:=xI xs ys (by simpa using h) (fun i a b ha hb=>hf (i+1) a b (by simpa using ha) (by simpa using hb))
   simp[List.mapM_cons,h1,h2]
end Go.Proofs.YticmgmemnpcbbaaGreat.Vm

namespace Go.Proofs.YticmgmemnpcbbaaGreat.Vm
open Go Go.RowKit Go.Proofs
set_option linter.unusedSimpArgs false
set_option linter.unusedVariables false
theorem qL {n:Nat} {f g:Nat→Int} (h: ∀c,c<n→f c=g c):zv n f=zv n g:=List.map_congr_left fun c hc=>by rw[h c (by simpa using hc)]
structure ZG (b : Int → Option Blk) (gR : Int) (ids : List Int) (r n : Nat) (Z : Nat → Nat → Int) : Prop where
 len:ids.length=r
 top:b gR=some ⟨1,ids.map fun g=> [.lsl g 2 0 n]⟩
 row: ∀(i:Nat) (g:Int),ids[i]? =some g→b g=some ⟨2,zv n (Z i)⟩
 pos: ∀g,g∈ids→0≤g
 inj: ∀(i j:Nat) (g:Int),ids[i]? =some g→ids[j]? =some g→i=j
 no0:gR∉ids
theorem ZG.congr {b:Int→Option Blk} {gR:Int} {ids:List Int} {r n:Nat} {Z Z':Nat→Nat→Int} (h:ZG b gR ids r n Z) (hZ: ∀i c,i<r→c<n→Z i c=Z' i c):ZG b gR ids r n Z':=
 ⟨h.len,h.top,fun i g hi=>by
   rw[h.row i g hi,qL fun c hc=>hZ i c (by rw[←h.len];exact(List.getElem?_eq_some_iff.1 hi).1) hc],h.pos,h.inj,h.no0⟩
theorem ZG.put {b:Int→Option Blk} {gR g:Int} {ids:List Int} {r n i:Nat} {Z Z':Nat→Nat→Int} (h:ZG b gR ids r n Z) (hi:ids[i]? =some g) (hZ: ∀a c,a≠i→c<n→Z a c=Z' a c):ZG (upd b g (some ⟨2,zv n (Z' i)⟩)) gR ids r n Z':=by
 have hm:=List.mem_of_getElem? hi
 refine⟨h.len,?_,fun k g' hk=> ?_,h.pos,h.inj,h.no0⟩
 ·rw[aL _ _ _ _ (fun e=>h.no0 (by rw[e];exact hm))];exact h.top
 ·by_cases e:k=i
  ·subst e
   rw[hi] at hk;cases hk
   rw[bO]
  ·have hne:g'≠g:=fun e2=>e (h.inj k i g (by rw[hk,e2]) hi)
   rw[aL _ _ _ _ hne,h.row k g' hk,qL fun c hc=>hZ k c e hc]
theorem ZG.gL {b b':Int→Option Blk} {gR:Int} {ids:List Int} {r n:Nat} {Z:Nat→Nat→Int} (h:ZG b gR ids r n Z) (hk: ∀x y,x=gR∨x∈ids→b x=some y→b' x=some y):ZG b' gR ids r n Z:=
 ⟨h.len,hk _ _ (.inl rfl) h.top,fun i g hi=>hk _ _ (.inr (List.mem_of_getElem? hi)) (h.row i g hi),h.pos,h.inj,h.no0⟩
theorem ZG.at {b:Int→Option Blk} {gR:Int} {ids:List Int} {r n:Nat} {Z:Nat→Nat→Int} (h:ZG b gR ids r n Z) (i:Nat) (hi:i<r): ∃g,ids[i]? =some g∧g∈ids∧0≤g∧b g=some ⟨2,zv n (Z i)⟩:=by
 have hl:=h.len
 have e:ids[i]? =some (ids[i]'(by omega)):=List.getElem?_eq_getElem _
 exact⟨_,e,List.mem_of_getElem? e,h.pos _ (List.mem_of_getElem? e),h.row i _ e⟩
structure TG where
 T:Int
 R:Int
 B:Int
 F:Int
 ids:List Int
structure TN where
 r:Nat
 n:Nat
 Z:Nat→Nat→Int
 d:Int
 bs:Nat→Nat
 fr:Nat→Bool
def TN.c (t:TN):List V:=jO t.r t.n t.Z t.d t.bs t.fr
structure TT (b : Int → Option Blk) (g : TG) (t : TN) : Prop where
 dW:ZG b g.R g.ids t.r (t.n+1) t.Z
 hd:b g.T=some ⟨6,[[.lsl g.R 1 0 t.r,.bool (decide (t.d<0)),.sl (iv (lim t.d.natAbs)),.lsl g.B 1 0 t.r,.int .i64 t.n,.lsl g.F 1 0 t.n]]⟩
 ba:b g.B=some ⟨1,iv (lb t.r t.bs)⟩
 fre:b g.F=some ⟨1,lv t.n t.fr⟩
 pT:0≤g.T
 pR:g.R<0→t.r=0
 pB:g.B<0→t.r=0
 pF:0≤g.F
 nd:(g.T::g.R::g.B::g.F::g.ids).Nodup
def TG.all (g:TG):List Int:=g.T::g.R::g.B::g.F::g.ids
theorem TT.gL {b b':Int→Option Blk} {g:TG} {t:TN} (h:TT b g t) (hk: ∀x y,x∈g.all→b x=some y→b' x=some y):TT b' g t:=
 ⟨h.dW.gL fun x y hx hy=>hk x y (by unfold TG.all;rcases hx with rfl | hx<;>simp[*]) hy,hk _ _ (by simp[TG.all]) h.hd,hk _ _ (by simp[TG.all]) h.ba,hk _ _ (by simp[TG.all]) h.fre,h.pT,h.pR,h.pB,h.pF,h.nd⟩
theorem TT.aDF {b:Int→Option Blk} {g:TG} {t:TN} (h:TT b g t) (m:Nat):frz b (m+1) (.lsl g.B 1 0 t.r)=some (.sl (iv (lb t.r t.bs))):=by
 rcases Int.lt_or_le g.B 0 with cQ | hB
 ·have hr:=h.pB cQ
  rw[hr]
  have e:lb 0 t.bs= []:=rfl
  rw[e]
  simp[Vm.frz,cQ,iv]
 have h1:=gQ (n:=m) hB h.ba
 rw[fP (lS _)] at h1
 rw[show(iv (lb t.r t.bs)).length=t.r by simp] at h1
 rw[h1];rfl
theorem TT.frz {b:Int→Option Blk} {g:TG} {t:TN} (h:TT b g t) (m:Nat):frz b (m+4) (.loc g.T 6 0 0)=some (.ptr t.c):=by
 have hi: ∀m (k:Int),Vm.frz b m (.int .i64 k)=some (.int .i64 k):=fun m k=>by cases m<;>simp[Vm.frz]
 have hb: ∀m (k:Bool),Vm.frz b m (.bool k)=some (.bool k):=fun m k=>by cases m<;>simp[Vm.frz]
 have hs: ∀m (l:List Int),Vm.frz b (m+1) (.sl (iv l))=some (.sl (iv l)):=fun m l=>by simp[Vm.frz,V.cl]
 have h1:Vm.frz b (m+3) (.lsl g.R 1 0 t.r)=some (.sl (zzv t.r (t.n+1) t.Z)):=by
  rcases Int.lt_or_le g.R 0 with cQ | hR
  ·have hr:=h.pR cQ
   rw[hr]
   have e:zzv 0 (t.n+1) t.Z= []:=rfl
   rw[e]
   simp[Vm.frz,cQ]
  have h1:=gQ (n:=m+2) hR h.dW.top
  rw[List.length_map,h.dW.len] at h1
  rw[h1]
  have h2:(g.ids.map fun g=> [V.lsl g 2 0 (t.n+1)]).mapM (fun e:List V=>e.mapM (Vm.frz b (m+2)))=some (zzv t.r (t.n+1) t.Z):=by
   refine xI _ _ (by simp[h.dW.len]) fun i x y hx hy=> ?_
   rw[List.getElem?_map] at hx
   cases hi:g.ids[i]? with
   | none => rw [hi] at hx; cases hx
   | some gi =>
     rw[hi] at hx;cases hx
     have hlt:i<t.r:=by rw[←h.dW.len];exact(List.getElem?_eq_some_iff.1 hi).1
     rw[List.getElem?_eq_getElem (by simpa using hlt),Ep] at hy
     cases hy
     have h3:=gQ (bl:=b) (n:=m+1) (sz:=2) (els:=zv (t.n+1) (t.Z i)) (h.dW.pos gi (List.mem_of_getElem? hi)) (h.dW.row i gi hi)
     rw[fP (aB3 _ _)] at h3
     simp only[List.mapM_cons,List.mapM_nil]
     rw[show(zv (t.n+1) (t.Z i)).length=t.n+1 by simp] at h3
     rw[h3];rfl
  rw[h2];rfl
 have h2:Vm.frz b (m+3) (.lsl g.B 1 0 t.r)=some (.sl (iv (lb t.r t.bs))):=by
  rcases Int.lt_or_le g.B 0 with cQ | hB
  ·have hr:=h.pB cQ
   rw[hr]
   have e:lb 0 t.bs= []:=rfl
   rw[e]
   simp[Vm.frz,cQ,iv]
  have h1:=gQ (n:=m+2) hB h.ba
  rw[fP (lS _)] at h1
  rw[show(iv (lb t.r t.bs)).length=t.r by simp] at h1
  rw[h1];rfl
 have h3:Vm.frz b (m+3) (.lsl g.F 1 0 t.n)=some (.sl (lv t.n t.fr)):=by
  have h1:=gQ (n:=m+2) h.pF h.fre
  rw[fP (aGJ _ _)] at h1
  rw[show(lv t.n t.fr).length=t.n by simp] at h1
  rw[h1];rfl
 rw[kH h.hd]
 simp only[List.mapM_cons,List.mapM_nil,h1,h2,h3,hi,hb,hs]
 rfl

@[simp] theorem Ze (a x y e f g : V) (p : Int) : splice [a, x, y, e, f, g] 1 (biC p) = [a, .bool (decide (p < 0)), .sl (iv (lim p.natAbs)), e, f, g] := by simp [splice, biC]
def cz (Z Y:Nat→Nat→Int) (i j:Nat):Nat→Nat→Int:=fun a c=>if a<i∨a=i∧c<j then Y a c else Z a c
theorem Gn (Z Y:Nat→Nat→Int) (i j c:Nat) (h:j≤c):cz Z Y i j i c=Z i c:=by unfold cz;rw[if_neg (by omega)]
theorem Mc (Z Y:Nat→Nat→Int) (i j a c:Nat) (h:Y a c=Z a c):cz Z Y i j a c=Z a c:=by unfold cz;split<;>simp[h]
theorem Hg (Z Y:Nat→Nat→Int) (i n a c:Nat) (hc:c<n):cz Z Y i n a c=cz Z Y (i+1) 0 a c:=by
 unfold cz
 by_cases h:a<i∨a=i∧c<n
 ·rw[if_pos h,if_pos (by omega)]
 ·rw[if_neg h,if_neg (by omega)]
theorem Mo (Z Y:Nat→Nat→Int) (i a c:Nat) (h:Y i c=Z i c):cz Z Y i 0 a c=cz Z Y (i+1) 0 a c:=by
 unfold cz
 by_cases h1:a<i
 ·rw[if_pos (.inl h1),if_pos (by omega)]
 ·rw[if_neg (by omega)]
  by_cases h2:a=i
  ·subst h2;rw[if_pos (by omega),h]
  ·rw[if_neg (by omega)]
theorem Fv (Z Y:Nat→Nat→Int) (r a c:Nat) (h:a<r):cz Z Y r 0 a c=Y a c:=by unfold cz;rw[if_pos (.inl h)]
theorem Ad (Z Y:Nat→Nat→Int):cz Z Y 0 0=Z:=by funext a c;unfold cz;rw[if_neg (by omega)]
theorem Gp {n j:Nat} (Z Y:Nat→Nat→Int) (i:Nat) (hj:j<n):(zv n (cz Z Y i j i)).set j (biC (Y i j))=zv n (cz Z Y i (j+1) i):=by
 apply List.ext_getElem
 ·simp
 ·intro t h1 h2
  simp only[List.getElem_set,E4]
  by_cases h:j=t
  ·subst h
   rw[if_pos rfl];unfold cz;rw[if_pos (by omega)]
  ·rw[if_neg h]
   congr 1
   unfold cz
   by_cases h3:t<j
   ·rw[if_pos (by omega),if_pos (by omega)]
   ·rw[if_neg (by omega),if_neg (by omega)]
structure aE7 (r n rp k : Nat) (Z : Nat → Nat → Int) (d : Int) (Y : Nat → Nat → Int) : Prop where
 other: ∀i c,i<r→c≤n→i≠rp→Y i c*d=Z i c*Z rp k - Z i k*Z rp c
 same: ∀c,c≤n→Y rp c=Z rp c
 ne:Z rp k≠0
theorem Jj {a b c e:Int} (ha:a.natAbs≤fC) (hb:b.natAbs≤fC) (hc:c.natAbs≤fC) (he:e.natAbs≤fC):(lim (a*b - c*e).natAbs).length≤48:=by
 have h1:(a*b).natAbs≤wP:=iB ha hb
 have h2:(c*e).natAbs≤wP:=iB hc he
 have h3:=Int.natAbs_sub_le (a*b) (c*e)
 have h4:=Z9
 refine aF.2 ?_
 have h5:LB^24+LB^24<LB^48:=by decide+kernel
 omega
structure J4 where
 j:Nat
 b:Int→Option Blk
def pvF (p:Int) (Y:Nat→Nat→Int):Nat→Nat→Int:=if 0<p then Y else fun a c=> - Y a c
def pvB (bs:Nat→Nat) (rp k:Nat):Nat→Nat:=fun i=>if i=rp then k else bs i
theorem Vj {r rp k:Nat} (bs:Nat→Nat) (h:rp<r):(iv (lb r bs)).set rp [.int .i64 k]=iv (lb r (pvB bs rp k)):=by
 apply List.ext_getElem
 ·simp
 ·intro t h1 h2
  simp only[List.getElem_set,lB,uL,pvB]
  by_cases e:rp=t
  ·subst e;simp
  ·rw[if_neg e,if_neg (Ne.symm e)]
theorem P2 {bl:Int→Option Blk} {K:V→(Int→Option Blk)→Prop} (g:TG) (t:TN) (rp k:Nat) (Y:Nat→Nat→Int) (h:TT bl g t) (hz:ZB t.r t.n t.Z t.d) (hr:rp<t.r) (hk:k<t.n) (hY:aE7 t.r t.n rp k t.Z t.d Y)
  (hK: ∀b',TT b' g ⟨t.r,t.n,pvF (t.Z rp k) Y,((t.Z rp k).natAbs:Int),pvB t.bs rp k,t.fr⟩→(∀x y,bl x=some y→x∉g.all→b' x=some y)→K (.tup []) b'):
  bJ Tryz.prog 258 [.loc g.T 6 0 0,.int .i64 rp,.int .i64 k] bl K:=by
 obtain⟨r,n,Z,d,bs,fr⟩:=t
 obtain⟨gT,gR,gB,gF,ids⟩:=g
 simp only at hz hr hk hY hK ⊢
 obtain⟨hG,hhd,hba,Ob,pT,pR,pB,pF,hnd⟩:=h
 simp only at hG hhd hba Ob pT pR pB pF hnd
 have hrl:=hz.rl
 have hnl:=hz.nl
 have hd0:=hz.d0
 have aC0:=hnd
 simp only[List.nodup_cons,List.mem_cons,not_or] at hnd
 obtain⟨⟨nTR,nTB,nTF,nTi⟩,⟨nRB,nRF,nRi⟩,⟨nBF,nBi⟩,nFi,nds⟩:=hnd
 obtain⟨gp,hgp,aJ9,aK1,aCJ⟩:=hG.at rp hr
 have pZ:=hG.top
 have hil:=hG.len
 have hk1:k<n+1:=by omega
 have hk2:(k:Int)<(n:Int)+1:=by omega
 have ntT: ∀x,x∈ids→ ¬ x=gT:=fun x hx e=>nTi (e▸hx)
 have ntR: ∀x,x∈ids→ ¬ x=gR:=fun x hx e=>nRi (e▸hx)
 have ntB: ∀x,x∈ids→ ¬ x=gB:=fun x hx e=>nBi (e▸hx)
 have ntF: ∀x,x∈ids→ ¬ x=gF:=fun x hx e=>nFi (e▸hx)
 refine aZ Tryz.func258 rfl rfl (by rw[Tryz.ntmps258];simp) ?_
 rw[Tryz.ntmps258,Tryz.results258]
 refine aE ?_
 simp[hhd,pZ,hgp,hr]
 refine aE ?_
 simp[aCJ,hk1,hk2]
 intro g7 hg7 hb7
 have m7:g7∉ids:=fun hm=>by
  obtain⟨j,hj⟩:=List.mem_iff_getElem?.1 hm
  rw[hG.row j g7 hj] at hb7;cases hb7
 have n7T: ¬ g7=gT:=fun e=>by rw[e,hhd] at hb7;cases hb7
 have n7R: ¬ g7=gR:=fun e=>by rw[e,pZ] at hb7;cases hb7
 have n7B: ¬ g7=gB:=fun e=>by rw[e,hba] at hb7;cases hb7
 have n7F: ¬ g7=gF:=fun e=>by rw[e,Ob] at hb7;cases hb7
 obtain⟨p,hp⟩: ∃p,Z rp k=p:=⟨_,rfl⟩
 simp only[hp] at hK ⊢
 have hG7:ZG (upd bl g7 (some ⟨2,[biC p]⟩)) gR ids r (n+1) Z:=hG.gL fun x y hx hy=>by
  rw[aL _ _ _ _ (by rintro rfl;rcases hx with hx | hx;exact n7R hx;exact m7 hx)];exact hy
 have e7:upd bl g7 (some ⟨2,[biC p]⟩) g7=some ⟨2,[biC p]⟩:=by simp
 have eT:upd bl g7 (some ⟨2,[biC p]⟩) gT=bl gT:=by simp[Ne.symm n7T]
 have eB:upd bl g7 (some ⟨2,[biC p]⟩) gB=bl gB:=by simp[Ne.symm n7B]
 have eF:upd bl g7 (some ⟨2,[biC p]⟩) gF=bl gF:=by simp[Ne.symm n7F]
 have aLA:Sub bl (upd bl g7 (some ⟨2,[biC p]⟩)):=by simp[hb7]
 generalize upd bl g7 (some ⟨2,[biC p]⟩)=b0 at *
 rw[hhd] at eT
 rw[hba] at eB
 rw[Ob] at eF
 clear hG aCJ hhd pZ hba Ob
 have aM2:=hG7.top
 refine gV [(0,.loc gT 6 0 0),(1,.int .i64 rp),(2,.int .i64 k),(6,.lsl gp 2 0 (n+1)),(7,.loc g7 2 0 0)] 128 b0 ⟨rfl,by simp,Sub.refl _⟩ ?_
 refine aE ?_
 simp[eT]
 refine aK (fun q:J4=> [(0,.loc gT 6 0 0),(1,.int .i64 rp),(2,.int .i64 k),(6,.lsl gp 2 0 (n+1)),(7,.loc g7 2 0 0),(30,.lsl gR 1 0 r),(31,.int .i64 r),(32,.int .i64 q.j)]) (fun q=>q.b) (fun q=>q.j≤r∧ZG q.b gR ids r (n+1) (cz Z Y q.j 0)∧(∀x y,b0 x=some y→x∉ids→q.b x=some y)) (fun q=>r - q.j) _ ⟨0,b0⟩ ⟨Nat.zero_le _,by simp only;rw[Ad];exact hG7,fun _ _ h _=>h⟩ ⟨rfl,by simp,Sub.refl _⟩ ?_
 rintro⟨i,b⟩ ⟨hi,hGb,hfb⟩
 simp only at hi hGb hfb
 have wi:IntKind.i64.wrap ((i:Int)+1)=(i:Int)+1:=i64_in (by omega) (by omega)
 have bT:=hfb _ _ eT nTi
 have b7:=hfb _ _ e7 m7
 have bR:=hGb.top
 refine aE ?_
 simp
 refine aE ?_
 simp
 refine⟨fun hlt=> ?_,fun hlt=> ?_⟩
 ·obtain⟨gi,hgi,Bp,Vv,tR⟩:=hGb.at i hlt
  refine cK (cD ?_)
  refine aE ?_
  simp[hlt,bR,hgi]
  refine aE ?_
  simp
  refine⟨fun hir=> ?_,fun hir=> ?_⟩
  ·
   refine aC ?_
   simp[wi,aB]
   have aL3:i=rp:=by omega
   refine⟨⟨i+1,b⟩,⟨by simp only;omega,hGb.congr fun a c _ hc=>Mo Z Y i a c (by rw[aL3];exact hY.same c (by omega)),hfb⟩,by simp only;omega,rfl,by simp,Sub.refl _⟩
  have aDV:i≠rp:=by omega
  have hZi: ∀c,c≤n→(Z i c).natAbs≤fC:=fun c hc=>hz.z i c hlt hc
  have hZp: ∀c,c≤n→(Z rp c).natAbs≤fC:=fun c hc=>hz.z rp c hr hc
  have hpl:p.natAbs≤fC:=by rw[←hp];exact hZp k (by omega)
  have hl4: ∀ {x:Int},x.natAbs≤fC→(lim x.natAbs).length≤400000:=fun hx=>Nat.le_trans (cR (iA hx)) (by omega)
  refine aE ?_
  simp[tR,hk1,hk2]
  intro g10 aPL yE
  have m10:g10∉ids:=fun hm=>by
   obtain⟨j,hj⟩:=List.mem_iff_getElem?.1 hm
   rw[hGb.row j g10 hj] at yE;cases yE
  have aMT: ¬ g10=gT:=fun e=>by rw[e,bT] at yE;cases yE
  have aMJ: ¬ g10=g7:=fun e=>by rw[e,b7] at yE;cases yE
  have aL4: ¬ g10=gR:=fun e=>by rw[e,bR] at yE;cases yE
  rw[Gn Z Y i 0 k (Nat.zero_le _)]
  have aFS:ZG (upd b g10 (some ⟨2,[biC (Z i k)]⟩)) gR ids r (n+1) (cz Z Y i 0):=hGb.gL fun x y hx hy=>by
   rw[aL _ _ _ _ (by rintro rfl;rcases hx with hx | hx;exact aL4 hx;exact m10 hx)];exact hy
  have c10:upd b g10 (some ⟨2,[biC (Z i k)]⟩) g10=some ⟨2,[biC (Z i k)]⟩:=by simp
  have cT:upd b g10 (some ⟨2,[biC (Z i k)]⟩) gT=b gT:=by simp[Ne.symm aMT]
  have c7:upd b g10 (some ⟨2,[biC (Z i k)]⟩) g7=b g7:=by simp[Ne.symm aMJ]
  have hbk: ∀x y,b0 x=some y→x∉ids→upd b g10 (some ⟨2,[biC (Z i k)]⟩) x=some y:=fun x y hx hn=>by
   have:=hfb x y hx hn
   rw[aL _ _ _ _ (by rintro rfl;rw[yE] at this;cases this)];exact this
  rw[bT] at cT
  rw[b7] at c7
  generalize upd b g10 (some ⟨2,[biC (Z i k)]⟩)=b1 at *
  refine aC ?_
  simp
  refine aK (fun q:J4=> [(0,.loc gT 6 0 0),(1,.int .i64 rp),(2,.int .i64 k),(6,.lsl gp 2 0 (n+1)),(7,.loc g7 2 0 0),(30,.lsl gR 1 0 r),(31,.int .i64 r),(32,.int .i64 i),(8,.int .i64 i),(9,.lsl gi 2 0 (n+1)),(10,.loc g10 2 0 0),(45,.int .i64 (n+1)),(46,.int .i64 q.j)]) (fun q=>q.b) (fun q=>q.j≤n+1∧ZG q.b gR ids r (n+1) (cz Z Y i q.j)∧(∀x y,b1 x=some y→x∉ids→q.b x=some y)) (fun q=>n+1 - q.j) _ ⟨0,b1⟩ ⟨Nat.zero_le _,aFS,fun _ _ h _=>h⟩ ⟨rfl,by simp,Sub.refl _⟩ ?_
  clear hGb hfb bT b7 bR tR yE aFS
  rintro⟨j,b⟩ ⟨hj,hGb,hfb⟩
  simp only at hj hGb hfb
  have wj:IntKind.i64.wrap ((j:Int)+1)=(j:Int)+1:=i64_in (by omega) (by omega)
  have bT:=hfb _ _ cT nTi
  have b7:=hfb _ _ c7 m7
  have b10:=hfb _ _ c10 m10
  have bR:=hGb.top
  have bgi:=hGb.row i gi hgi
  have bgp:=hGb.row rp gp hgp
  have nip: ¬ gp=gi:=fun e=>aDV (hGb.inj i rp gi hgi (by rw[←e];exact hgp))
  refine aE ?_
  simp
  refine aE ?_
  simp
  refine⟨fun hjn=> ?_,fun hjn=> ?_⟩
  ·have yF:j<n+1:=by omega
   have N2:j≤n:=by omega
   have hj2:(j:Int)<(n:Int)+1:=by omega
   have ezi:cz Z Y i j i j=Z i j:=Gn Z Y i j j (Nat.le_refl _)
   have ezp:cz Z Y i j rp j=Z rp j:=Mc Z Y i j rp j (hY.same j N2)
   have hT1:=iZ (Z i j) p (hl4 (hZi j N2)) (hl4 hpl)
   have hT2:=iZ (Z i k) (Z rp j) (hl4 (hZi k (by omega))) (hl4 (hZp j N2))
   have hL1:(lim (Z i j*p).natAbs).length≤24:=cR (iB (hZi j N2) hpl)
   have hL2:(lim (Z i k*Z rp j).natAbs).length≤24:=cR (iB (hZi k (by omega)) (hZp j N2))
   have hM:=sV (Z i j*p) (Z i k*Z rp j) (Nat.le_trans hL1 (by omega)) (Nat.le_trans hL2 (by omega))
   have hx:=hY.other i j hlt N2 aDV
   rw[hp] at hx
   have hL3:(lim (Z i j*p - Z i k*Z rp j).natAbs).length≤48:=Jj (hZi j N2) hpl (hZi k (by omega)) (hZp j N2)
   have hE:=U8 (Z i j*p - Z i k*Z rp j) d (Y i j) hx.symm hd0 (by omega) (Nat.le_trans (cR (iA hz.dl)) (by omega))
   rw[show biC d= [.bool (decide (d<0)),.sl (iv (lim d.natAbs))] from rfl] at hE
   refine cK (cD ?_)
   refine aE ?_
   simp
   refine aE ?_
   simp
   refine bY aQ b (Sub.refl _) [0,1,2,3,4,5] 2 (by kernel_rfl) ?_
   simp[bgi,yF,hj2,ezi,b7]
   refine aO hT1 ?_
   simp
   refine Dz 6 ?_
   simp
   intro g12 aLX sQ
   have m12:g12∉ids:=fun hm=>by
    obtain⟨u,hu⟩:=List.mem_iff_getElem?.1 hm
    rw[hGb.row u g12 hu] at sQ;cases sQ
   have aLB: ¬ g12=gT:=fun e=>by rw[e,bT] at sQ;cases sQ
   have aPB: ¬ g12=g7:=fun e=>by rw[e,b7] at sQ;cases sQ
   have Rb: ¬ g12=g10:=fun e=>by rw[e,b10] at sQ;cases sQ
   have aOO: ¬ g12=gR:=fun e=>by rw[e,bR] at sQ;cases sQ
   have aBK: ¬ g12=gi:=fun e=>m12 (e▸Bp)
   have aCP: ¬ g12=gp:=fun e=>m12 (e▸aJ9)
   refine⟨by simp[sQ],Dz 7 ?_⟩
   simp
   refine⟨by simp[sQ],Dy ?_⟩
   simp
   refine jY (fun _:Unit=> [(0,.loc gT 6 0 0),(1,.int .i64 rp),(2,.int .i64 k),(6,.lsl gp 2 0 (n+1)),(7,.loc g7 2 0 0),(30,.lsl gR 1 0 r),(31,.int .i64 r),(32,.int .i64 i),(8,.int .i64 i),(9,.lsl gi 2 0 (n+1)),(10,.loc g10 2 0 0),(45,.int .i64 (n+1)),(46,.int .i64 j),(11,.int .i64 j),(12,.loc g12 2 0 0)]) (fun _=>upd b g12 (some ⟨2,[biC (Z i j*p - Z i k*Z rp j)]⟩)) (fun _=>True) 128 ?_ ?_
   ·refine aE ?_
    simp
    refine aV [(0,.loc gT 6 0 0),(1,.int .i64 rp),(2,.int .i64 k),(6,.lsl gp 2 0 (n+1)),(7,.loc g7 2 0 0),(30,.lsl gR 1 0 r),(31,.int .i64 r),(32,.int .i64 i),(8,.int .i64 i),(9,.lsl gi 2 0 (n+1)),(10,.loc g10 2 0 0),(45,.int .i64 (n+1)),(46,.int .i64 j),(11,.int .i64 j),(12,.loc g12 2 0 0)] _ (upd b g12 (some ⟨2,[biC (Z i j*p)]⟩)) 65 (.bool (decide (Z i k≠0∧Z rp j≠0))) ⟨rfl,by simp,Sub.refl _⟩ rfl ?_ ?_
    ·simp[Ne.symm Rb,b10]
     refine aD (jS _) ?_
     simp[Int.sign_eq_zero_iff_zero]
     by_cases h1:Z i k=0
     ·simp[h1]
     ·simp[h1,Ne.symm aCP,bgp,yF,hj2,ezp]
      refine aD (jS _) ?_
      simp[Int.sign_eq_zero_iff_zero]
      by_cases h2:Z rp j=0<;>simp[h2]
    simp
    refine aC ?_
    simp
    refine⟨fun h1 h2=> ?_,fun hno=> ?_⟩
    ·refine cL aQ [0,1,2,3,4,5,6,7] 1 8 (by kernel_rfl) ?_
     simp[Ne.symm Rb,Ne.symm aCP,b10,bgp,yF,hj2,ezp]
     refine aO hT2 ?_
     simp
     refine aO hM ?_
     simp
     refine bX (i:=8) (by kernel_rfl) rfl rfl rfl ?_
     simp
     refine Dy ?_
     simp[aG]
     exact⟨rfl,by simp,sub_eq rfl⟩
    ·have e0:Z i j*p - Z i k*Z rp j=Z i j*p:=by
      have:Z i k*Z rp j=0:=by
       by_cases g1:Z i k=0
       ·rw[g1,Int.zero_mul]
       ·rw[hno g1,Int.mul_zero]
      omega
     simp[aG]
     exact⟨rfl,by simp,sub_eq (by rw[e0])⟩
   rintro⟨⟩ _
   have E0:=Gp Z Y i yF
   have hGp:=hGb.put (Z':=cz Z Y i (j+1)) hgi fun a c ha _=>by
    unfold cz
    by_cases h1:a<i
    ·rw[if_pos (.inl h1),if_pos (.inl h1)]
    ·rw[if_neg (by omega),if_neg (by omega)]
   refine aC ?_
   simp
   refine cL aQ [0,1,2,3,4,5,6,7,8] 1 9 (by kernel_rfl) ?_
   simp[Ne.symm aLB,bT]
   refine aO hE ?_
   simp[Ne.symm aBK,bgi,yF,hj2]
   refine bX (i:=9) (by kernel_rfl) rfl rfl rfl ?_
   simp[Ne.symm aBK,bgi,yF,hj2,ezi]
   refine Dy ?_
   rw[E0]
   simp
   refine aC ?_
   simp[wj,aB]
   refine⟨⟨j+1,upd b gi (some ⟨2,zv (n+1) (cz Z Y i (j+1) i)⟩)⟩,⟨by simp only;omega,hGp,fun x y hx hn=> ?_⟩,by simp only;omega,rfl,by simp,?_⟩
   ·simp only
    rw[aL _ _ _ _ (by rintro rfl;exact hn Bp)];exact hfb x y hx hn
   ·intro z y hz2
    simp only[aA] at hz2 ⊢
    grind
  ·have Wd:j=n+1:=by omega
   subst Wd
   refine aC ?_
   simp[wi,aB]
   exact⟨⟨i+1,b⟩,⟨by simp only;omega,hGb.congr fun a c _ hc=>Hg Z Y i (n+1) a c hc,fun x y hx hn=>hfb x y (hbk x y hx hn) hn⟩,by simp only;omega,rfl,by simp,Sub.refl _⟩
 have hir:i=r:=by omega
 subst hir
 have hGY:ZG b gR ids i (n+1) Y:=hGb.congr fun a c ha _=>Fv Z Y i a c ha
 have bB:=hfb _ _ eB nBi
 have bF:=hfb _ _ eF nFi
 have hlb:=Vj (r:=i) (k:=k) bs hr
 clear hGb
 refine aE ?_
 simp[b7,bT,n7T,Ne.symm n7T]
 refine aE ?_
 simp[Ne.symm nTB,nTB,bB,hr,hlb]
 refine aE ?_
 simp[n7T,n7B,b7]
 refine aD (jS _) ?_
 simp
 have aO9:p≠0:=by rw[←hp];exact hY.ne
 have hG2:ZG (upd (upd b gT (some ⟨6,[[.lsl gR 1 0 i,.bool (decide (p<0)),.sl (iv (lim p.natAbs)),.lsl gB 1 0 i,.int .i64 n,.lsl gF 1 0 n]]⟩)) gB (some ⟨1,iv (lb i (pvB bs rp k))⟩)) gR ids i (n+1) Y:=hGY.gL fun x y hx hy=>by
  have h1:x≠gB:=by rintro rfl;rcases hx with hx | hx;exact nRB hx.symm;exact nBi hx
  have h2:x≠gT:=by rintro rfl;rcases hx with hx | hx;exact nTR hx;exact nTi hx
  rw[aL _ _ _ _ h1,aL _ _ _ _ h2];exact hy
 have e2T:(upd (upd b gT (some ⟨6,[[.lsl gR 1 0 i,.bool (decide (p<0)),.sl (iv (lim p.natAbs)),.lsl gB 1 0 i,.int .i64 n,.lsl gF 1 0 n]]⟩)) gB (some ⟨1,iv (lb i (pvB bs rp k))⟩)) gT=some ⟨6,[[.lsl gR 1 0 i,.bool (decide (p<0)),.sl (iv (lim p.natAbs)),.lsl gB 1 0 i,.int .i64 n,.lsl gF 1 0 n]]⟩:=by simp[nTB]
 have e2B:(upd (upd b gT (some ⟨6,[[.lsl gR 1 0 i,.bool (decide (p<0)),.sl (iv (lim p.natAbs)),.lsl gB 1 0 i,.int .i64 n,.lsl gF 1 0 n]]⟩)) gB (some ⟨1,iv (lb i (pvB bs rp k))⟩)) gB=some ⟨1,iv (lb i (pvB bs rp k))⟩:=by simp
 have e2F:(upd (upd b gT (some ⟨6,[[.lsl gR 1 0 i,.bool (decide (p<0)),.sl (iv (lim p.natAbs)),.lsl gB 1 0 i,.int .i64 n,.lsl gF 1 0 n]]⟩)) gB (some ⟨1,iv (lb i (pvB bs rp k))⟩)) gF=some ⟨1,lv n fr⟩:=by simp[Ne.symm nBF,Ne.symm nTF,bF]
 have e27:(upd (upd b gT (some ⟨6,[[.lsl gR 1 0 i,.bool (decide (p<0)),.sl (iv (lim p.natAbs)),.lsl gB 1 0 i,.int .i64 n,.lsl gF 1 0 n]]⟩)) gB (some ⟨1,iv (lb i (pvB bs rp k))⟩)) g7=some ⟨2,[biC p]⟩:=by simp[n7T,n7B,b7]
 have e2f: ∀x y,bl x=some y→x∉TG.all ⟨gT,gR,gB,gF,ids⟩→(upd (upd b gT (some ⟨6,[[.lsl gR 1 0 i,.bool (decide (p<0)),.sl (iv (lim p.natAbs)),.lsl gB 1 0 i,.int .i64 n,.lsl gF 1 0 n]]⟩)) gB (some ⟨1,iv (lb i (pvB bs rp k))⟩)) x=some y:=fun x y hx hn=>by
  simp only[TG.all,List.mem_cons,not_or] at hn
  rw[aL _ _ _ _ hn.2.2.1,aL _ _ _ _ hn.1]
  exact hfb x y (aLA x y hx) hn.2.2.2.2
 generalize upd (upd b gT (some ⟨6,[[.lsl gR 1 0 i,.bool (decide (p<0)),.sl (iv (lim p.natAbs)),.lsl gB 1 0 i,.int .i64 n,.lsl gF 1 0 n]]⟩)) gB (some ⟨1,iv (lb i (pvB bs rp k))⟩)=b2 at *
 refine⟨fun pG=> ?_,fun cQ=> ?_⟩
 ·rw[aX]
  refine⟨[],by simp,hK b2 ⟨?_,?_,e2B,e2F,pT,pR,pB,pF,aC0⟩ e2f⟩
  ·simp only[pvF,if_pos pG];exact hG2
  ·simp only[show((p.natAbs:Nat):Int)=p by omega];exact e2T
 clear hGY hfb bB bF bT b7
 have hO:=jT p
 refine gV [(0,.loc gT 6 0 0),(1,.int .i64 rp),(2,.int .i64 k),(6,.lsl gp 2 0 (n+1)),(7,.loc g7 2 0 0)] 128 b2 ⟨rfl,by simp,Sub.refl _⟩ ?_
 refine aE ?_
 simp[e27]
 refine aD hO ?_
 simp[e2T]
 have hG3:ZG (upd b2 gT (some ⟨6,[[.lsl gR 1 0 i,.bool (decide (0<p)),.sl (iv (lim p.natAbs)),.lsl gB 1 0 i,.int .i64 n,.lsl gF 1 0 n]]⟩)) gR ids i (n+1) (cz Y (fun a c=> - Y a c) 0 0):=by
  rw[Ad]
  exact hG2.gL fun x y hx hy=>by
   have h2:x≠gT:=by rintro rfl;rcases hx with hx | hx;exact nTR hx;exact nTi hx
   rw[aL _ _ _ _ h2];exact hy
 have e3T:(upd b2 gT (some ⟨6,[[.lsl gR 1 0 i,.bool (decide (0<p)),.sl (iv (lim p.natAbs)),.lsl gB 1 0 i,.int .i64 n,.lsl gF 1 0 n]]⟩)) gT=some ⟨6,[[.lsl gR 1 0 i,.bool (decide (0<p)),.sl (iv (lim p.natAbs)),.lsl gB 1 0 i,.int .i64 n,.lsl gF 1 0 n]]⟩:=by simp
 have e3B:(upd b2 gT (some ⟨6,[[.lsl gR 1 0 i,.bool (decide (0<p)),.sl (iv (lim p.natAbs)),.lsl gB 1 0 i,.int .i64 n,.lsl gF 1 0 n]]⟩)) gB=some ⟨1,iv (lb i (pvB bs rp k))⟩:=by simp[Ne.symm nTB,e2B]
 have e3F:(upd b2 gT (some ⟨6,[[.lsl gR 1 0 i,.bool (decide (0<p)),.sl (iv (lim p.natAbs)),.lsl gB 1 0 i,.int .i64 n,.lsl gF 1 0 n]]⟩)) gF=some ⟨1,lv n fr⟩:=by simp[Ne.symm nTF,e2F]
 have e3f: ∀x y,bl x=some y→x∉TG.all ⟨gT,gR,gB,gF,ids⟩→(upd b2 gT (some ⟨6,[[.lsl gR 1 0 i,.bool (decide (0<p)),.sl (iv (lim p.natAbs)),.lsl gB 1 0 i,.int .i64 n,.lsl gF 1 0 n]]⟩)) x=some y:=fun x y hx hn=>by
  have hn2:=hn
  simp only[TG.all,List.mem_cons,not_or] at hn2
  rw[aL _ _ _ _ hn2.1]
  exact e2f x y hx hn
 generalize upd b2 gT (some ⟨6,[[.lsl gR 1 0 i,.bool (decide (0<p)),.sl (iv (lim p.natAbs)),.lsl gB 1 0 i,.int .i64 n,.lsl gF 1 0 n]]⟩)=b3 at *
 have e3R:=hG3.top
 refine aC ?_
 simp[e3T]
 refine aK (fun q:J4=> [(0,.loc gT 6 0 0),(107,.lsl gR 1 0 i),(108,.int .i64 i),(109,.int .i64 q.j)]) (fun q=>q.b) (fun q=>q.j≤i∧ZG q.b gR ids i (n+1) (cz Y (fun a c=> - Y a c) q.j 0)∧(∀x y,b3 x=some y→x∉ids→q.b x=some y)) (fun q=>i - q.j) _ ⟨0,b3⟩ ⟨Nat.zero_le _,hG3,fun _ _ h _=>h⟩ ⟨rfl,by simp,Sub.refl _⟩ ?_
 rintro⟨t,b⟩ ⟨ht,hGb,hfb⟩
 simp only at ht hGb hfb
 have wt:IntKind.i64.wrap ((t:Int)+1)=(t:Int)+1:=i64_in (by omega) (by omega)
 have bR:=hGb.top
 refine aE ?_
 simp
 refine aE ?_
 simp
 refine⟨fun hlt=> ?_,fun hlt=> ?_⟩
 ·obtain⟨gt,hgt,aKD,aPP,aMG⟩:=hGb.at t hlt
  refine cK (cD ?_)
  refine aE ?_
  simp[hlt,bR,hgt]
  refine aC ?_
  simp
  refine aK (fun q:J4=> [(0,.loc gT 6 0 0),(107,.lsl gR 1 0 i),(108,.int .i64 i),(109,.int .i64 t),(14,.lsl gt 2 0 (n+1)),(114,.int .i64 (n+1)),(115,.int .i64 q.j)]) (fun q=>q.b) (fun q=>q.j≤n+1∧ZG q.b gR ids i (n+1) (cz Y (fun a c=> - Y a c) t q.j)∧(∀x y,b3 x=some y→x∉ids→q.b x=some y)) (fun q=>n+1 - q.j) _ ⟨0,b⟩ ⟨Nat.zero_le _,hGb,hfb⟩ ⟨rfl,by simp,Sub.refl _⟩ ?_
  clear hGb hfb bR aMG
  rintro⟨j,b⟩ ⟨hj,hGb,hfb⟩
  simp only at hj hGb hfb
  have wj:IntKind.i64.wrap ((j:Int)+1)=(j:Int)+1:=i64_in (by omega) (by omega)
  have bgt:=hGb.row t gt hgt
  refine aC ?_
  simp
  refine⟨fun hjn=> ?_,fun hjn=> ?_⟩
  ·have yF:j<n+1:=by omega
   have hj2:(j:Int)<(n:Int)+1:=by omega
   have ezi:cz Y (fun a c=> - Y a c) t j t j=Y t j:=Gn Y _ t j j (Nat.le_refl _)
   have E0:=Gp Y (fun a c=> - Y a c) t yF
   have hGp:=hGb.put (Z':=cz Y (fun a c=> - Y a c) t (j+1)) hgt fun a c ha _=>by
    unfold cz
    by_cases h1:a<t
    ·rw[if_pos (.inl h1),if_pos (.inl h1)]
    ·rw[if_neg (by omega),if_neg (by omega)]
   simp[bgt,yF,hj2,ezi]
   refine aD (jT _) ?_
   simp[bgt,yF,hj2,ezi,E0,wj,aB]
   refine⟨⟨j+1,upd b gt (some ⟨2,zv (n+1) (cz Y (fun a c=> - Y a c) t (j+1) t)⟩)⟩,⟨by simp only;omega,hGp,fun x y hx hn=> ?_⟩,by simp only;omega,rfl,by simp,Sub.refl _⟩
   simp only
   rw[aL _ _ _ _ (by rintro rfl;exact hn aKD)];exact hfb x y hx hn
  ·have Wd:j=n+1:=by omega
   subst Wd
   simp
   refine aC ?_
   simp[wt,aB]
   exact⟨⟨t+1,b⟩,⟨by simp only;omega,hGb.congr fun a c _ hc=>Hg Y _ t (n+1) a c hc,hfb⟩,by simp only;omega,rfl,by simp,Sub.refl _⟩
 have hti:t=i:=by omega
 subst hti
 simp
 rw[mW]
 refine⟨[],by simp,hK b ⟨?_,?_,?_,?_,pT,pR,pB,pF,aC0⟩ fun x y hx hn=> ?_⟩
 ·simp only[pvF,if_neg (show ¬ 0<p by omega)]
  exact hGb.congr fun a c ha _=>Fv Y _ t a c ha
 ·simp only[show decide ((p.natAbs:Int)<0)=decide (0<p) by rw[decide_eq_false (by omega),decide_eq_false (by omega)],Int.natAbs_natCast]
  exact hfb _ _ e3T nTi
 ·exact hfb _ _ e3B nBi
 ·exact hfb _ _ e3F nFi
 ·have hn2:=hn
  simp only[TG.all,List.mem_cons,not_or] at hn2
  exact hfb _ _ (e3f x y hx hn) hn2.2.2.2.2

abbrev qW (n m:Nat) (E:Nat→Nat→Rat) (rows:List Nat) (t:Lp.Tab):Prop:=Lp.Inv n m (n+m) (n+m+1) 1000 E rows t
def atR (rows:List Nat) (p:Nat):Nat:=rows.getD p 0
def bD (n m:Nat) (E:Nat→Nat→Rat) (rows:List Nat) (t:Lp.Tab) (fr:Nat→Bool):TN:=
 ⟨rows.length,n+m,fun p c=>Lp.zt m E t (atR rows p) c,Lp.dz m E t,fun p=>t.bs (atR rows p),fr⟩
def Rows (m:Nat) (rows:List Nat):Prop:= ∃P:Nat→Bool,rows=(List.range m).filter P
theorem Rows.lt {m:Nat} {rows:List Nat} (h:Rows m rows) {i:Nat} (hi:i∈rows):i<m:=by
 obtain⟨P,rfl⟩:=h
 simpa using (List.mem_filter.1 hi).1
theorem Rows.len {m:Nat} {rows:List Nat} (h:Rows m rows):rows.length≤m:=by
 obtain⟨P,rfl⟩:=h
 exact Nat.le_trans (List.length_filter_le _ _) (by simp)
theorem Rows.nodup {m:Nat} {rows:List Nat} (h:Rows m rows):rows.Nodup:=by
 obtain⟨P,rfl⟩:=h
 exact List.Pairwise.filter _ List.nodup_range
theorem dJ {rows:List Nat} {p:Nat} (h:p<rows.length):atR rows p∈rows:=by
 unfold atR
 rw[List.getD_eq_getElem?_getD,List.getElem?_eq_getElem h];exact List.getElem_mem h
theorem Rows.inj {m:Nat} {rows:List Nat} (h:Rows m rows) {p q:Nat} (hp:p<rows.length) (hq:q<rows.length) (e:atR rows p=atR rows q):p=q:=by
 have hn:=h.nodup
 unfold atR at e
 rw[List.getD_eq_getElem?_getD,List.getElem?_eq_getElem hp,List.getD_eq_getElem?_getD,List.getElem?_eq_getElem hq] at e
 have hp2:=List.pairwise_iff_getElem.1 hn
 simp only[Option.getD_some] at e
 rcases Nat.lt_trichotomy p q with g | g | g
 ·exact absurd e (hp2 p q hp hq g)
 ·exact g
 ·exact absurd e.symm (hp2 q p hq hp g)
theorem W3 (m:Nat):Rows m (List.range m):=⟨fun _=>true,(List.filter_eq_self.2 fun _ _=>rfl).symm⟩
theorem Bo (n m:Nat) (t:Lp.Tab):Rows m (Lp.bH n t m):=⟨fun i=>decide (t.bs i<n),rfl⟩
theorem Wj (l:List Nat) (x:Nat) (f:Nat→Rat):Lp.S (l++ [x]).length (fun p=>f (atR (l++ [x]) p))=Lp.S l.length (fun p=>f (atR l p))+f x:=by
 rw[List.length_append,List.length_singleton,Lp.S]
 congr 1
 ·exact Lp.aR fun p hp=>by unfold atR;rw[List.getD_eq_getElem?_getD,List.getD_eq_getElem?_getD,List.getElem?_append_left hp]
 ·unfold atR;rw[List.getD_eq_getElem?_getD,List.getElem?_append_right (Nat.le_refl _)];simp
theorem Rows.sum {m:Nat} {rows:List Nat} (h:Rows m rows) (f:Nat→Rat) (hf: ∀i,i<m→i∉rows→f i=0):Lp.S rows.length (fun p=>f (atR rows p))=Lp.S m f:=by
 obtain⟨P,rfl⟩:=h
 induction m with
 | zero => rfl
 | succ m ih =>
   rw[List.range_succ,List.filter_append]
   have hf': ∀i,i<m→i∉(List.range m).filter P→f i=0:=fun i hi hn=>hf i (by omega) fun hm=>hn (by
    rw[List.mem_filter] at hm ⊢
    exact⟨by simpa using hi,hm.2⟩)
   cases hP:P m with
   | true=>
     rw[show List.filter P [m]= [m] by simp[hP],Wj,ih hf',Lp.S]
   | false=>
     rw[show List.filter P [m]= [] by simp[hP],List.append_nil,ih hf',Lp.S,hf m (by omega) (fun hm=>by rw[List.mem_filter,hP] at hm;cases hm.2)]
     grind
theorem Oa :fC=10^66:=by unfold fC;rfl
theorem Z8 {n m:Nat} {E:Nat→Nat→Rat} {rows:List Nat} {t:Lp.Tab} (h:qW n m E rows t) (hm:m≤17) (hn:n+m≤100) (hr:Rows m rows):ZB rows.length (n+m) (fun p c=>Lp.zt m E t (atR rows p) c) (Lp.dz m E t):=by
 have hl:=Lp.nL hm
 rw[←Oa] at hl
 refine⟨fun p c hp hc=> ?_,?_,Lp.pO h.z,by have:=hr.len;omega,hn⟩
 ·have:=Lp.Qg h.z (hr.lt (dJ hp)) (show c<n+m+1 by omega)
  omega
 ·have:=Lp.Pn h.z
  have:=Lp.pO h.z
  omega
theorem Sm {n m:Nat} {E:Nat→Nat→Rat} {rows:List Nat} {t:Lp.Tab} (h:qW n m E rows t) (hr:Rows m rows) (O:Nat→Int) (k:Nat) (hk:k<n+m+1) (hO: ∀i,i<m→i∉rows→O (t.bs i)=0):
  ((gTo (fun p c=>Lp.zt m E t (atR rows p) c) (Lp.dz m E t) (fun p=>t.bs (atR rows p)) O k rows.length:Int):Rat)=Lp.dz m E t*Lp.rc m (fun c=>(O c:Rat)) t k:=by
 have key: ∀i,i≤rows.length→((gTo (fun p c=>Lp.zt m E t (atR rows p) c) (Lp.dz m E t) (fun p=>t.bs (atR rows p)) O k i:Int):Rat)=Lp.dz m E t*((O k:Rat) - Lp.S i fun p=>t.X (atR rows p) k*(O (t.bs (atR rows p)):Rat)):=by
  intro i
  induction i with
  | zero => intro _; rw [gTo, Rat.intCast_mul, Lp.S]; grind
  | succ i ih =>
    intro hi
    have hc:=Lp.fE h.z (hr.lt (dJ (show i<rows.length by omega))) hk
    rw[gTo,Lp.S]
    split
    ·rw[Rat.intCast_sub,Rat.intCast_mul,ih (by omega),hc];grind
    ·rename_i hno
     rw[ih (by omega)]
     have hz:t.X (atR rows i) k*(O (t.bs (atR rows i)):Rat)=0:=by
      by_cases g1:O (t.bs (atR rows i))=0
      ·rw[g1];grind
      ·have g2:Lp.zt m E t (atR rows i) k=0:=Classical.not_not.1 fun g2=>hno ⟨g1,g2⟩
       rw[(Lp.nZ h.z (hr.lt (dJ (show i<rows.length by omega))) hk).2.1 g2];grind
     rw[hz];grind
 rw[key _ (Nat.le_refl _)]
 unfold Lp.rc
 rw[hr.sum (fun i=>t.X i k*(O (t.bs i):Rat)) fun i hi hn=>by rw[hO i hi hn];grind]
theorem Dn {n m:Nat} {E:Nat→Nat→Rat} {rows:List Nat} {t:Lp.Tab} (h:qW n m E rows t) (hr:Rows m rows) (O:Nat→Int) (k:Nat) (hk:k<n+m+1) (hO: ∀i,i<m→i∉rows→O (t.bs i)=0):
  (0<gTo (fun p c=>Lp.zt m E t (atR rows p) c) (Lp.dz m E t) (fun p=>t.bs (atR rows p)) O k rows.length ↔ 0<Lp.rc m (fun c=>(O c:Rat)) t k)∧
  (gTo (fun p c=>Lp.zt m E t (atR rows p) c) (Lp.dz m E t) (fun p=>t.bs (atR rows p)) O k rows.length<0 ↔ Lp.rc m (fun c=>(O c:Rat)) t k<0):=by
 have e:=Sm h hr O k hk hO
 have hd:(0:Rat)<Lp.dz m E t:=Rat.intCast_pos.2 (Lp.pO h.z)
 generalize gTo (fun p c=>Lp.zt m E t (atR rows p) c) (Lp.dz m E t) (fun p=>t.bs (atR rows p)) O k rows.length=G at *
 generalize Lp.rc m (fun c=>(O c:Rat)) t k=q at *
 constructor
 ·rw[←Rat.intCast_pos,e]
  constructor
  ·intro hp
   rcases Lp.eO q 0 with g | g
   ·have:=Rat.mul_nonneg (show(0:Rat)≤Lp.dz m E t by grind) (show 0≤ -q by grind);grind
   ·exact g
  ·intro hp;exact Rat.mul_pos hd hp
 ·rw[show G<0 ↔ (G:Rat)<0 from by rw[←Rat.intCast_lt_intCast];rfl,e]
  constructor
  ·intro hp
   rcases Lp.eO 0 q with g | g
   ·have:=Rat.mul_nonneg (show(0:Rat)≤Lp.dz m E t by grind) g;grind
   ·exact g
  ·intro hp
   have:=Rat.mul_pos hd (show 0< -q by grind);grind
theorem N7 {n m:Nat} {E:Nat→Nat→Rat} {rows:List Nat} {t:Lp.Tab} (h:qW n m E rows t) (hr:Rows m rows) (k:Nat) (hk:k<n+m+1): ∀i,i≤rows.length→
  Lp.leave t (n+m) k (rows.take i)=(lvZ (fun p c=>Lp.zt m E t (atR rows p) c) (n+m) k (fun p=>t.bs (atR rows p)) i).map fun p=>atR rows p
 | 0, _ => by simp [lvZ, Lp.leave]
 | i + 1, hi => by
   have hlt:i<rows.length:=by omega
   have ih:=N7 h hr k hk i (by omega)
   have e:rows.take (i+1)=rows.take i++ [atR rows i]:=by
    unfold atR;rw[List.take_add_one,List.getElem?_eq_getElem hlt,List.getD_eq_getElem?_getD,List.getElem?_eq_getElem hlt];rfl
   have hm:=hr.lt (dJ hlt)
   have hs:=Lp.nZ h.z hm hk
   rw[e,Lp.xF,ih,lvZ]
   unfold Lp.lvStep
   by_cases hp:0<t.X (atR rows i) k
   ·rw[if_pos hp,if_neg (show ¬ Lp.zt m E t (atR rows i) k≤0 by have:=hs.1.2 hp;omega)]
    cases hb:lvZ (fun p c=>Lp.zt m E t (atR rows p) c) (n+m) k (fun p=>t.bs (atR rows p)) i with
    | none => rfl
    | some j =>
      simp only[Option.map_some]
      have hj:=vU hb
      have hjm:=hr.lt (dJ (show j<rows.length by omega))
      have hpj:0<t.X (atR rows j) k:=by
       have sU:atR rows j∈rows.take i∧0<t.X (atR rows j) k:=by
        have:=(Lp.jA t (n+m) k (rows.take i)).2 (atR rows j) (by rw[ih,hb];rfl)
        exact⟨this.1,this.2.1⟩
       exact sU.2
      have hq:=Lp.sK (a:=t.X (atR rows i) (n+m)) (b:=t.X (atR rows i) k) (c:=t.X (atR rows j) (n+m)) (d:=t.X (atR rows j) k) hp hpj
      have hd:(0:Rat)<Lp.dz m E t:=Rat.intCast_pos.2 (Lp.pO h.z)
      have c1:=Lp.fE h.z hm (show n+m<n+m+1 by omega)
      have c2:=Lp.fE h.z hm hk
      have c3:=Lp.fE h.z hjm (show n+m<n+m+1 by omega)
      have c4:=Lp.fE h.z hjm hk
      have l1:((Lp.zt m E t (atR rows i) (n+m)*Lp.zt m E t (atR rows j) k:Int):Rat)=t.X (atR rows i) (n+m)*t.X (atR rows j) k*((Lp.dz m E t:Rat)*Lp.dz m E t):=by rw[Rat.intCast_mul,c1,c4];grind
      have l2:((Lp.zt m E t (atR rows j) (n+m)*Lp.zt m E t (atR rows i) k:Int):Rat)=t.X (atR rows j) (n+m)*t.X (atR rows i) k*((Lp.dz m E t:Rat)*Lp.dz m E t):=by rw[Rat.intCast_mul,c2,c3];grind
      have hdd:=Rat.mul_pos hd hd
      have Un:Lp.quo t (n+m) k (atR rows i)<Lp.quo t (n+m) k (atR rows j) ↔ Lp.zt m E t (atR rows i) (n+m)*Lp.zt m E t (atR rows j) k<Lp.zt m E t (atR rows j) (n+m)*Lp.zt m E t (atR rows i) k:=by
       unfold Lp.quo
       rw[hq.1,←Rat.intCast_lt_intCast,l1,l2]
       generalize t.X (atR rows i) (n+m)*t.X (atR rows j) k=A
       generalize t.X (atR rows j) (n+m)*t.X (atR rows i) k=B
       generalize (Lp.dz m E t:Rat)*Lp.dz m E t=D at hdd
       constructor
       ·intro hh;have:=Rat.mul_pos (show 0<B - A by grind) hdd;grind
       ·intro hh
        rcases Lp.eO B A with g | g
        ·have:=Rat.mul_nonneg (show 0≤A - B by grind) (show 0≤D by grind);grind
        ·exact g
      have aG3:Lp.quo t (n+m) k (atR rows i)=Lp.quo t (n+m) k (atR rows j) ↔ Lp.zt m E t (atR rows i) (n+m)*Lp.zt m E t (atR rows j) k=Lp.zt m E t (atR rows j) (n+m)*Lp.zt m E t (atR rows i) k:=by
       unfold Lp.quo
       rw[hq.2,←Rat.intCast_inj,l1,l2]
       generalize t.X (atR rows i) (n+m)*t.X (atR rows j) k=A
       generalize t.X (atR rows j) (n+m)*t.X (atR rows i) k=B
       generalize (Lp.dz m E t:Rat)*Lp.dz m E t=D at hdd
       constructor
       ·intro hh;rw[hh]
       ·intro hh
        have:(A - B)*D=0:=by grind
        rcases Rat.mul_eq_zero.1 this with g | g
        ·grind
        ·grind
      by_cases hc:Lp.quo t (n+m) k (atR rows i)<Lp.quo t (n+m) k (atR rows j)∨Lp.quo t (n+m) k (atR rows i)=Lp.quo t (n+m) k (atR rows j)∧t.bs (atR rows i)<t.bs (atR rows j)
      ·rw[if_pos hc,if_pos (by rw[Un,aG3] at hc;exact hc)];rfl
      ·rw[if_neg hc,if_neg (by rw[Un,aG3] at hc;exact hc)];rfl
   ·rw[if_neg hp,if_pos (show Lp.zt m E t (atR rows i) k≤0 by
     rcases Int.lt_or_le 0 (Lp.zt m E t (atR rows i) k) with g | g
     ·exact absurd (hs.1.1 g) hp
     ·exact g)]
theorem La {n m:Nat} {E:Nat→Nat→Rat} {rows:List Nat} {t:Lp.Tab} (h:qW n m E rows t) (hr:Rows m rows) {p k:Nat} (hp:p<rows.length) (hk:k<n+m) (hx:t.X (atR rows p) k≠0) (fr:Nat→Bool):
  ∃Y,aE7 rows.length (n+m) p k (bD n m E rows t fr).Z (Lp.dz m E t) Y∧
   ∀b g,TT b g ⟨rows.length,n+m,pvF ((bD n m E rows t fr).Z p k) Y,(((bD n m E rows t fr).Z p k).natAbs:Int),pvB (bD n m E rows t fr).bs p k,fr⟩→TT b g (bD n m E rows (Lp.piv t (atR rows p) k) fr):=by
 have hm:=hr.lt (dJ hp)
 have hs:=Lp.nZ h.z hm (show k<n+m+1 by omega)
 have hne:Lp.zt m E t (atR rows p) k≠0:=fun e=>hx (hs.2.1 e)
 have hd:=Lp.pO h.z
 let z':Nat→Nat→Int:=fun a c=>Lp.zt m E (Lp.piv t (atR rows p) k) (atR rows a) c
 have hpz: ∀a c,a<rows.length→c≤n+m→_:=fun a c ha hc=>Lp.Uz h.z hm (show k<n+m+1 by omega) hx (hr.lt (dJ ha)) (show c<n+m+1 by omega)
 have Rw: ∀a,a<rows.length→(atR rows a=atR rows p ↔ a=p):=fun a ha=>⟨fun e=>hr.inj ha hp e,fun e=>by rw[e]⟩
 have hbs: ∀a,a<rows.length→(Lp.piv t (atR rows p) k).bs (atR rows a)=pvB (fun q=>t.bs (atR rows q)) p k a:=fun a ha=>by
  unfold pvB
  by_cases e:a=p
  ·rw[e,if_pos rfl,Lp.dK]
  ·rw[if_neg e,Lp.cC _ _ fun e2=>e ((Rw a ha).1 e2)]
 have hTT: ∀(Y:Nat→Nat→Int),(∀a c,a<rows.length→c≤n+m→pvF (Lp.zt m E t (atR rows p) k) Y a c=z' a c)→(Lp.dz m E (Lp.piv t (atR rows p) k)=((Lp.zt m E t (atR rows p) k).natAbs:Int))→ ∀b g,TT b g ⟨rows.length,n+m,pvF ((bD n m E rows t fr).Z p k) Y,(((bD n m E rows t fr).Z p k).natAbs:Int),pvB (bD n m E rows t fr).bs p k,fr⟩→TT b g (bD n m E rows (Lp.piv t (atR rows p) k) fr):=by
  intro Y h1 h2 b g hT
  have e1:iv (lb rows.length (pvB (fun q=>t.bs (atR rows q)) p k))=iv (lb rows.length fun q=>(Lp.piv t (atR rows p) k).bs (atR rows q)):=by
   unfold lb
   congr 1
   exact List.map_congr_left fun q hq=>by simp only[hbs q (by simpa using hq)]
  refine⟨hT.dW.congr fun a c ha hc=>h1 a c ha (by simp only at hc;omega),?_,?_,hT.fre,hT.pT,hT.pR,hT.pB,hT.pF,hT.nd⟩
  ·have:=hT.hd
   simp only[bD,h2] at this ⊢
   exact this
  ·have:=hT.ba
   simp only[bD] at this ⊢
   rw[←e1];exact this
 rcases Int.lt_or_gt_of_ne hne with cQ | pG
 ·refine⟨fun a c=> - z' a c,⟨fun a c ha hc hap=> ?_,fun c hc=> ?_,hne⟩,hTT _ (fun a c _ _=> ?_) ?_⟩
  ·have:=((hpz a c ha hc).2 cQ).2
   rw[if_neg fun e=>hap ((Rw a ha).1 e)] at this
   simp only[bD,z']
   rw[Int.neg_mul,this];omega
  ·have:=((hpz p c hp hc).2 cQ).2
   rw[if_pos rfl,←Int.neg_mul] at this
   have:=Int.eq_of_mul_eq_mul_right (by omega) this
   simp only[bD,z']
   rw[this];omega
  ·simp only[pvF,if_neg (show ¬ 0<Lp.zt m E t (atR rows p) k by omega)]
   omega
  ·rw[((hpz p 0 hp (Nat.zero_le _)).2 cQ).1];omega
 ·refine⟨z',⟨fun a c ha hc hap=> ?_,fun c hc=> ?_,hne⟩,hTT _ (fun a c _ _=> ?_) ?_⟩
  ·have:=((hpz a c ha hc).1 pG).2
   rw[if_neg fun e=>hap ((Rw a ha).1 e)] at this
   exact this
  ·have:=((hpz p c hp hc).1 pG).2
   rw[if_pos rfl] at this
   exact Int.eq_of_mul_eq_mul_right (by omega) this
  ·simp only[pvF,if_pos pG]
  ·rw[((hpz p 0 hp (Nat.zero_le _)).1 pG).1];omega

theorem Ip {b:Int→Option Blk} {g:Int} {l:List Int} (h0:0≤g) (h:b g=some ⟨1,iv l⟩) (m:Nat):frz b (m+1) (.lsl g 1 0 l.length)=some (.sl (iv l)):=by
 have h1:=gQ (n:=m) h0 h
 rw[fP (lS _),show(iv l).length=l.length by simp] at h1
 rw[h1];rfl
def wO (O:Nat→Int):Nat→Rat:=fun c=>(O c:Rat)
def fO (N:Nat) (fr:Nat→Bool):Nat→Prop:=fun c=>c<N∧fr c=true
structure aEL where
 j:Nat
 a:Bool
 b:Int→Option Blk
noncomputable def frK (m : Nat) (O : Nat → Int) (t : Lp.Tab) (fr : Nat → Bool) (k : Nat) : Nat → Bool := open Classical in fun c => if c < k then fr c && !decide (Lp.rc m (wO O) t c < 0) else fr c
theorem Jm (m:Nat) (O:Nat→Int) (t:Lp.Tab) (fr:Nat→Bool):frK m O t fr 0=fr:=by funext c;unfold frK;rw[if_neg (by omega)]
theorem Q4 {N k:Nat} (f:Nat→Bool) (v:Bool) (h:k<N):(lv N f).set k [.bool v]=lv N (fun c=>if c=k then v else f c):=by
 apply List.ext_getElem
 ·simp
 ·intro t h1 h2
  simp only[List.getElem_set,Nj]
  by_cases e:k=t
  ·subst e;simp
  ·rw[if_neg e,if_neg (Ne.symm e)]
theorem Sr {r:Nat} {bs:Nat→Nat} {k:Nat} :(k:Int)∈lb r bs ↔ ∃p,p<r∧bs p=k:=by
 unfold lb
 constructor
 ·intro h
  obtain⟨p,hp,e⟩:=List.mem_map.1 h
  exact⟨p,by simpa using hp,by omega⟩
 ·rintro⟨p,hp,e⟩
  exact List.mem_map.2 ⟨p,by simpa using hp,by rw[e]⟩
theorem tQ {bl:Int→Option Blk} {K:V→(Int→Option Blk)→Prop} (n m:Nat) (E:Nat→Nat→Rat) (rows:List Nat) (g:TG) (t:Lp.Tab) (fr:Nat→Bool) (O:Nat→Int) (gO:Int) (e:Nat)
  (hm:m≤17) (hn:n+m≤100) (hr:Rows m rows) (hO: ∀c,(O c).natAbs≤1000) (hO0:(∀i,i<m→i∈rows)∨ ∀c,n≤c→O c=0)
  (h1:Lp.nx (n+m) (n+m) rows (Lp.okW m (wO O) (fO (n+m) fr)) (Lp.orb (Lp.nx (n+m) (n+m) rows (Lp.okW m (wO O) (fO (n+m) fr))) t e)=none)
  (h2: ∀e',e'<e→(Lp.nx (n+m) (n+m) rows (Lp.okW m (wO O) (fO (n+m) fr)) (Lp.orb (Lp.nx (n+m) (n+m) rows (Lp.okW m (wO O) (fO (n+m) fr))) t e')).isSome=true)
  (hI: ∀e',e'≤e→qW n m E rows (Lp.orb (Lp.nx (n+m) (n+m) rows (Lp.okW m (wO O) (fO (n+m) fr))) t e'))
  (hTT:TT bl g (bD n m E rows t fr)) (hgO:bl gO=some ⟨1,iv (lz (n+m) O)⟩) (hg0:0≤gO) (hgn:gO∉g.all)
  (hT: ∀b',Lp.fstP (Lp.okW m (wO O) (fO (n+m) fr) (Lp.orb (Lp.nx (n+m) (n+m) rows (Lp.okW m (wO O) (fO (n+m) fr))) t e)) (n+m)=none→
    TT b' g (bD n m E rows (Lp.orb (Lp.nx (n+m) (n+m) rows (Lp.okW m (wO O) (fO (n+m) fr))) t e) (frK m O (Lp.orb (Lp.nx (n+m) (n+m) rows (Lp.okW m (wO O) (fO (n+m) fr))) t e) fr (n+m)))→
    (∀x y,bl x=some y→x∉g.all→b' x=some y)→K (.bool true) b')
  (hF: ∀b' k,Lp.fstP (Lp.okW m (wO O) (fO (n+m) fr) (Lp.orb (Lp.nx (n+m) (n+m) rows (Lp.okW m (wO O) (fO (n+m) fr))) t e)) (n+m)=some k→Lp.leave (Lp.orb (Lp.nx (n+m) (n+m) rows (Lp.okW m (wO O) (fO (n+m) fr))) t e) (n+m) k rows=none→
    TT b' g (bD n m E rows (Lp.orb (Lp.nx (n+m) (n+m) rows (Lp.okW m (wO O) (fO (n+m) fr))) t e) fr)→(∀x y,bl x=some y→x∉g.all→b' x=some y)→K (.bool false) b'):
  bJ Tryz.prog 205 [.loc g.T 6 0 0,.lsl gO 1 0 (n+m)] bl K:=by
 obtain⟨nxf,hnx⟩: ∃f,Lp.nx (n+m) (n+m) rows (Lp.okW m (wO O) (fO (n+m) fr))=f:=⟨_,rfl⟩
 rw[hnx] at h1 h2 hI hT hF
 obtain⟨N,hN⟩: ∃N,n+m=N:=⟨_,rfl⟩
 have hlz:(lz N O).length=N:=by simp
 have aCI: ∀t,qW n m E rows t→ ∀i,i<m→i∉rows→O (t.bs i)=0:=fun t h i hi hn=>by
  rcases hO0 with g1 | g1
  ·exact absurd (g1 i hi) hn
  ·exact g1 _ (h.dead i hi hn).1
 have aLW: ∀b t f,TT b g (bD n m E rows t f)→ ∀q,frz b (q+4) (.loc g.T 6 0 0)=some (.ptr (bD n m E rows t f).c):=fun b t f h q=>h.frz q
 have Rd: ∀t f k,qW n m E rows t→k<N→RO Tryz.prog 256 [.ptr (bD n m E rows t f).c,.sl (iv (lz N O)),.int .i64 k] (.int .i64 (gTo (fun p c=>Lp.zt m E t (atR rows p) c) (Lp.dz m E t) (fun p=>t.bs (atR rows p)) O k rows.length).sign):=fun t f k h hk=>by
  have:=Nt rows.length (n+m) (fun p c=>Lp.zt m E t (atR rows p) c) (Lp.dz m E t) (fun p=>t.bs (atR rows p)) f O k (Z8 h hm hn hr) hO (by omega) fun p hp=>h.lt _ (hr.lt (dJ hp))
  rw[hN] at this
  rw[show(bD n m E rows t f).c=jO rows.length N (fun p c=>Lp.zt m E t (atR rows p) c) (Lp.dz m E t) (fun p=>t.bs (atR rows p)) f by rw[←hN];rfl]
  exact this
 have aGQ: ∀t f k,qW n m E rows t→k<N→RO Tryz.prog 257 [.ptr (bD n m E rows t f).c,.int .i64 k] (.int .i64 (oI (lvZ (fun p c=>Lp.zt m E t (atR rows p) c) N k (fun p=>t.bs (atR rows p)) rows.length))):=fun t f k h hk=>by
  have:=V4 rows.length (n+m) (fun p c=>Lp.zt m E t (atR rows p) c) (Lp.dz m E t) (fun p=>t.bs (atR rows p)) f k (Z8 h hm hn hr) (by omega)
  rw[hN] at this
  rw[show(bD n m E rows t f).c=jO rows.length N (fun p c=>Lp.zt m E t (atR rows p) c) (Lp.dz m E t) (fun p=>t.bs (atR rows p)) f by rw[←hN];rfl]
  exact this
 have aF2: ∀(t:Lp.Tab) (k:Nat),RO Tryz.prog 255 [.sl (iv (lb rows.length fun p=>t.bs (atR rows p))),.int .i64 k] (.bool (decide ((k:Int)∈lb rows.length fun p=>t.bs (atR rows p)))):=fun t k=>rS _ k (by rw[Eb];have:=hr.len;omega)
 have aFO: ∀(t:Lp.Tab) (k:Nat),qW n m E rows t→((k:Int)∈lb rows.length fun p=>t.bs (atR rows p))→Lp.rc m (wO O) t k=0:=fun t k h hk=>by
  obtain⟨p,hp,e⟩:=Sr.1 hk
  rw[←e];exact Lp.mR h.z.ti _ (hr.lt (dJ hp))
 have hsg: ∀t k,qW n m E rows t→k<N→_:=fun t k h hk=>Dn h hr O k (show k<n+m+1 by omega) (aCI t h)
 rw[hN]
 rw[hN] at hgO
 refine aZ Tryz.func205 rfl rfl (by rw[Tryz.ntmps205];simp) ?_
 rw[Tryz.ntmps205,Tryz.results205]
 refine aE ?_
 simp
 refine aE ?_
 simp
 refine aK (fun q:aEL=> [(0,.loc g.T 6 0 0),(1,.lsl gO 1 0 N),(4,.bool false),(5,.bool q.a)]) (fun q=>q.b) (fun q=>q.j≤e∧TT q.b g (bD n m E rows (Lp.orb nxf t q.j) fr)∧(∀x y,bl x=some y→x∉g.all→q.b x=some y)∧(q.a=false→q.j=e∧Lp.fstP (Lp.okW m (wO O) (fO N fr) (Lp.orb nxf t e)) N=none)) (fun q=>2*(e - q.j)+if q.a=true then 1 else 0) _ ⟨0,true,bl⟩ ⟨Nat.zero_le _,hTT,fun _ _ h _=>h,fun h=>by cases h⟩ ⟨rfl,by simp,Sub.refl _⟩ ?_
 rintro⟨j,a,b⟩ ⟨hj,hTb,hfb,hab⟩
 simp only at hj hTb hfb hab
 have hbO:=hfb _ _ hgO hgn
 have aGB: ∀q,frz b (q+1) (.lsl gO 1 0 N)=some (.sl (iv (lz N O))):=fun q=>by have:=Ip hg0 hbO q;rwa [hlz] at this
 obtain⟨tj,htj⟩: ∃tj,Lp.orb nxf t j=tj:=⟨_,rfl⟩
 have hIj:=hI j hj
 rw[htj] at hTb hIj
 have bT:b g.T=_:=hTb.hd
 have bF:b g.F=_:=hTb.fre
 have z4T:frz b 4 (.loc g.T 6 0 0)=some (.ptr (bD n m E rows tj fr).c):=aLW b tj fr hTb 0
 have z4O:frz b 4 (.lsl gO 1 0 N)=some (.sl (iv (lz N O))):=aGB 3
 have z1B:frz b 1 (.lsl g.B 1 0 rows.length)=some (.sl (iv (lb rows.length fun p=>tj.bs (atR rows p)))):=hTb.aDF 0
 simp only[bD,hN] at bT bF
 cases a with
 | true =>
   refine aE ?_
   simp
   refine cD ?_
   refine aC ?_
   simp[bT]
   refine aK (fun k:Nat=> [(0,.loc g.T 6 0 0),(1,.lsl gO 1 0 N),(4,.bool false),(5,.bool false),(13,.int .i64 N),(14,.int .i64 k)]) (fun _=>b) (fun k=>k≤N∧ ∀c,c<k→ ¬ Lp.okW m (wO O) (fO N fr) tj c) (fun k=>N - k) _ 0 ⟨Nat.zero_le _,fun c hc=>absurd hc (Nat.not_lt_zero _)⟩ ⟨rfl,by simp,Sub.refl _⟩ ?_
   rintro k ⟨hk,zL⟩
   have wk:IntKind.i64.wrap ((k:Int)+1)=(k:Int)+1:=i64_in (by omega) (by omega)
   refine aE ?_
   simp
   refine aE ?_
   simp
   refine⟨fun hkN=> ?_,fun hkN=> ?_⟩
   ·refine cK (cD ?_)
    refine aE ?_
    simp
    refine aE ?_
    simp
    have hs:=hsg tj k hIj hkN
    have hG:=Rd tj fr k hIj hkN
    have hC:=aF2 tj k
    have hcb:=aFO tj k hIj
    generalize gTo (fun p c=>Lp.zt m E tj (atR rows p) c) (Lp.dz m E tj) (fun p=>tj.bs (atR rows p)) O k rows.length=G at hs hG
    refine aV [(0,.loc g.T 6 0 0),(1,.lsl gO 1 0 N),(4,.bool false),(5,.bool false),(6,.int .i64 k),(13,.int .i64 N),(14,.int .i64 k)] _ b 39 (.bool (open Classical in decide (¬ Lp.okW m (wO O) (fO N fr) tj k))) ⟨rfl,by simp,Sub.refl _⟩ rfl ?_ ?_
    ·cases hfk:fr k with
     | false =>
       have hno: ¬ Lp.okW m (wO O) (fO N fr) tj k:=fun h=>by have:=h.1.2;rw[hfk] at this;cases this
       simp[bT,bF,hkN,hfk,hno]
     | true =>
       simp[bT,bF,hkN,hfk]
       refine bS 1 (ys:= [.sl (iv (lb rows.length fun p=>tj.bs (atR rows p))),.int .i64 k]) (by simp[z1B];simp[frz]) hC rfl ?_
       simp
       refine⟨fun hin hok=> ?_,fun hnin=> ?_⟩
       ·have:=hok.2
        rw[hcb hin] at this;exact absurd this (by decide)
       ·refine bS 4 (ys:= [.ptr (bD n m E rows tj fr).c,.sl (iv (lz N O)),.int .i64 k]) (by simp[z4T,z4O];simp[frz]) hG rfl ?_
        simp
        have:Lp.okW m (wO O) (fO N fr) tj k ↔ 0<G:=by
         unfold Lp.okW fO
         rw[hs.1]
         exact⟨fun h=>h.2,fun h=>⟨⟨hkN,hfk⟩,h⟩⟩
        rw[this]
        by_cases hg:0<G
        ·simp[hg]
        ·simp[hg];omega
    simp
    refine⟨fun hno=> ?_,fun hok=> ?_⟩
    ·refine aC ?_
     simp[wk,aB]
     refine⟨k+1,⟨by omega,fun c hc=> ?_⟩,by omega,rfl,by simp,Sub.refl _⟩
     by_cases ec:c=k
     ·rw[ec];exact hno
     ·exact zL c (by omega)
    have C4:Lp.fstP (Lp.okW m (wO O) (fO N fr) tj) N=some k:=Lp.dZ.2 ⟨hkN,hok,zL⟩
    have hLv:=aGQ tj fr k hIj hkN
    have hll:=N7 hIj hr k (by omega) rows.length (Nat.le_refl _)
    rw[List.take_length,hN] at hll
    refine aE ?_
    simp
    refine bS 4 (ys:= [.ptr (bD n m E rows tj fr).c,.int .i64 k]) (by simp[z4T];simp[frz]) hLv rfl ?_
    simp
    cases hlv:lvZ (fun p c=>Lp.zt m E tj (atR rows p) c) N k (fun p=>tj.bs (atR rows p)) rows.length with
    | none =>
      rw[hlv] at hll
      have hnn:nxf tj=none:=by
       rw[←hnx]
       cases hs2:Lp.nx (n+m) (n+m) rows (Lp.okW m (wO O) (fO (n+m) fr)) tj with
       | none => rfl
       | some q =>
         obtain⟨q1,q2⟩:=Lp.oD.1 hs2
         rw[hN,C4] at q1
         cases q1
         rw[hN,hll] at q2;cases q2
      have hje:j=e:=by
       by_cases hlt:j<e
       ·have:=h2 j hlt
        rw[htj,hnn] at this;cases this
       ·omega
      subst hje
      rw[htj] at hF
      rw[hN] at hF
      refine aC ?_
      simp[oI]
      rw[aX]
      exact⟨[.bool false],by simp,hF b k C4 hll hTb hfb⟩
    | some p =>
      rw[hlv] at hll
      have hp:=vU hlv
      have cQ: ¬ (p:Int)<0:=by omega
      have hnn:nxf tj=some (atR rows p,k):=by
       rw[←hnx]
       exact Lp.oD.2 ⟨by rw[hN];exact C4,by rw[hN];exact hll⟩
      have hje:j<e:=by
       by_cases hlt:j<e
       ·exact hlt
       ·have:j=e:=by omega
        rw[this] at htj
        rw[htj,hnn] at h1;cases h1
      have aK9:Lp.orb nxf t (j+1)=Lp.piv tj (atR rows p) k:=by
       rw[Lp.orb,htj,hnn]
      have hx:tj.X (atR rows p) k≠0:=by
       have:=((Lp.jA tj N k rows).2 _ hll).2.1
       grind
      obtain⟨Y,hY,hYT⟩:=La hIj hr hp (show k<n+m by omega) hx fr
      refine aE ?_
      simp[oI,cQ]
      refine aE ?_
      simp
      refine P2 g (bD n m E rows tj fr) p k Y hTb (Z8 hIj hm hn hr) hp (show k<n+m by omega) hY fun b' hT' hf'=> ?_
      simp
      refine aC ?_
      simp[aB]
      refine⟨⟨j+1,true,b'⟩,⟨by simp only;omega,?_,fun x y hx hn=>hf' x y (hfb x y hx hn) hn,fun h=>by cases h⟩,by simp only[if_true];omega,rfl,by simp,Sub.refl _⟩
      simp only
      rw[aK9]
      exact hYT b' g hT'
   ·have Va:k=N:=by omega
    subst Va
    have C4:Lp.fstP (Lp.okW m (wO O) (fO k fr) tj) k=none:=Lp.eJ.2 zL
    have hnn:nxf tj=none:=by
     rw[←hnx,hN]
     unfold Lp.nx
     rw[C4]
    have hje:j=e:=by
     by_cases hlt:j<e
     ·have:=h2 j hlt
      rw[htj,hnn] at this;cases this
     ·omega
    subst hje
    simp[aB]
    exact⟨⟨j,false,b⟩,⟨Nat.le_refl _,by simp only;rw[htj];exact hTb,hfb,fun _=>⟨rfl,by rw[htj];exact C4⟩⟩,by simp,rfl,by simp,Sub.refl _⟩
 | false =>
   obtain⟨hje,C4⟩:=hab rfl
   subst hje
   rw[htj] at hT C4
   rw[hN] at hT
   clear hF h1 h2
   have aLC:=hgO
   refine aE ?_
   simp
   refine aE ?_
   simp[bT]
   refine aK (fun q:J4=> [(0,.loc g.T 6 0 0),(1,.lsl gO 1 0 N),(53,.int .i64 N),(54,.int .i64 q.j)]) (fun q=>q.b) (fun q=>q.j≤N∧TT q.b g (bD n m E rows tj (frK m O tj fr q.j))∧(∀x y,bl x=some y→x∉g.all→q.b x=some y)) (fun q=>N - q.j) _ ⟨0,b⟩ ⟨Nat.zero_le _,by simp only;rw[Jm];exact hTb,hfb⟩ ⟨rfl,by simp,Sub.refl _⟩ ?_
   clear hbO aGB bT bF z4T z4O z1B hTb hfb hgO
   rintro⟨k,b⟩ ⟨hk,hTb,hfb⟩
   simp only at hk hTb hfb
   have wk:IntKind.i64.wrap ((k:Int)+1)=(k:Int)+1:=i64_in (by omega) (by omega)
   have hbO:=hfb _ _ aLC hgn
   have z4O:frz b 4 (.lsl gO 1 0 N)=some (.sl (iv (lz N O))):=by have:=Ip hg0 hbO 3;rwa [hlz] at this
   have z4T:frz b 4 (.loc g.T 6 0 0)=some (.ptr (bD n m E rows tj (frK m O tj fr k)).c):=hTb.frz 0
   have z1B:frz b 1 (.lsl g.B 1 0 rows.length)=some (.sl (iv (lb rows.length fun p=>tj.bs (atR rows p)))):=hTb.aDF 0
   have bT:b g.T=_:=hTb.hd
   have bF:b g.F=_:=hTb.fre
   simp only[bD,hN] at bT bF
   refine aE ?_
   simp
   refine aE ?_
   simp
   refine⟨fun hkN=> ?_,fun hkN=> ?_⟩
   ·refine cK (cD ?_)
    refine aE ?_
    simp
    refine aE ?_
    simp
    have hs:=hsg tj k hIj hkN
    have hG:=Rd tj (frK m O tj fr k) k hIj hkN
    have hC:=aF2 tj k
    have hcb:=aFO tj k hIj
    have hfk:frK m O tj fr k k=fr k:=by unfold frK;rw[if_neg (by omega)]
    generalize gTo (fun p c=>Lp.zt m E tj (atR rows p) c) (Lp.dz m E tj) (fun p=>tj.bs (atR rows p)) O k rows.length=G at hs hG
    refine aV [(0,.loc g.T 6 0 0),(1,.lsl gO 1 0 N),(8,.int .i64 k),(53,.int .i64 N),(54,.int .i64 k)] _ b 79 (.bool (open Classical in fr k && decide (Lp.rc m (wO O) tj k<0))) ⟨rfl,by simp,Sub.refl _⟩ rfl ?_ ?_
    ·cases hfk2:fr k with
     | false =>
       rw[hfk2] at hfk
       simp[bT,bF,hkN,hfk]
     | true =>
       rw[hfk2] at hfk
       simp[bT,bF,hkN,hfk]
       refine bS 1 (ys:= [.sl (iv (lb rows.length fun p=>tj.bs (atR rows p))),.int .i64 k]) (by simp[z1B];simp[frz]) hC rfl ?_
       simp
       have e2:Lp.rc m (wO O) tj k<0 ↔ G<0:=hs.2.symm
       by_cases hin:(k:Int)∈lb rows.length fun p=>tj.bs (atR rows p)
       ·have: ¬ Lp.rc m (wO O) tj k<0:=by rw[hcb hin];decide
        simp[hin,this]
       ·simp[hin]
        refine bS 4 (ys:= [.ptr (bD n m E rows tj (frK m O tj fr k)).c,.sl (iv (lz N O)),.int .i64 k]) (by simp[z4T,z4O];simp[frz]) hG rfl ?_
        simp
        rw[e2]
    have Qa: ∀c,frK m O tj fr (k+1) c=if c=k then(open Classical in fr k && !decide (Lp.rc m (wO O) tj k<0)) else frK m O tj fr k c:=fun c=>by
     unfold frK
     by_cases e1:c=k
     ·subst e1;rw[if_pos (by omega),if_pos rfl]
     ·rw[if_neg e1]
      by_cases e2:c<k
      ·rw[if_pos (by omega),if_pos e2]
      ·rw[if_neg (by omega),if_neg e2]
    have nds:=hTb.nd
    simp
    refine aC ?_
    simp
    refine⟨fun h1 h2=> ?_,fun hno=> ?_⟩
    ·simp[bT,bF,hkN]
     refine aC ?_
     simp[wk,aB]
     have e1:(lv N (frK m O tj fr k)).set k [.bool false]=lv N (frK m O tj fr (k+1)):=by
      rw[Q4 _ _ hkN]
      unfold lv
      refine List.map_congr_left fun c _=> ?_
      rw[Qa c]
      show [V.bool (if c=k then false else frK m O tj fr k c)]=_
      by_cases e:c=k
      ·rw[if_pos e,if_pos e];simp[h1,h2]
      ·rw[if_neg e,if_neg e]
     rw[e1]
     refine⟨⟨k+1,upd b g.F (some ⟨1,lv N (frK m O tj fr (k+1))⟩)⟩,⟨by simp only;omega,?_,fun x y hx hn=> ?_⟩,by simp only;omega,rfl,by simp,Sub.refl _⟩
     ·simp only[List.nodup_cons,List.mem_cons,not_or] at nds
      obtain⟨⟨nTR,nTB,nTF,nTi⟩,⟨nRB,nRF,nRi⟩,⟨nBF,nBi⟩,nFi,_⟩:=nds
      show TT (upd b g.F (some ⟨1,lv N (frK m O tj fr (k+1))⟩)) g (bD n m E rows tj (frK m O tj fr (k+1)))
      refine⟨hTb.dW.gL fun x y hx hy=> ?_,?_,?_,?_,hTb.pT,hTb.pR,hTb.pB,hTb.pF,hTb.nd⟩
      ·rw[aL _ _ _ _ (by rintro rfl;rcases hx with hx | hx;exact nRF hx.symm;exact nFi hx)];exact hy
      ·rw[aL _ _ _ _ nTF];exact hTb.hd
      ·rw[aL _ _ _ _ nBF];exact hTb.ba
      ·simp[bD,hN]
     ·simp only
      rw[aL _ _ _ _ (by rintro rfl;exact hn (by simp[TG.all]))];exact hfb x y hx hn
    ·refine aC ?_
     simp[wk,aB]
     refine⟨⟨k+1,b⟩,⟨by simp only;omega,?_,hfb⟩,by simp only;omega,rfl,by simp,Sub.refl _⟩
     have e1:frK m O tj fr (k+1)=frK m O tj fr k:=by
      funext c
      rw[Qa c]
      by_cases e:c=k
      ·subst e
       rw[if_pos rfl,hfk]
       cases hfc:fr c with
       | false => rfl
       | true => have := hno hfc; simp; grind
      ·rw[if_neg e]
     simp only
     rw[e1];exact hTb
   ·have Va:k=N:=by omega
    subst Va
    refine aC ?_
    simp
    rw[aX]
    exact⟨[.bool true],by simp,hT b C4 hTb hfb⟩

def eG (n m:Nat) (t:Lp.Tab) (j:Nat):List Nat:=Lp.bH n t j++(List.range (m - j)).map (j+ ·)
theorem rD {n m j:Nat} (t:Lp.Tab) (hj:j≤m):eG n m t j=(List.range m).filter fun x=>decide (j≤x)|| decide (t.bs x<n):=by
 obtain⟨d,rfl⟩: ∃d,m=j+d:=⟨m - j,by omega⟩
 rw[List.range_add,List.filter_append]
 unfold eG Lp.bH
 rw[show j+d - j=d by omega]
 congr 1
 ·refine List.filter_congr fun x hx=> ?_
  have:x<j:=by simpa using hx
  rw[decide_eq_false (show ¬ j≤x by omega),Bool.false_or]
 ·symm
  rw[List.filter_eq_self]
  intro x hx
  obtain⟨y,_,rfl⟩:=List.mem_map.1 hx
  simp
theorem Y0 {n m j:Nat} (t:Lp.Tab) (hj:j≤m):Rows m (eG n m t j):=⟨_,rD t hj⟩
theorem yW {n m j x:Nat} {t:Lp.Tab} (hj:j≤m):x∈eG n m t j ↔ x<m∧(j≤x∨t.bs x<n):=by
 rw[rD t hj,List.mem_filter]
 simp
theorem Bl (n m j:Nat) (t:Lp.Tab):(eG n m t j).length=(Lp.bH n t j).length+(m - j):=by simp[eG]
theorem Fo {n m j:Nat} {t:Lp.Tab} (hj:j<m):atR (eG n m t j) (Lp.bH n t j).length=j:=by
 unfold atR eG
 rw[List.getD_eq_getElem?_getD,List.getElem?_append_right (Nat.le_refl _),Nat.sub_self,List.getElem?_eq_getElem (by simp;omega)]
 simp
theorem W1 (n m:Nat) (t:Lp.Tab):eG n m t 0=List.range m:=by
 have e:(fun x=>0+x)=(id:Nat→Nat):=by funext x;simp
 unfold eG Lp.bH
 simp only[Nat.sub_zero,List.range_zero,List.filter_nil,List.nil_append]
 rw[show(List.range m).map (0+ ·)=(List.range m).map id from congrArg (fun f=>(List.range m).map f) e,List.map_id]
theorem Bi (n m:Nat) (t:Lp.Tab):eG n m t m=Lp.bH n t m:=by simp[eG]
theorem yY (n j:Nat) (t:Lp.Tab):Lp.bH n t (j+1)=if t.bs j<n then Lp.bH n t j++ [j] else Lp.bH n t j:=by
 unfold Lp.bH
 rw[List.range_succ,List.filter_append]
 by_cases h:t.bs j<n<;>simp[h]
theorem V9 {n j:Nat} {t t':Lp.Tab} (h: ∀x,x<j→t.bs x=t'.bs x):Lp.bH n t j=Lp.bH n t' j:=by
 unfold Lp.bH
 exact List.filter_congr fun x hx=>by rw[h x (by simpa using hx)]
theorem uR {n m j:Nat} {t t':Lp.Tab} (hj:j<m) (h: ∀x,x<j→t.bs x=t'.bs x) (hb:t'.bs j<n):eG n m t' (j+1)=eG n m t j∧(Lp.bH n t' (j+1)).length=(Lp.bH n t j).length+1:=by
 have e:(List.range (m - j)).map (j+ ·)=j::(List.range (m - (j+1))).map (j+1+ ·):=by
  rw[show m - j=(m - (j+1))+1 by omega,List.range_succ_eq_map,List.map_cons,List.map_map]
  congr 1
  exact List.map_congr_left fun x _=>by simp;omega
 have e2:Lp.bH n t' (j+1)=Lp.bH n t j++ [j]:=by rw[yY,if_pos hb,V9 h]
 unfold eG
 rw[e2,e]
 simp
theorem R8 {n m j:Nat} {t:Lp.Tab} (hj:j<m) (hb: ¬ t.bs j<n):eG n m t (j+1)=(eG n m t j).take (Lp.bH n t j).length++(eG n m t j).drop ((Lp.bH n t j).length+1)∧Lp.bH n t (j+1)=Lp.bH n t j:=by
 have e:(List.range (m - j)).map (j+ ·)=j::(List.range (m - (j+1))).map (j+1+ ·):=by
  rw[show m - j=(m - (j+1))+1 by omega,List.range_succ_eq_map,List.map_cons,List.map_map]
  congr 1
  exact List.map_congr_left fun x _=>by simp;omega
 have e2:Lp.bH n t (j+1)=Lp.bH n t j:=by rw[yY,if_neg hb]
 refine⟨?_,e2⟩
 unfold eG
 rw[e2,e,List.take_append_of_le_length (Nat.le_refl _),List.take_length,List.drop_append,List.drop_eq_nil_of_le (by omega),Nat.add_sub_cancel_left]
 rfl
theorem Da {n m j:Nat} {E:Nat→Nat→Rat} {t:Lp.Tab} (h:Lp.yN n m (n+m+1) 1000 E j t) (hj:j≤m):qW n m E (eG n m t j) t:=
 ⟨h.z,h.nn,fun i hi=>((yW hj).1 hi).1,fun i hi hn=>by
   have: ¬ (j≤i∨t.bs i<n):=fun h=>hn ((yW hj).2 ⟨hi,h⟩)
   have hb: ¬ t.bs i<n:=fun h=>this (.inr h)
   exact⟨by omega,h.zero i hi hb,h.done i (by omega) hb⟩,h.lt⟩
theorem Bb (rows:List Nat) (i p:Nat) (hi:i<rows.length) (hp:p<rows.length - 1):atR (rows.take i++rows.drop (i+1)) p=atR rows (if p<i then p else p+1):=by
 unfold atR
 rw[List.getD_eq_getElem?_getD,List.getD_eq_getElem?_getD]
 congr 1
 by_cases h:p<i
 ·rw[if_pos h,List.getElem?_append_left (by simp;omega),List.getElem?_take,if_pos h]
 ·rw[if_neg h,List.getElem?_append_right (by simp;omega),List.length_take,Nat.min_eq_left (by omega),List.getElem?_drop,show i+1+(p - i)=p+1 by omega]
theorem C2 {α:Type} (l:List α) (i p:Nat) (hi:i<l.length):(l.take i++l.drop (i+1))[p]? =if p<i then l[p]? else l[p+1]? :=by
 by_cases h:p<i
 ·rw[if_pos h,List.getElem?_append_left (by simp;omega),List.getElem?_take,if_pos h]
 ·rw[if_neg h,List.getElem?_append_right (by simp;omega),List.length_take,Nat.min_eq_left (by omega),List.getElem?_drop,show i+1+(p - i)=p+1 by omega]
theorem TT.cut {b b':Int→Option Blk} {g:TG} {n m:Nat} {E:Nat→Nat→Rat} {rows:List Nat} {t:Lp.Tab} {fr:Nat→Bool} (h:TT b g (bD n m E rows t fr)) {i:Nat} (hi:i<rows.length) (gR gB:Int)
  (hR:b' gR=some ⟨1,(g.ids.take i++g.ids.drop (i+1)).map fun g=> [.lsl g 2 0 (n+m+1)]⟩) (hB:b' gB=some ⟨1,(iv (lb rows.length fun p=>t.bs (atR rows p))).take i++(iv (lb rows.length fun p=>t.bs (atR rows p))).drop (i+1)⟩)
  (hT:b' g.T=some ⟨6,[[.lsl gR 1 0 (rows.length - 1),.bool (decide (Lp.dz m E t<0)),.sl (iv (lim (Lp.dz m E t).natAbs)),.lsl gB 1 0 (rows.length - 1),.int .i64 (n+m:Nat),.lsl g.F 1 0 (n+m)]]⟩)
  (hF:b' g.F=b g.F) (hid: ∀x,x∈g.ids→b' x=b x) (nR:gR<0→rows.length - 1=0) (nB:gB<0→rows.length - 1=0) (hd:(g.T::gR::gB::g.F::g.ids).Nodup):
  TT b' ⟨g.T,gR,gB,g.F,g.ids.take i++g.ids.drop (i+1)⟩ (bD n m E (rows.take i++rows.drop (i+1)) t fr):=by
 have hl:=h.dW.len
 simp only[bD] at hl
 have mK: ∀x,x∈g.ids.take i++g.ids.drop (i+1)→x∈g.ids:=fun x hx=>by
  rcases List.mem_append.1 hx with hx | hx
  ·exact List.mem_of_mem_take hx
  ·exact List.mem_of_mem_drop hx
 have hrl:(rows.take i++rows.drop (i+1)).length=rows.length - 1:=by simp;omega
 have hil:(g.ids.take i++g.ids.drop (i+1)).length=rows.length - 1:=by simp;omega
 have hsl:(g.ids.take i++g.ids.drop (i+1)).Sublist g.ids:=by
  conv=>rhs;rw[←List.take_append_drop i g.ids]
  refine List.Sublist.append (List.Sublist.refl _) ?_
  rw[←List.drop_drop]
  exact List.drop_sublist _ _
 refine⟨⟨by simp only[bD];rw[hil,hrl],hR,fun p x hp=> ?_,fun x hx=>h.dW.pos x (mK x hx),fun p q x hp hq=> ?_,fun hm=> ?_⟩,?_,?_,?_,h.pT,?_,?_,h.pF,?_⟩
 ·have hlt:p<rows.length - 1:=by rw[←hil];exact(List.getElem?_eq_some_iff.1 hp).1
  rw[hid x (mK x (List.mem_of_getElem? hp))]
  rw[C2 _ _ _ (by omega)] at hp
  simp only[bD]
  rw[Bb _ _ _ hi hlt]
  split at hp
  ·rename_i h1;rw[if_pos h1];exact h.dW.row p x hp
  ·rename_i h1;rw[if_neg h1];exact h.dW.row (p+1) x hp
 ·rw[C2 _ _ _ (by omega)] at hp hq
  split at hp<;>split at hq
  ·exact h.dW.inj p q x hp hq
  ·have:=h.dW.inj p (q+1) x hp hq;omega
  ·have:=h.dW.inj (p+1) q x hp hq;omega
  ·have:=h.dW.inj (p+1) (q+1) x hp hq;omega
 ·simp only[List.nodup_cons,List.mem_cons,not_or] at hd
  exact hd.2.1.2.2 (mK _ hm)
 ·simp only[bD];rw[hrl];exact hT
 ·simp only[bD];rw[hB]
  congr 2
  apply List.ext_getElem?
  intro p
  rw[C2 _ _ _ (by simpa using hi),hrl]
  by_cases hp:p<rows.length - 1
  ·have e1:=Bb rows i p hi hp
   rw[List.getElem?_eq_getElem (show p<(iv (lb (rows.length - 1) fun p=>t.bs (atR (rows.take i++rows.drop (i+1)) p))).length by simpa using hp),lB,uL,e1]
   split
   ·rename_i h1
    rw[List.getElem?_eq_getElem (by simp;omega),lB,uL]
   ·rename_i h1
    rw[List.getElem?_eq_getElem (by simp;omega),lB,uL]
  ·rw[if_neg (by omega),List.getElem?_eq_none (by simp;omega),List.getElem?_eq_none (by simp;omega)]
 ·simp only[bD];rw[hF];exact h.fre
 ·simp only[bD];rw[hrl];exact nR
 ·simp only[bD];rw[hrl];exact nB
 ·simp only[List.nodup_cons,List.mem_cons,not_or] at hd ⊢
  obtain⟨⟨a1,a2,a3,a4⟩,⟨b1,b2,b3⟩,⟨c1,c2⟩,d1,d2⟩:=hd
  exact⟨⟨a1,a2,a3,fun h=>a4 (mK _ h)⟩,⟨b1,b2,fun h=>b3 (mK _ h)⟩,⟨c1,fun h=>c2 (mK _ h)⟩,fun h=>d1 (mK _ h),List.Pairwise.sublist hsl d2⟩
end Go.Proofs.YticmgmemnpcbbaaGreat.Vm
