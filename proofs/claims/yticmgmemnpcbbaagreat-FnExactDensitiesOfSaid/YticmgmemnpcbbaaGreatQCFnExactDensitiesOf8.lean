import Derived.Test.YticmgmemnpcbbaaGreatQCFnExactDensitiesOf7

namespace Go.Proofs.YticmgmemnpcbbaaGreat.Lp
set_option linter.unusedSimpArgs false
set_option linter.unusedVariables false
open Classical
structure Init (n m K : Nat) (E : Nat → Nat → Rat) : Prop where
 ints:aHH m (n+m+1) K E
 art: ∀i j,i<m→j<m→E i (n+j)=if i=j then 1 else 0
 nn: ∀i,i<m→0≤E i (n+m)
def kR (n:Nat) (E:Nat→Nat→Rat):Tab:=⟨E,fun i=>n+i⟩
theorem Init.inv {n m K:Nat} {E:Nat→Nat→Rat} (h:Init n m K E):Inv n m (n+m) (n+m+1) K E (List.range m) (kR n E):=by
 refine⟨⟨⟨fun i hi=>⟨fun l=>if l=i then 1 else 0,fun c=> ?_⟩,fun l hl c=> ?_,fun i j hi hj=> ?_⟩,h.ints,fun i hi=> ?_,?_⟩,h.nn,fun i hi=>by simpa using hi,fun i hi hn=>absurd (by simpa using hi) hn,fun i hi=>by show n+i<_;omega⟩
 ·rw[dI hi]
  ·simp[kR]
  ·intro j _ hne;show(if j=i then(1:Rat) else 0)*E j c=0;rw[if_neg hne];grind
 ·show E l c=S m fun i=>E i c*E l (n+i)
  rw[dI hl,h.art l l hl hl,if_pos rfl]
  ·grind
  ·intro j hj hne;rw[h.art l j hl hj,if_neg (Ne.symm hne)];grind
 ·exact h.art i j hi hj
 ·show n+i<_
  omega
 ·show det m (fun j i=>E i (n+j))≠0
  rw[Cn m _ fun j i hj hi=>by rw[h.art i j hi hj];by_cases e:j=i
                              ·rw[if_pos e,if_pos e.symm]
                              ·rw[if_neg e,if_neg (Ne.symm e)]]
  decide
theorem aLQ {v:Nat→Rat} :iK 1 v ↔ 0<v 0:=by
 constructor
 ·rintro⟨q,h1,h2,_⟩
  obtain rfl:q=0:=by omega
  exact h2
 ·exact fun h=>⟨0,by omega,h,fun j hj=>by omega⟩
def okW (m:Nat) (w:Nat→Rat) (F:Nat→Prop) (t:Tab) (c:Nat):Prop:=F c∧0<rc m w t c
theorem Nu {n m b N' N:Nat} {w:Nat→Rat} {F:Nat→Prop} {rows:List Nat} (hF: ∀c,F c→c<N') (hN:N'≤N) (hB:N'≤b) (hf:(∀c,F c→c<n)∨ ∀i,i<m→i∈rows):uU n m b 1 N' N (fun _=>w) F rows (okW m w F):=
 ⟨fun t c _=>by unfold okW;rw[aLQ],hF,hN,hB,hf⟩
theorem I0 {n m N K:Nat} {E:Nat→Nat→Rat} {t:Tab} (h:Inv n m (n+m) N K E (List.range m) t) {k:Nat} (hk:0<rc m (aZ n m) t k):leave t (n+m) k (List.range m)≠none:=by
 intro hl
 have h1:=(lU t (n+m) k (List.range m)).1 hl
 have h2:0≤S m fun i=>t.X i k*aZ n m (t.bs i):=jK fun i hi=>by
  have:=h1 i (by simpa using hi)
  unfold aZ;split<;>grind
 have h3:aZ n m k≤0:=by unfold aZ;split<;>decide
 unfold rc at hk
 grind
structure qH (n m N K : Nat) (E : Nat → Nat → Rat) (t : Tab) : Prop where
 inv:Inv n m (n+m) N K E (List.range m) t
 up: ∀c,c<n→rc m (aZ n m) t c≤0
theorem qH.sum {n m N K:Nat} {E:Nat→Nat→Rat} {t:Tab} (h:qH n m N K E t):0≤rc m (aZ n m) t (n+m):=by
 rw[wJ rfl]
 exact jK fun i hi=>by
  split
  ·exact h.inv.nn i hi
  ·exact Rat.le_refl
theorem qH.no {n m N K:Nat} {E:Nat→Nat→Rat} {t:Tab} (h:qH n m N K E t) (hp:rc m (aZ n m) t (n+m)≠0) (x:Nat→Rat): ¬ jR n m E (n+m) x:=
 Ls rfl h.inv.z.ti h.inv.nn h.up (by have:=h.sum;grind) x
theorem qH.zero {n m N K:Nat} {E:Nat→Nat→Rat} {t:Tab} (h:qH n m N K E t) (hp:rc m (aZ n m) t (n+m)=0): ∀i,i<m→ ¬ t.bs i<n→t.X i (n+m)=0:=Pt rfl h.inv.nn hp h.inv.lt
theorem qH.Ou {n m N K:Nat} {E:Nat→Nat→Rat} {t:Tab} (h:qH n m N K E t) (hp:rc m (aZ n m) t (n+m)=0):jR n m E (n+m) (xb m (n+m) t):=tX h.inv.z.ti h.inv.nn (h.zero hp)
theorem sU {n m N' K:Nat} {E:Nat→Nat→Rat} {F:Nat→Prop} (h:Init n m K E) (hF: ∀c,F c→c<N') (hN:N'≤n+m) (hFn: ∀c,c<n→c<N'∧F c):
  ∃e,fstP (okW m (aZ n m) F (orb (nx N' (n+m) (List.range m) (okW m (aZ n m) F)) (kR n E) e)) N'=none∧
   (∀e',e'<e→(nx N' (n+m) (List.range m) (okW m (aZ n m) F) (orb (nx N' (n+m) (List.range m) (okW m (aZ n m) F)) (kR n E) e')).isSome=true)∧
   (∀e',e'≤e→Inv n m (n+m) (n+m+1) K E (List.range m) (orb (nx N' (n+m) (List.range m) (okW m (aZ n m) F)) (kR n E) e'))∧qH n m (n+m+1) K E (orb (nx N' (n+m) (List.range m) (okW m (aZ n m) F)) (kR n E) e):=by
 have R:uU n m (n+m) 1 N' (n+m+1) (fun _=>aZ n m) F (List.range m) (okW m (aZ n m) F):=Nu hF (by omega) hN (.inr fun i hi=>by simpa using hi)
 obtain⟨e,h1,h2,h3⟩:=R.ends h.inv
 have hI:=h3 e (Nat.le_refl _)
 have hf:fstP (okW m (aZ n m) F (orb (nx N' (n+m) (List.range m) (okW m (aZ n m) F)) (kR n E) e)) N'=none:=by
  rcases Gu h1 with g | ⟨k,g1,g2⟩
  ·exact g
  ·exact absurd g2 (I0 hI (dD.1 g1).2.1.2)
 refine⟨e,hf,h2,h3,hI,fun c hc=> ?_⟩
 have:=eP.1 hf c (hFn c hc).1
 unfold okW at this
 rcases gD (rc m (aZ n m) (orb (nx N' (n+m) (List.range m) (okW m (aZ n m) F)) (kR n E) e) c) 0 with g | g
 ·exact g
 ·exact absurd ⟨(hFn c hc).2,g⟩ this
noncomputable def kY (n : Nat) (t : Tab) (i : Nat) : Tab := if t.bs i < n then t else match fstP (fun k => t.X i k ≠ 0) n with
 | some k => piv t i k
 | none => t
noncomputable def kicks (n : Nat) (t : Tab) : Nat → Tab
 | 0 => t
 | i + 1 => kY n (kicks n t i) i
structure H9 (n m N K : Nat) (E : Nat → Nat → Rat) (i : Nat) (t : Tab) : Prop where
 z:TZ m N K E t
 nn: ∀i,i<m→0≤t.X i (n+m)
 zero: ∀j,j<m→ ¬ t.bs j<n→t.X j (n+m)=0
 done: ∀j,j<i→ ¬ t.bs j<n→ ∀c,c<n→t.X j c=0
 lt: ∀j,j<m→t.bs j<n+m
theorem H9.next {n m N K:Nat} {E:Nat→Nat→Rat} {i:Nat} {t:Tab} (h:H9 n m N K E i t) (hi:i<m) (hN:n≤N):H9 n m N K E (i+1) (kY n t i):=by
 unfold kY
 by_cases hb:t.bs i<n
 ·rw[if_pos hb]
  refine⟨h.z,h.nn,h.zero,fun j hj hn=> ?_,h.lt⟩
  by_cases e:j=i
  ·subst e;exact absurd hb hn
  ·exact h.done j (by omega) hn
 ·rw[if_neg hb]
  have hz:=h.zero i hi hb
  cases hk:fstP (fun k=>t.X i k≠0) n with
  | none =>
    refine⟨h.z,h.nn,h.zero,fun j hj hn c hc=> ?_,h.lt⟩
    by_cases e:j=i
    ·subst e
     have:=eP.1 hk c hc
     exact Classical.not_not.1 this
    ·exact h.done j (by omega) hn c hc
  | some k =>
    obtain⟨k1,k2,_⟩:=dD.1 hk
    have aMG: ∀j,j<m→(piv t i k).X j (n+m)=t.X j (n+m):=fun j hj=>by
     by_cases e:j=i
     ·subst e;rw[rX,hz];grind
     ·rw[nD _ _ _ e,hz];grind
    refine⟨h.z.piv hi (by omega) k2,fun j hj=>by rw[aMG j hj];exact h.nn j hj,fun j hj hn=> ?_,fun j hj hn c hc=> ?_,fun j hj=> ?_⟩
    ·rw[aMG j hj]
     by_cases e:j=i
     ·subst e;exact hz
     ·rw[cW _ _ e] at hn;exact h.zero j hj hn
    ·by_cases e:j=i
     ·subst e;rw[dK] at hn;exact absurd k1 hn
     ·rw[cW _ _ e] at hn
      rw[nD _ _ _ e,h.done j (by omega) hn c hc,h.done j (by omega) hn k k1];grind
    ·by_cases e:j=i
     ·subst e;rw[dK];omega
     ·rw[cW _ _ e];exact h.lt j hj
theorem kC {n m N K:Nat} {E:Nat→Nat→Rat} {t:Tab} (h:H9 n m N K E 0 t) (hN:n≤N): ∀i,i≤m→H9 n m N K E i (kicks n t i)
 | 0, _ => h
 | i + 1, hi => (kC h hN i (by omega)).next (by omega) hN
theorem qH.kY {n m N K:Nat} {E:Nat→Nat→Rat} {t:Tab} (h:qH n m N K E t) (hp:rc m (aZ n m) t (n+m)=0):H9 n m N K E 0 t:=⟨h.inv.z,h.inv.nn,h.zero hp,(fun j hj=>by omega),h.inv.lt⟩
def bE (n:Nat) (t:Tab) (i:Nat):List Nat:=(List.range i).filter fun i=>t.bs i<n
theorem lX {n:Nat} {t:Tab} {i j:Nat} :j∈bE n t i ↔ j<i∧t.bs j<n:=by unfold bE;simp
theorem H9.inv {n m N K:Nat} {E:Nat→Nat→Rat} {t:Tab} (h:H9 n m N K E m t):Inv n m (n+m) N K E (bE n t m) t:=
 ⟨h.z,h.nn,fun i hi=>(lX.1 hi).1,fun i hi hn=>by
   have hb: ¬ t.bs i<n:=fun hb=>hn (lX.2 ⟨hi,hb⟩)
   exact⟨by omega,h.zero i hi hb,h.done i hi hb⟩,h.lt⟩
def okL (m n:Nat) (C:Nat→Rat) (t:Tab) (c:Nat):Prop:=iK (n+1) fun q=>rc m (wl C q) t c
theorem Xh {n m b N:Nat} {C:Nat→Rat} {rows:List Nat} (hN:n≤N) (hB:n≤b):uU n m b (n+1) n N (wl C) (fun c=>c<n) rows (okL m n C):=
 ⟨fun t c hc=>by unfold okL;exact⟨fun h=>⟨hc,h⟩,fun h=>h.2⟩,fun c h=>h,hN,hB,.inl fun c h=>h⟩
theorem Inv.zero {n m b N K:Nat} {E:Nat→Nat→Rat} {rows:List Nat} {t:Tab} (h:Inv n m b N K E rows t) (hl: ∀i,i∈rows→t.bs i<n): ∀i,i<m→ ¬ t.bs i<n→t.X i b=0:=fun i hi hb=>(h.dead i hi fun hm=>hb (hl i hm)).2.1
theorem sD {n m b N K:Nat} {E:Nat→Nat→Rat} {rows:List Nat} {t:Tab} (h:Inv n m b N K E rows t) {k:Nat} (hk:k<n) (hl:leave t b k rows=none): ∀i,i<m→t.X i k≤0:=fun i hi=>by
 rcases Classical.em (i∈rows) with g | g
 ·have:=(lU t b k rows).1 hl i g;grind
 ·rw[(h.dead i hi g).2.2 k hk];exact Rat.le_refl
theorem xF {n m b N K:Nat} {E:Nat→Nat→Rat} {rows:List Nat} {t:Tab} {C:Nat→Rat} (h:Inv n m b N K E rows t) (G2: ∀i,i∈rows→t.bs i<n) {k:Nat} (hk:k<n) (hl:leave t b k rows=none) (hp:0<rc m C t k):Unb n m E b C:=
 Uq h.z.ti hk (sD h hk hl) (fun i hi hb=>(h.dead i hi fun hm=>hb (G2 i hm)).2.2 k hk) hp
theorem xQ {n m b N K:Nat} {E:Nat→Nat→Rat} {rows:List Nat} {t:Tab} (h:Inv n m b N K E rows t) {k q:Nat} (C:Nat→Rat) (hk:k<n) (hp:0<rc m (wl C (q+1)) t k):leave t b k rows≠none:=by
 intro hl
 have h1:=sD h hk hl
 have h2:0≤S m fun i=>t.X i k*wl C (q+1) (t.bs i):=jK fun i hi=>by
  have:=h1 i hi
  unfold wl;simp only;split<;>grind
 have h3:wl C (q+1) k≤0:=by unfold wl;simp only;split<;>decide
 unfold rc at hp
 grind
theorem zB {n m b N K:Nat} {E:Nat→Nat→Rat} {rows:List Nat} {t:Tab} {C:Nat→Rat} (h:Inv n m b N K E rows t) (G2: ∀i,i∈rows→t.bs i<n) (he:nx n b rows (okL m n C) t=none):
  (fstP (okL m n C t) n=none∧sW n m E b C (xb m b t))∨((∃k,fstP (okL m n C t) n=some k∧leave t b k rows=none)∧Unb n m E b C):=by
 rcases Gu he with g | ⟨k,g1,g2⟩
 ·exact .inl ⟨g,Oo h.z.ti h.nn (h.zero G2) fun c hc=>eP.1 g c hc⟩
 ·obtain⟨k1,⟨q,q1,q2,q3⟩,_⟩:=dD.1 g1
  refine .inr ⟨⟨k,g1,g2⟩,xF h G2 k1 g2 ?_⟩
  cases q with
  | zero => exact q2
  | succ q => exact absurd g2 (xQ h C k1 q2)
structure Sel (n m b : Nat) (E : Nat → Nat → Rat) (C : Nat → Rat) (q : Nat) (F : Nat → Prop) : Prop where
 Md: ∀x y,jR n m E b x→jR n m E b y→H4 n F x→ ¬ iK q fun q=>dot n (wl C q) y - dot n (wl C q) x
 same: ∀x y,jR n m E b x→jR n m E b y→H4 n F x→(H4 n F y ↔ zQ q fun q=>dot n (wl C q) y - dot n (wl C q) x)
theorem Sel.start {n m b:Nat} {E:Nat→Nat→Rat} {C:Nat→Rat} {F:Nat→Prop} (hF: ∀c,c<n→F c):Sel n m b E C 0 F:=
 ⟨fun x y _ _ _ ⟨q,hq,_⟩=>by omega,fun x y _ _ _=>⟨fun _ q hq=>by omega,fun _ c hc hn=>absurd (hF c hc) hn⟩⟩
theorem Sel.next {n m b:Nat} {E:Nat→Nat→Rat} {C:Nat→Rat} {q:Nat} {F F':Nat→Prop} {t:Tab} (h:Sel n m b E C q F) (hr:Round n m b E (wl C q) F F' t):Sel n m b E C (q+1) F':=by
 have dM: ∀x,H4 n F' x→H4 n F x:=fun x ho c hc hn=>ho c hc fun hF'=>hn ((hr.eG c hc).1 hF').1
 refine⟨fun x y hx hy ho hp=> ?_,fun x y hx hy ho=> ?_⟩
 ·obtain⟨p,p1,p2,p3⟩:=hp
  have hox:=dM x ho
  by_cases e:p=q
  ·subst e
   have hyo:=(h.same x y hx hy hox).2 fun j hj=>p3 j hj
   have h1:=(qN hr hx hox).2.2 ho
   have h2:=(qN hr hy hyo).1
   simp only at p2
   grind
  ·exact h.Md x y hx hy hox ⟨p,by omega,p2,p3⟩
 ·have hox:=dM x ho
  have h1:=(qN hr hx hox).2.2 ho
  constructor
  ·intro hoy j hj
   have aL3:=dM y hoy
   by_cases e:j=q
   ·subst e
    have h2:=(qN hr hy aL3).2.2 hoy
    simp only;grind
   ·exact(h.same x y hx hy hox).1 aL3 j (by omega)
  ·intro hz
   have hyo:=(h.same x y hx hy hox).2 fun j hj=>hz j (by omega)
   have:=hz q (by omega)
   simp only at this
   exact(qN hr hy hyo).2.1 (by grind)
theorem Sel.done {n m b:Nat} {E:Nat→Nat→Rat} {C x:Nat→Rat} {F:Nat→Prop} (h:Sel n m b E C (n+1) F) (hx:jR n m E b x) (ho:H4 n F x):sW n m E b C x:=⟨hx,fun y hy=>h.Md x y hx hy ho⟩
def Fn (m:Nat) (w:Nat→Rat) (F:Nat→Prop) (t:Tab) (c:Nat):Prop:=F c∧rc m w t c=0
theorem Iv {n m b N K N':Nat} {E:Nat→Nat→Rat} {rows:List Nat} {t:Tab} {w:Nat→Rat} {F:Nat→Prop} (h:Inv n m b N K E rows t) (G2: ∀i,i∈rows→t.bs i<n) (Ss: ∀i,i∈rows→F (t.bs i)) (hN:n≤N') (hf:fstP (okW m w F t) N'=none):Round n m b E w F (Fn m w F t) t:=
 ⟨h.z.ti,h.nn,h.zero G2,fun i hi hb=>by
   rcases Classical.em (i∈rows) with g | g
   ·exact Ss i g
   ·have:=(h.dead i hi g).1;omega,fun c hc hF=>by
   have:=eP.1 hf c (by omega)
   unfold okW at this
   rcases gD (rc m w t c) 0 with g | g
   ·exact g
   ·exact absurd ⟨hF,g⟩ this,fun c hc=>Iff.rfl⟩
structure Mid (n m K : Nat) (E : Nat → Nat → Rat) (rows : List Nat) (F : Nat → Prop) (t : Tab) : Prop where
 inv:Inv n m (n+m) (n+m+1) K E rows t
 low: ∀i,i∈rows→t.bs i<n
 bas: ∀i,i∈rows→F (t.bs i)
 lt: ∀c,F c→c<n
theorem Mid.step {n m K:Nat} {E:Nat→Nat→Rat} {rows:List Nat} {F:Nat→Prop} {t:Tab} {w:Nat→Rat} (h:Mid n m K E rows F t) {r k:Nat} (hs:nx (n+m) (n+m) rows (okW m w F) t=some (r,k)):Mid n m K E rows F (piv t r k):=by
 obtain⟨g1,g2⟩:=qZ.1 hs
 have R:uU n m (n+m) 1 (n+m) (n+m+1) (fun _=>w) F rows (okW m w F):=Nu (fun c hc=>by have:=h.lt c hc;omega) (by omega) (Nat.le_refl _) (.inl h.lt)
 have h1:=(R.step h.inv g1 g2).2.1
 have hF:=(dD.1 g1).2.1.1
 refine⟨h1,fun i hi=> ?_,fun i hi=> ?_,h.lt⟩
 ·by_cases e:i=r
  ·rw[e,dK];exact h.lt k hF
  ·rw[cW _ _ e];exact h.low i hi
 ·by_cases e:i=r
  ·rw[e,dK];exact hF
  ·rw[cW _ _ e];exact h.bas i hi
theorem Mid.ends {n m K:Nat} {E:Nat→Nat→Rat} {rows:List Nat} {F:Nat→Prop} {t:Tab} (w:Nat→Rat) (h:Mid n m K E rows F t):
  ∃e,nx (n+m) (n+m) rows (okW m w F) (orb (nx (n+m) (n+m) rows (okW m w F)) t e)=none∧
   (∀e',e'<e→(nx (n+m) (n+m) rows (okW m w F) (orb (nx (n+m) (n+m) rows (okW m w F)) t e')).isSome=true)∧
   ∀e',e'≤e→Mid n m K E rows F (orb (nx (n+m) (n+m) rows (okW m w F)) t e'):=by
 have R:uU n m (n+m) 1 (n+m) (n+m+1) (fun _=>w) F rows (okW m w F):=Nu (fun c hc=>by have:=h.lt c hc;omega) (by omega) (Nat.le_refl _) (.inl h.lt)
 obtain⟨e,h1,h2,h3⟩:=R.ends h.inv
 refine⟨e,h1,h2,fun e' he'=> ?_⟩
 induction e' with
 | zero => exact h
 | succ e' ih =>
   have hm:=ih (by omega)
   rw[orb]
   cases hs:nx (n+m) (n+m) rows (okW m w F) (orb (nx (n+m) (n+m) rows (okW m w F)) t e') with
   | none=>exact hm
   | some p=>exact hm.step hs
theorem Mid.next {n m K:Nat} {E:Nat→Nat→Rat} {rows:List Nat} {F:Nat→Prop} {t:Tab} {w:Nat→Rat} (h:Mid n m K E rows F t):Mid n m K E rows (Fn m w F t) t:=
 ⟨h.inv,h.low,fun i hi=>⟨h.bas i hi,lT h.inv.z.ti _ (h.inv.sub i hi)⟩,fun c hc=>h.lt c hc.1⟩
theorem Mid.Ou {n m K:Nat} {E:Nat→Nat→Rat} {rows:List Nat} {F:Nat→Prop} {t:Tab} (h:Mid n m K E rows F t):jR n m E (n+m) (xb m (n+m) t)∧H4 n F (xb m (n+m) t):=by
 refine⟨tX h.inv.z.ti h.inv.nn (h.inv.zero h.low),fun c hc hn=> ?_⟩
 refine jQ fun i hi=> ?_
 split
 ·rename_i e
  rcases Classical.em (i∈rows) with g | g
  ·exact absurd (e▸h.bas i g) hn
  ·exact(h.inv.dead i hi g).2.1
 ·rfl
end Go.Proofs.YticmgmemnpcbbaaGreat.Lp

namespace Go.Proofs.YticmgmemnpcbbaaGreat.Lp
set_option linter.unusedSimpArgs false
set_option linter.unusedVariables false
def sm (L:Nat) (q:Rat):Prop:= ∃a v:Int,v≠0∧q*v=a∧a.natAbs≤L∧v.natAbs≤L
theorem Ox {q:Rat} {a v:Int} (h:q*v=a):q.num*v=a*q.den:=by
 have h1:q*(q.den:Rat)=q.num:=by
  have h2:=Rat.mkRat_self q
  rw[Rat.mkRat_eq_div] at h2
  have h3:(q.den:Rat)≠0:=fun h=>q.den_nz (Rat.natCast_inj.1 h)
  grind
 have h2:((q.num*v:Int):Rat)=((a*q.den:Int):Rat):=by
  rw[Rat.intCast_mul,Rat.intCast_mul,←h,←h1,Rat.intCast_natCast]
  grind
 exact Rat.intCast_inj.1 h2
theorem Ay {L:Nat} {q:Rat} (h:sm L q):q.num.natAbs≤L∧q.den≤L:=by
 obtain⟨a,v,hv,he,ha,hvl⟩:=h
 have hc:=congrArg Int.natAbs (Ox he)
 rw[Int.natAbs_mul,Int.natAbs_mul,Int.natAbs_natCast] at hc
 have hco:=q.reduced
 have hv0:0<v.natAbs:=Int.natAbs_pos.2 hv
 have h1:q.den∣v.natAbs:=by
  refine Nat.Coprime.dvd_of_dvd_mul_left (Nat.Coprime.symm hco) ⟨a.natAbs,?_⟩
  rw[hc,Nat.mul_comm]
 have h2:=Nat.le_of_dvd hv0 h1
 refine⟨?_,by omega⟩
 by_cases h0:a.natAbs=0
 ·rw[h0,Nat.zero_mul] at hc
  rcases Nat.mul_eq_zero.1 hc with g | g
  ·omega
  ·omega
 ·have h3:q.num.natAbs∣a.natAbs:=Nat.Coprime.dvd_of_dvd_mul_right hco ⟨v.natAbs,hc.symm⟩
  have:=Nat.le_of_dvd (by omega) h3
  omega
theorem fP {L M:Nat} {q:Rat} (h:sm L q) (hl:L≤M):sm M q:=by
 obtain⟨a,v,h1,h2,h3,h4⟩:=h
 exact⟨a,v,h1,h2,by omega,by omega⟩
theorem Nm {L M:Nat} {p q:Rat} (hp:sm L p) (hq:sm M q):sm (L*M) (p*q):=by
 obtain⟨a,v,h1,h2,h3,h4⟩:=hp
 obtain⟨b,w,g1,g2,g3,g4⟩:=hq
 refine⟨a*b,v*w,by simp[h1,g1],by rw[Rat.intCast_mul,Rat.intCast_mul,←h2,←g2];grind,?_,?_⟩
 ·rw[Int.natAbs_mul];exact Nat.mul_le_mul h3 g3
 ·rw[Int.natAbs_mul];exact Nat.mul_le_mul h4 g4
theorem aAS {L M:Nat} {p q:Rat} (hp:sm L p) (hq:sm M q) (h0:q≠0):sm (L*M) (p / q):=by
 obtain⟨a,v,h1,h2,h3,h4⟩:=hp
 obtain⟨b,w,g1,g2,g3,g4⟩:=hq
 have hv:(v:Rat)≠0:=fun h=>h1 (Rat.intCast_inj.1 h)
 have hw:(w:Rat)≠0:=fun h=>g1 (Rat.intCast_inj.1 h)
 have hb:b≠0:=fun h=>by
  rw[h] at g2
  rcases Rat.mul_eq_zero.1 g2 with e | e
  ·exact h0 e
  ·exact hw e
 refine⟨a*w,v*b,by simp[h1,hb],by rw[Rat.intCast_mul,Rat.intCast_mul,←h2,←g2];grind,?_,?_⟩
 ·rw[Int.natAbs_mul];exact Nat.mul_le_mul h3 g4
 ·rw[Int.natAbs_mul,Nat.mul_comm L M,Nat.mul_comm];exact Nat.mul_le_mul g3 h4
theorem aC2 {L:Nat} {n:Int} (h:n.natAbs≤L) (hL:1≤L):sm L (n:Rat):=⟨n,1,by decide,by simp,h,by simpa using hL⟩
theorem mE {z:Int} {q:Rat} {L:Nat} (h:q=z) (hq: -(L:Rat)≤q∧q≤L):z.natAbs≤L:=by
 rw[h] at hq
 have h1: -(L:Int)≤z:=by
  have:=hq.1
  rw[←Rat.intCast_natCast,←Rat.intCast_neg] at this
  exact Rat.intCast_le_intCast.1 this
 have h2:z≤(L:Int):=by
  have:=hq.2
  rw[←Rat.intCast_natCast] at this
  exact Rat.intCast_le_intCast.1 this
 omega
theorem TZ.sm {m N K:Nat} {E:Nat→Nat→Rat} {t:Tab} (h:TZ m N K E t) {i c:Nat} (hi:i<m) (hc:c<N):Lp.sm (lid K m) (t.X i c):=by
 obtain⟨⟨a,ha⟩,hal⟩:=h.entry hi hc
 obtain⟨⟨v,hv⟩,hvl⟩:=h.mR
 have hne:=h.vol
 refine⟨a,v,fun e=>hne (by rw[hv,e];rfl),by rw[←hv,ha],mE ha hal,mE hv hvl⟩
theorem TZ.rc {m N K W:Nat} {E:Nat→Nat→Rat} {t:Tab} (h:TZ m N K E t) {w:Nat→Rat} (hw: ∀c,c<N→isInt (w c)∧ -(W:Rat)≤w c∧w c≤W) {c:Nat} (hc:c<N) (hW:1≤W):Lp.sm ((m+1)*(W*lid K m)) (Lp.rc m w t c):=by
 obtain⟨hvi,hvl⟩:=h.mR
 obtain⟨v,hv⟩:=hvi
 have hne:=h.vol
 have e:Lp.rc m w t c*Lp.vol m E t=w c*Lp.vol m E t - S m fun i=>w (t.bs i)*(t.X i c*Lp.vol m E t):=by
  unfold Lp.rc
  rw[show(S m fun i=>w (t.bs i)*(t.X i c*Lp.vol m E t))=(S m fun i=>t.X i c*w (t.bs i))*Lp.vol m E t by rw[←nY];exact bK fun i _=>by grind]
  grind
 have hint:isInt (Lp.rc m w t c*Lp.vol m E t):=by
  rw[e]
  exact M1 (lG (hw c hc).1 h.mR.1) (yK fun i hi=>lG (hw _ (h.bs i hi)).1 (h.entry hi hc).1)
 have b1:=uT (hw c hc).2 hvl
 have b2:=Gf (n:=m) (f:=fun i=>w (t.bs i)*(t.X i c*Lp.vol m E t)) (B:=(W:Rat)*lid K m) fun i hi=>uT (hw _ (h.bs i hi)).2 (h.entry hi hc).2
 have hB:(((m+1)*(W*lid K m):Nat):Rat)=(m:Rat)*((W:Rat)*lid K m)+(W:Rat)*lid K m:=by
  rw[Rat.natCast_mul,Rat.natCast_mul,Rat.natCast_add]
  grind
 obtain⟨a,ha⟩:=hint
 refine⟨a,v,fun e0=>hne (by rw[hv,e0];rfl),by rw[←hv,ha],mE ha ?_,?_⟩
 ·rw[hB,e]
  grind
 ·have h1:=mE hv hvl
  have:lid K m≤(m+1)*(W*lid K m):=by
   calc lid K m=1*(1*lid K m):=by omega
    _≤(m+1)*(W*lid K m):=Nat.mul_le_mul (by omega) (Nat.mul_le_mul hW (Nat.le_refl _))
  omega
theorem Bu {K:Nat} (hK:1≤K): ∀ {m k:Nat},m≤k→lid K m≤lid K k
 | m, 0, h => by rw [show m = 0 by omega]; exact Nat.le_refl _
 | m, k + 1, h => by
   by_cases e:m=k+1
   ·rw[e];exact Nat.le_refl _
   ·have ih:=Bu hK (m:=m) (k:=k) (by omega)
    have:1*(1*lid K k)≤(k+1)*(K*lid K k):=Nat.mul_le_mul (by omega) (Nat.mul_le_mul hK (Nat.le_refl _))
    rw[lid];omega
def top :Nat:=lid 1000 17
theorem Zv :top≤10^66:=by decide+kernel
theorem oJ {m:Nat} (h:m≤17):lid 1000 m≤10^66:=Nat.le_trans (Bu (by omega) h) Zv
end Go.Proofs.YticmgmemnpcbbaaGreat.Lp

namespace Go.Proofs.YticmgmemnpcbbaaGreat.Vm
open Go Go.RowKit Go.Proofs
set_option linter.unusedSimpArgs false
set_option linter.unusedVariables false
theorem Dc (x y q:Int) (h:x=q*y) (hy:0<y) (hx:(lim x.natAbs).length≤300000) (hyl:(lim y.natAbs).length≤300000):RO Tryz.prog 282 [.agg (biC x),.agg (biC y)] (.agg (biC q)):=by
 have hq:sg (decide (x<0) !=decide (y<0)) (x.natAbs / y.natAbs)=q:=by
  have e1:x.natAbs=q.natAbs*y.natAbs:=by rw[h,Int.natAbs_mul]
  have e2:x.natAbs / y.natAbs=q.natAbs:=by rw[e1];exact Nat.mul_div_cancel _ (by omega)
  have e3:decide (y<0)=false:=decide_eq_false (by omega)
  have e4:decide (x<0)=decide (q<0):=decide_eq_decide.2 (by
   rw[h]
   constructor
   ·intro hh
    rcases Int.lt_or_le q 0 with g | g
    ·exact g
    ·have:=Int.mul_nonneg g (Int.le_of_lt hy);omega
   ·intro hh;exact Int.mul_neg_of_neg_of_pos hh hy)
  rw[e2,e3,e4,Bool.bne_false]
  exact Hc q
 refine aH Tryz.func282 rfl rfl (by rw[Tryz.ntmps282];simp) fun bl=> ?_
 rw[Tryz.ntmps282,Tryz.results282]
 refine aE ?_
 rw[show biC x= [.bool (decide (x<0)),.sl (iv (lim x.natAbs))] from rfl,show biC y= [.bool (decide (y<0)),.sl (iv (lim y.natAbs))] from rfl]
 simp
 intro g hg0 hg g2 hg2 h2g hb2 g3 hg3 h32 h3g hb3
 refine aE ?_
 simp[h2g,Ne.symm h2g,h32,Ne.symm h32,h3g,Ne.symm h3g]
 refine aD (zA _ _ (by omega) hx hyl) ?_
 simp[h2g,Ne.symm h2g,h32,Ne.symm h32,h3g,Ne.symm h3g]
 refine aE ?_
 simp[h2g,Ne.symm h2g,h32,Ne.symm h32,h3g,Ne.symm h3g]
 refine aD (gA _ _) ?_
 simp[h2g,Ne.symm h2g,h32,Ne.symm h32,h3g,Ne.symm h3g]
 rw[hq]
 refine aB ?_
 simp[h2g,Ne.symm h2g,h32,Ne.symm h32,h3g,Ne.symm h3g]
 exact aJ [.agg (biC q)] 1 (by simp[biC,h2g,Ne.symm h2g,h32,Ne.symm h32,h3g,Ne.symm h3g]) kO (by simp[hg,hb2,hb3])

@[simp] theorem aFI (x y : Int) : splice (biC x) 0 (biC y) = biC y := by simp [splice, biC]
@[simp] theorem aHM (x : Int) : (biC x).take 2 = biC x := rfl
def zv (n:Nat) (f:Nat→Int):List (List V):=(List.range n).map fun c=>biC (f c)
@[simp] theorem aGT (n : Nat) (f : Nat → Int) : (zv n f).length = n := by simp [zv]
@[simp] theorem P5 (n : Nat) (f : Nat → Int) (c : Nat) (h : c < (zv n f).length) : (zv n f)[c] = biC (f c) := by simp [zv]
theorem aHL (n:Nat) (f:Nat→Int):(zv n f).all (fun e=>e.all V.cl)=true:=by simp[zv,Nc]
def zzv (r n:Nat) (Z:Nat→Nat→Int):List (List V):=(List.range r).map fun i=> [.sl (zv n (Z i))]
@[simp] theorem Zt (r n : Nat) (Z : Nat → Nat → Int) : (zzv r n Z).length = r := by simp [zzv]
@[simp] theorem Pf (r n : Nat) (Z : Nat → Nat → Int) (i : Nat) (h : i < (zzv r n Z).length) : (zzv r n Z)[i] = [.sl (zv n (Z i))] := by simp [zzv]
def lb (r:Nat) (bs:Nat→Nat):List Int:=(List.range r).map fun i=>(bs i:Int)
@[simp] theorem Ka (r : Nat) (bs : Nat → Nat) : (lb r bs).length = r := by simp [lb]
@[simp] theorem yM (r : Nat) (bs : Nat → Nat) (i : Nat) (h : i < (lb r bs).length) : (lb r bs)[i] = (bs i : Int) := by simp [lb]
def lv (n:Nat) (f:Nat→Bool):List (List V):=(List.range n).map fun c=> [.bool (f c)]
@[simp] theorem aEC (n : Nat) (f : Nat → Bool) : (lv n f).length = n := by simp [lv]
@[simp] theorem Vp (n : Nat) (f : Nat → Bool) (c : Nat) (h : c < (lv n f).length) : (lv n f)[c] = [.bool (f c)] := by simp [lv]
theorem aLA (n:Nat) (f:Nat→Bool):(lv n f).all (fun e=>e.all V.cl)=true:=by simp[lv,V.cl]
def mD (r n:Nat) (Z:Nat→Nat→Int) (d:Int) (bs:Nat→Nat) (fr:Nat→Bool):List V:=
 [.sl (zzv r (n+1) Z),.bool (decide (d<0)),.sl (iv (lim d.natAbs)),.sl (iv (lb r bs)),.int .i64 n,.sl (lv n fr)]
def lz (n:Nat) (f:Nat→Int):List Int:=(List.range n).map f
@[simp] theorem aG0 (n : Nat) (f : Nat → Int) : (lz n f).length = n := by simp [lz]
@[simp] theorem yZ (n : Nat) (f : Nat → Int) (c : Nat) (h : c < (lz n f).length) : (lz n f)[c] = f c := by simp [lz]
@[irreducible] def gP : Nat := 10 ^ 66
@[irreducible] def zW : Nat := 10 ^ 200
theorem Hu :zW<LB^24:=by unfold zW;decide+kernel
theorem Ot :gP*gP≤zW:=by unfold zW gP;decide+kernel
theorem Sp :41*(gP*1000)≤zW:=by unfold zW gP;decide+kernel
theorem Pn :gP≤zW:=by unfold zW gP;decide+kernel
theorem N5 :1000≤gP:=by unfold gP;decide+kernel
def vO (x:Int):Prop:=x.natAbs≤zW
theorem dZ {x:Int} (h:vO x):(lim x.natAbs).length≤24:=aL.2 (Nat.lt_of_le_of_lt h Hu)
structure ZB (r n : Nat) (Z : Nat → Nat → Int) (d : Int) : Prop where
 z: ∀i c,i<r→c≤n→(Z i c).natAbs≤gP
 dl:d.natAbs≤gP
 d0:0<d
 rl:r≤40
 nl:n≤100
def gTo (Z:Nat→Nat→Int) (d:Int) (bs:Nat→Nat) (O:Nat→Int) (k:Nat):Nat→Int
 | 0 => d * O k
 | i + 1 => if O (bs i) ≠ 0 ∧ Z i k ≠ 0 then gTo Z d bs O k i - Z i k * O (bs i) else gTo Z d bs O k i
theorem Rf {r n:Nat} {Z:Nat→Nat→Int} {d:Int} {bs:Nat→Nat} {O:Nat→Int} {k:Nat} (h:ZB r n Z d) (hO: ∀c,(O c).natAbs≤1000) (hk:k≤n): ∀i,i≤r→(gTo Z d bs O k i).natAbs≤(i+1)*(gP*1000)
 | 0, _ => by
   have h1:(gTo Z d bs O k 0).natAbs=d.natAbs*(O k).natAbs:=Int.natAbs_mul _ _
   have h2:d.natAbs*(O k).natAbs≤gP*1000:=Nat.mul_le_mul h.dl (hO k)
   have h3:(0+1)*(gP*1000)=gP*1000:=by rw[Nat.zero_add,Nat.one_mul]
   rw[h3,h1]
   exact h2
 | i + 1, hi => by
   have ih:=Rf h hO hk (bs:=bs) i (by omega)
   have h1:(Z i k*O (bs i)).natAbs≤gP*1000:=by rw[Int.natAbs_mul];exact Nat.mul_le_mul (h.z i k (by omega) hk) (hO _)
   have e:(i+1+1)*(gP*1000)=(i+1)*(gP*1000)+gP*1000:=by rw[Nat.add_mul (i+1) 1,Nat.one_mul]
   rw[e,gTo]
   split
   ·exact Nat.le_trans (Int.natAbs_sub_le _ _) (Nat.add_le_add ih h1)
   ·exact Nat.le_trans ih (Nat.le_add_right _ _)
theorem Ed {r n:Nat} {Z:Nat→Nat→Int} {d:Int} {bs:Nat→Nat} {O:Nat→Int} {k:Nat} (h:ZB r n Z d) (hO: ∀c,(O c).natAbs≤1000) (hk:k≤n) (i:Nat) (hi:i≤r):vO (gTo Z d bs O k i):=by
 have h1:=Rf h hO hk (bs:=bs) i hi
 have h2:(i+1)*(gP*1000)≤41*(gP*1000):=Nat.mul_le_mul_right _ (by have:=h.rl;omega)
 exact Nat.le_trans h1 (Nat.le_trans h2 Sp)
theorem kD {a b:Int} (ha:a.natAbs≤gP) (hb:b.natAbs≤gP):vO (a*b):=by
 unfold vO
 rw[Int.natAbs_mul]
 exact Nat.le_trans (Nat.mul_le_mul ha hb) Ot
theorem kB {a:Int} (ha:a.natAbs≤gP):vO a:=Nat.le_trans ha Pn
theorem Oh {a:Int} (ha:a.natAbs≤1000):vO a:=kB (Nat.le_trans ha N5)
theorem Ud (r n:Nat) (Z:Nat→Nat→Int) (d:Int) (bs:Nat→Nat) (fr:Nat→Bool) (O:Nat→Int) (k:Nat) (h:ZB r n Z d) (hO: ∀c,(O c).natAbs≤1000) (hk:k<n) (hb: ∀i,i<r→bs i<n):
  RO Tryz.prog 256 [.ptr (mD r n Z d bs fr),.sl (iv (lz n O)),.int .i64 k] (.int .i64 (gTo Z d bs O k r).sign):=by
 have hr:=h.rl
 have hn:=h.nl
 have hint: ∀c,RO Tryz.prog 160 [.int .i64 (O c)] (.agg (biC (O c))):=fun c=>sN _ (by have:=hO c;omega)
 have hOl: ∀c,(lim (O c).natAbs).length≤400000:=fun c=>Nat.le_trans (dZ (Oh (hO c))) (by omega)
 have hdl:(lim d.natAbs).length≤400000:=Nat.le_trans (dZ (kB h.dl)) (by omega)
 have hgl: ∀i,i≤r→(lim (gTo Z d bs O k i).natAbs).length≤24:=fun i hi=>dZ (Ed h hO (by omega) i hi)
 have hT:=lH d (O k) hdl (hOl k)
 rw[show biC d= [.bool (decide (d<0)),.sl (iv (lim d.natAbs))] from rfl] at hT
 refine aH Tryz.func256 rfl rfl (by rw[Tryz.ntmps256];simp) fun bl=> ?_
 rw[Tryz.ntmps256,Tryz.results256]
 refine aB ?_
 simp
 refine aW aM bl (Sub.refl _) [0,1,2,3,4,5,6,7,8,9] 2 (by kernel_rfl) ?_
 simp[mD,hk]
 refine aN (hint k) ?_
 simp
 refine aN hT ?_
 simp
 refine Dz 10 ?_
 simp
 intro g7 hg7 hb7
 refine⟨by simp[hb7],Dz 11 ?_⟩
 simp
 refine⟨by simp[hb7],Dy ?_⟩
 simp
 refine aB ?_
 simp
 refine aG (fun i:Nat=> [(0,.ptr (mD r n Z d bs fr)),(1,.sl (iv (lz n O))),(2,.int .i64 k),(7,.loc g7 2 0 0),(23,.sl (iv (lb r bs))),(24,.int .i64 r),(25,.int .i64 i)]) (fun i=>upd bl g7 (some ⟨2,[biC (gTo Z d bs O k i)]⟩)) (fun i=>i≤r) (fun i=>r - i) _ 0 (Nat.zero_le _) ⟨rfl,by simp[mD],by rw[gTo];exact sub_eq rfl⟩ ?_
 intro i hi
 have wi:IntKind.i64.wrap ((i:Int)+1)=(i:Int)+1:=i64_in (by omega) (by omega)
 refine aE ?_
 simp
 refine aE ?_
 simp
 refine⟨fun hlt=> ?_,fun hlt=> ?_⟩
 ·have hbi:=hb i hlt
  have hS:=mJ (Z i k)
  refine aO (aX ?_)
  refine aE ?_
  simp[hlt]
  refine aE ?_
  simp
  refine bD [(0,.ptr (mD r n Z d bs fr)),(1,.sl (iv (lz n O))),(2,.int .i64 k),(7,.loc g7 2 0 0),(8,.int .i64 i),(9,.int .i64 (bs i)),(23,.sl (iv (lb r bs))),(24,.int .i64 r),(25,.int .i64 i)] _ (upd bl g7 (some ⟨2,[biC (gTo Z d bs O k i)]⟩)) 48 (.bool (decide (O (bs i)≠0∧Z i k≠0))) ⟨rfl,by simp,Sub.refl _⟩ rfl ?_ ?_
  ·by_cases h0:O (bs i)=0
   ·simp[hbi,h0]
   ·simp[hbi,mD,hlt,show k<n+1 by omega,h0]
    refine aD hS ?_
    simp[Int.sign_eq_zero_iff_zero]
    by_cases h1:Z i k=0<;>simp[h1]
  have hTi:=lH (Z i k) (O (bs i)) (Nat.le_trans (dZ (kB (h.z i k hlt (by omega)))) (by omega)) (hOl _)
  have hP:(lim (Z i k*O (bs i)).natAbs).length≤24:=dZ (kD (h.z i k hlt (by omega)) (Nat.le_trans (hO _) N5))
  have hM:=L9 (gTo Z d bs O k i) (Z i k*O (bs i)) (Nat.le_trans (hgl i hi) (by omega)) (Nat.le_trans hP (by omega))
  simp
  refine aB ?_
  simp
  refine⟨fun h0 h1=> ?_,fun hno=> ?_⟩
  ·refine dC aM [0,1,2,3,4,5,6,7,8,9,10,11,12,13,14,15,16,17] 1 18 (by kernel_rfl) ?_
   simp[hbi,mD,hlt,show k<n+1 by omega]
   refine aN (hint _) ?_
   simp
   refine aN hTi ?_
   simp
   refine aN hM ?_
   simp
   refine cU (i:=18) (by kernel_rfl) rfl rfl rfl ?_
   simp
   refine Dy ?_
   simp
   refine aB ?_
   simp[wi,aA]
   exact⟨i+1,by omega,by omega,rfl,by simp[mD],sub_eq (by rw[gTo,if_pos ⟨h0,h1⟩])⟩
  ·refine aB ?_
   simp[wi,aA]
   refine⟨i+1,by omega,by omega,rfl,by simp,sub_eq (by rw[gTo,if_neg];simpa using hno)⟩
 ·have hir:i=r:=by omega
  subst hir
  simp
  refine aD (mJ _) ?_
  simp
  exact aJ [.int .i64 (gTo Z d bs O k i).sign] 0 (by simp) (by simp[frz]) (by simp[hb7])

def lvZ (Z:Nat→Nat→Int) (n k:Nat) (bs:Nat→Nat):Nat→Option Nat
 | 0 => none
 | i + 1 => if Z i k ≤ 0 then lvZ Z n k bs i else match lvZ Z n k bs i with
   | none=>some i
   | some j=>if Z i n*Z j k<Z j n*Z i k∨Z i n*Z j k=Z j n*Z i k∧bs i<bs j then some i else some j
theorem zF {Z:Nat→Nat→Int} {n k:Nat} {bs:Nat→Nat} : ∀ {i j:Nat},lvZ Z n k bs i=some j→j<i
 | 0, _, h => by cases h
 | i + 1, j, h => by
   rw[lvZ] at h
   split at h
   ·have:=zF h;omega
   ·cases hb:lvZ Z n k bs i with
    | none => rw [hb] at h; cases h; omega
    | some j' =>
      rw[hb] at h
      simp only at h
      split at h
      ·cases h;omega
      ·cases h;have:=zF hb;omega
def oI :Option Nat→Int
 | none => -1
 | some j => j
theorem Ew (r n:Nat) (Z:Nat→Nat→Int) (d:Int) (bs:Nat→Nat) (fr:Nat→Bool) (k:Nat) (h:ZB r n Z d) (hk:k<n):
  RO Tryz.prog 257 [.ptr (mD r n Z d bs fr),.int .i64 k] (.int .i64 (oI (lvZ Z n k bs r))):=by
 have hr:=h.rl
 have hn:=h.nl
 have hl: ∀i c,i<r→c≤n→(lim (Z i c).natAbs).length≤400000:=fun i c hi hc=>Nat.le_trans (dZ (kB (h.z i c hi hc))) (by omega)
 have hT: ∀i c j c',i<r→c≤n→j<r→c'≤n→RO Tryz.prog 231 [.agg (biC (Z i c)),.agg (biC (Z j c'))] (.agg (biC (Z i c*Z j c'))):=fun i c j c' h1 h2 h3 h4=>lH _ _ (hl i c h1 h2) (hl j c' h3 h4)
 have hP: ∀i c j c',i<r→c≤n→j<r→c'≤n→(lim (Z i c*Z j c').natAbs).length≤1048576:=fun i c j c' h1 h2 h3 h4=>Nat.le_trans (dZ (kD (h.z i c h1 h2) (h.z j c' h3 h4))) (by omega)
 refine aH Tryz.func257 rfl rfl (by rw[Tryz.ntmps257];simp) fun bl=> ?_
 rw[Tryz.ntmps257,Tryz.results257]
 refine aE ?_
 simp
 refine aE ?_
 simp
 refine aE ?_
 simp[mD]
 refine aG (fun i:Nat=> [(0,.ptr (mD r n Z d bs fr)),(1,.int .i64 k),(5,.int .i64 (oI (lvZ Z n k bs i))),(12,.sl (zzv r (n+1) Z)),(13,.int .i64 r),(14,.int .i64 i)]) (fun i=>bl) (fun i=>i≤r) (fun i=>r - i) _ 0 (Nat.zero_le _) ⟨rfl,by simp[mD,lvZ,oI],Sub.refl _⟩ ?_
 intro i hi
 have wi:IntKind.i64.wrap ((i:Int)+1)=(i:Int)+1:=i64_in (by omega) (by omega)
 refine aE ?_
 simp
 refine aE ?_
 simp
 refine⟨fun hlt=> ?_,fun hlt=> ?_⟩
 ·refine aO (aX ?_)
  refine aE ?_
  simp[hlt]
  refine aE ?_
  simp[show k<n+1 by omega]
  refine aD (mJ _) ?_
  simp
  refine⟨fun hle=> ?_,fun hgt=> ?_⟩
  ·refine aB ?_
   simp[wi,aA]
   have e:lvZ Z n k bs (i+1)=lvZ Z n k bs i:=by rw[lvZ,if_pos hle]
   exact⟨i+1,by omega,by omega,rfl,by simp[e],Sub.refl _⟩
  ·have hng: ¬ Z i k≤0:=by omega
   cases hb:lvZ Z n k bs i with
   | none =>
     have e:lvZ Z n k bs (i+1)=some i:=by rw[lvZ,if_neg hng,hb]
     refine aB ?_
     simp[oI]
     refine aB ?_
     simp[wi,aA]
     exact⟨i+1,by omega,by omega,rfl,by simp[e,oI],Sub.refl _⟩
   | some j =>
     have hj:=zF hb
     have e:lvZ Z n k bs (i+1)=if Z i n*Z j k<Z j n*Z i k∨Z i n*Z j k=Z j n*Z i k∧bs i<bs j then some i else some j:=by rw[lvZ,if_neg hng,hb]
     have bP: ¬ (j:Int)<0:=by omega
     have hC:=Ba (Z i n*Z j k) (Z j n*Z i k) (hP i n j k hlt (by omega) (by omega) (by omega)) (hP j n i k (by omega) (by omega) hlt (by omega))
     refine aE ?_
     simp[oI,bP]
     refine aE ?_
     simp
     refine bU aM (by kernel_rfl) ?_
     simp[mD,hlt,show j<r by omega,show k<n+1 by omega]
     refine aN (hT i n j k hlt (by omega) (by omega) (by omega)) ?_
     simp[mD,hlt,show j<r by omega,show k<n+1 by omega]
     refine aN (hT j n i k (by omega) (by omega) hlt (by omega)) ?_
     simp
     refine aN hC ?_
     simp
     refine aE ?_
     simp
     generalize Z i n*Z j k=A at *
     generalize Z j n*Z i k=B at *
     have hjr:j<r:=by omega
     refine tT aM (by kernel_rfl) [(0,.ptr (mD r n Z d bs fr)),(1,.int .i64 k),(5,.int .i64 j),(6,.int .i64 i),(8,.int .i64 (hH A B)),(12,.sl (zzv r (n+1) Z)),(13,.int .i64 r),(14,.int .i64 i)] _ bl 87 (.bool (decide (A<B∨A=B∧bs i<bs j))) ⟨rfl,by simp[mD],Sub.refl _⟩ rfl ?_ ?_
     ·rcases Int.lt_trichotomy A B with g | g | g
      ·have ec:hH A B= -1:=by unfold hH;rw[if_pos g]
       simp[ec,g]
      ·have ec:hH A B=0:=by unfold hH;rw[if_neg (by omega),if_pos g]
       have g2: ¬ A<B:=by omega
       subst g
       simp[ec,mD,hlt,hjr]
      ·have ec:hH A B=1:=by unfold hH;rw[if_neg (by omega),if_neg (by omega)]
       have g2: ¬ A<B:=by omega
       have g3: ¬ A=B:=by omega
       simp[ec,g2,g3]
     refine aB ?_
     simp
     refine⟨fun hc=> ?_,fun hc hc2=> ?_⟩
     ·rw[if_pos hc] at e
      refine aB ?_
      simp[wi,aA]
      exact⟨i+1,by omega,by omega,rfl,by simp[e,oI,mD],Sub.refl _⟩
     ·rw[if_neg (fun h=>h.elim (fun g=>by omega) (fun g=>by have:=hc2 g.1;omega))] at e
      refine aB ?_
      simp[wi,aA]
      exact⟨i+1,by omega,by omega,rfl,by simp[e,oI,mD],Sub.refl _⟩
 ·have hir:i=r:=by omega
  subst hir
  refine aB ?_
  simp
  exact aJ [.int .i64 (oI (lvZ Z n k bs i))] 0 (by simp) (by simp[frz]) (Sub.refl _)
end Go.Proofs.YticmgmemnpcbbaaGreat.Vm

namespace Go.Proofs.YticmgmemnpcbbaaGreat.Vm
open Go Go.Proofs
set_option linter.unusedSimpArgs false
set_option linter.unusedVariables false
structure aWM where
 ids:List Int
 d:Option Rat
 b:Int→Option Blk
structure aVT where
 j:Nat
 b:Int→Option Blk

theorem zK {α β:Type} {f:α→Option β} : ∀(xs:List α) (ys:List β),xs.length=ys.length→(∀(i:Nat) x y,xs[i]? =some x→ys[i]? =some y→f x=some y)→xs.mapM f=some ys
 | [], [], _, _ => rfl
 | [], _ :: _, h, _ => by simp at h
 | _ :: _, [], h, _ => by simp at h
 | x :: xs, y :: ys, h, hf => by
   have h1:=hf 0 x y rfl rfl
   have h2:=zK xs ys (by simpa using h) (fun i a b ha hb=>hf (i+1) a b (by simpa using ha) (by simpa using hb))
   simp[List.mapM_cons,h1,h2]
end Go.Proofs.YticmgmemnpcbbaaGreat.Vm

namespace Go.Proofs.YticmgmemnpcbbaaGreat.Vm
open Go Go.RowKit Go.Proofs
set_option linter.unusedSimpArgs false
set_option linter.unusedVariables false
theorem uE {n:Nat} {f g:Nat→Int} (h: ∀c,c<n→f c=g c):zv n f=zv n g:=List.map_congr_left fun c hc=>by rw[h c (by simpa using hc)]
structure ZG (b : Int → Option Blk) (gR : Int) (ids : List Int) (r n : Nat) (Z : Nat → Nat → Int) : Prop where
 len:ids.length=r
 top:b gR=some ⟨1,ids.map fun g=> [.lsl g 2 0 n]⟩
 row: ∀(i:Nat) (g:Int),ids[i]? =some g→b g=some ⟨2,zv n (Z i)⟩
 pos: ∀g,g∈ids→0≤g
 inj: ∀(i j:Nat) (g:Int),ids[i]? =some g→ids[j]? =some g→i=j
 no0:gR∉ids
theorem ZG.congr {b:Int→Option Blk} {gR:Int} {ids:List Int} {r n:Nat} {Z Z':Nat→Nat→Int} (h:ZG b gR ids r n Z) (hZ: ∀i c,i<r→c<n→Z i c=Z' i c):ZG b gR ids r n Z':=
 ⟨h.len,h.top,fun i g hi=>by
   rw[h.row i g hi,uE fun c hc=>hZ i c (by rw[←h.len];exact(List.getElem?_eq_some_iff.1 hi).1) hc],h.pos,h.inj,h.no0⟩
theorem ZG.put {b:Int→Option Blk} {gR g:Int} {ids:List Int} {r n i:Nat} {Z Z':Nat→Nat→Int} (h:ZG b gR ids r n Z) (hi:ids[i]? =some g) (hZ: ∀a c,a≠i→c<n→Z a c=Z' a c):ZG (upd b g (some ⟨2,zv n (Z' i)⟩)) gR ids r n Z':=by
 have hm:=List.mem_of_getElem? hi
 refine⟨h.len,?_,fun k g' hk=> ?_,h.pos,h.inj,h.no0⟩
 ·rw[aK _ _ _ _ (fun e=>h.no0 (by rw[e];exact hm))];exact h.top
 ·by_cases e:k=i
  ·subst e
   rw[hi] at hk;cases hk
   rw[bA]
  ·have hne:g'≠g:=fun e2=>e (h.inj k i g (by rw[hk,e2]) hi)
   rw[aK _ _ _ _ hne,h.row k g' hk,uE fun c hc=>hZ k c e hc]
theorem ZG.eG {b b':Int→Option Blk} {gR:Int} {ids:List Int} {r n:Nat} {Z:Nat→Nat→Int} (h:ZG b gR ids r n Z) (hk: ∀x y,x=gR∨x∈ids→b x=some y→b' x=some y):ZG b' gR ids r n Z:=
 ⟨h.len,hk _ _ (.inl rfl) h.top,fun i g hi=>hk _ _ (.inr (List.mem_of_getElem? hi)) (h.row i g hi),h.pos,h.inj,h.no0⟩
theorem ZG.at {b:Int→Option Blk} {gR:Int} {ids:List Int} {r n:Nat} {Z:Nat→Nat→Int} (h:ZG b gR ids r n Z) (i:Nat) (hi:i<r): ∃g,ids[i]? =some g∧g∈ids∧0≤g∧b g=some ⟨2,zv n (Z i)⟩:=by
 have hl:=h.len
 have e:ids[i]? =some (ids[i]'(by omega)):=List.getElem?_eq_getElem _
 exact⟨_,e,List.mem_of_getElem? e,h.pos _ (List.mem_of_getElem? e),h.row i _ e⟩
structure TG where
 T:Int
 R:Int
 B:Int
 F:Int
 ids:List Int
structure TN where
 r:Nat
 n:Nat
 Z:Nat→Nat→Int
 d:Int
 bs:Nat→Nat
 fr:Nat→Bool
def TN.c (t:TN):List V:=mD t.r t.n t.Z t.d t.bs t.fr
structure TT (b : Int → Option Blk) (g : TG) (t : TN) : Prop where
 fE:ZG b g.R g.ids t.r (t.n+1) t.Z
 hd:b g.T=some ⟨6,[[.lsl g.R 1 0 t.r,.bool (decide (t.d<0)),.sl (iv (lim t.d.natAbs)),.lsl g.B 1 0 t.r,.int .i64 t.n,.lsl g.F 1 0 t.n]]⟩
 ba:b g.B=some ⟨1,iv (lb t.r t.bs)⟩
 fre:b g.F=some ⟨1,lv t.n t.fr⟩
 pT:0≤g.T
 pR:g.R<0→t.r=0
 pB:g.B<0→t.r=0
 pF:0≤g.F
 nd:(g.T::g.R::g.B::g.F::g.ids).Nodup
def TG.all (g:TG):List Int:=g.T::g.R::g.B::g.F::g.ids
theorem TT.eG {b b':Int→Option Blk} {g:TG} {t:TN} (h:TT b g t) (hk: ∀x y,x∈g.all→b x=some y→b' x=some y):TT b' g t:=
 ⟨h.fE.eG fun x y hx hy=>hk x y (by unfold TG.all;rcases hx with rfl | hx<;>simp[*]) hy,hk _ _ (by simp[TG.all]) h.hd,hk _ _ (by simp[TG.all]) h.ba,hk _ _ (by simp[TG.all]) h.fre,h.pT,h.pR,h.pB,h.pF,h.nd⟩
theorem TT.aJ1 {b:Int→Option Blk} {g:TG} {t:TN} (h:TT b g t) (m:Nat):frz b (m+1) (.lsl g.B 1 0 t.r)=some (.sl (iv (lb t.r t.bs))):=by
 rcases Int.lt_or_le g.B 0 with bP | hB
 ·have hr:=h.pB bP
  rw[hr]
  have e:lb 0 t.bs= []:=rfl
  rw[e]
  simp[Vm.frz,bP,iv]
 have h1:=jF (n:=m) hB h.ba
 rw[iO (nK _)] at h1
 rw[show(iv (lb t.r t.bs)).length=t.r by simp] at h1
 rw[h1];rfl
theorem TT.frz {b:Int→Option Blk} {g:TG} {t:TN} (h:TT b g t) (m:Nat):frz b (m+4) (.loc g.T 6 0 0)=some (.ptr t.c):=by
 have hi: ∀m (k:Int),Vm.frz b m (.int .i64 k)=some (.int .i64 k):=fun m k=>by cases m<;>simp[Vm.frz]
 have hb: ∀m (k:Bool),Vm.frz b m (.bool k)=some (.bool k):=fun m k=>by cases m<;>simp[Vm.frz]
 have hs: ∀m (l:List Int),Vm.frz b (m+1) (.sl (iv l))=some (.sl (iv l)):=fun m l=>by simp[Vm.frz,V.cl]
 have h1:Vm.frz b (m+3) (.lsl g.R 1 0 t.r)=some (.sl (zzv t.r (t.n+1) t.Z)):=by
  rcases Int.lt_or_le g.R 0 with bP | hR
  ·have hr:=h.pR bP
   rw[hr]
   have e:zzv 0 (t.n+1) t.Z= []:=rfl
   rw[e]
   simp[Vm.frz,bP]
  have h1:=jF (n:=m+2) hR h.fE.top
  rw[List.length_map,h.fE.len] at h1
  rw[h1]
  have h2:(g.ids.map fun g=> [V.lsl g 2 0 (t.n+1)]).mapM (fun e:List V=>e.mapM (Vm.frz b (m+2)))=some (zzv t.r (t.n+1) t.Z):=by
   refine zK _ _ (by simp[h.fE.len]) fun i x y hx hy=> ?_
   rw[List.getElem?_map] at hx
   cases hi:g.ids[i]? with
   | none => rw [hi] at hx; cases hx
   | some gi =>
     rw[hi] at hx;cases hx
     have hlt:i<t.r:=by rw[←h.fE.len];exact(List.getElem?_eq_some_iff.1 hi).1
     rw[List.getElem?_eq_getElem (by simpa using hlt),Pf] at hy
     cases hy
     have h3:=jF (bl:=b) (n:=m+1) (sz:=2) (els:=zv (t.n+1) (t.Z i)) (h.fE.pos gi (List.mem_of_getElem? hi)) (h.fE.row i gi hi)
     rw[iO (aHL _ _)] at h3
     simp only[List.mapM_cons,List.mapM_nil]
     rw[show(zv (t.n+1) (t.Z i)).length=t.n+1 by simp] at h3
     rw[h3];rfl
  rw[h2];rfl
 have h2:Vm.frz b (m+3) (.lsl g.B 1 0 t.r)=some (.sl (iv (lb t.r t.bs))):=by
  rcases Int.lt_or_le g.B 0 with bP | hB
  ·have hr:=h.pB bP
   rw[hr]
   have e:lb 0 t.bs= []:=rfl
   rw[e]
   simp[Vm.frz,bP,iv]
  have h1:=jF (n:=m+2) hB h.ba
  rw[iO (nK _)] at h1
  rw[show(iv (lb t.r t.bs)).length=t.r by simp] at h1
  rw[h1];rfl
 have h3:Vm.frz b (m+3) (.lsl g.F 1 0 t.n)=some (.sl (lv t.n t.fr)):=by
  have h1:=jF (n:=m+2) h.pF h.fre
  rw[iO (aLA _ _)] at h1
  rw[show(lv t.n t.fr).length=t.n by simp] at h1
  rw[h1];rfl
 rw[qQ h.hd]
 simp only[List.mapM_cons,List.mapM_nil,h1,h2,h3,hi,hb,hs]
 rfl

@[simp] theorem aEB (a x y e f g : V) (p : Int) : splice [a, x, y, e, f, g] 1 (biC p) = [a, .bool (decide (p < 0)), .sl (iv (lim p.natAbs)), e, f, g] := by simp [splice, biC]
def cz (Z Y:Nat→Nat→Int) (i j:Nat):Nat→Nat→Int:=fun a c=>if a<i∨a=i∧c<j then Y a c else Z a c
theorem Qr (Z Y:Nat→Nat→Int) (i j c:Nat) (h:j≤c):cz Z Y i j i c=Z i c:=by unfold cz;rw[if_neg (by omega)]
theorem Uk (Z Y:Nat→Nat→Int) (i j a c:Nat) (h:Y a c=Z a c):cz Z Y i j a c=Z a c:=by unfold cz;split<;>simp[h]
theorem Na (Z Y:Nat→Nat→Int) (i n a c:Nat) (hc:c<n):cz Z Y i n a c=cz Z Y (i+1) 0 a c:=by
 unfold cz
 by_cases h:a<i∨a=i∧c<n
 ·rw[if_pos h,if_pos (by omega)]
 ·rw[if_neg h,if_neg (by omega)]
theorem Vk (Z Y:Nat→Nat→Int) (i a c:Nat) (h:Y i c=Z i c):cz Z Y i 0 a c=cz Z Y (i+1) 0 a c:=by
 unfold cz
 by_cases h1:a<i
 ·rw[if_pos (.inl h1),if_pos (by omega)]
 ·rw[if_neg (by omega)]
  by_cases h2:a=i
  ·subst h2;rw[if_pos (by omega),h]
  ·rw[if_neg (by omega)]
theorem Nf (Z Y:Nat→Nat→Int) (r a c:Nat) (h:a<r):cz Z Y r 0 a c=Y a c:=by unfold cz;rw[if_pos (.inl h)]
theorem Hh (Z Y:Nat→Nat→Int):cz Z Y 0 0=Z:=by funext a c;unfold cz;rw[if_neg (by omega)]
theorem Rt {n j:Nat} (Z Y:Nat→Nat→Int) (i:Nat) (hj:j<n):(zv n (cz Z Y i j i)).set j (biC (Y i j))=zv n (cz Z Y i (j+1) i):=by
 apply List.ext_getElem
 ·simp
 ·intro t h1 h2
  simp only[List.getElem_set,P5]
  by_cases h:j=t
  ·subst h
   rw[if_pos rfl];unfold cz;rw[if_pos (by omega)]
  ·rw[if_neg h]
   congr 1
   unfold cz
   by_cases h3:t<j
   ·rw[if_pos (by omega),if_pos (by omega)]
   ·rw[if_neg (by omega),if_neg (by omega)]
structure aIK (r n rp k : Nat) (Z : Nat → Nat → Int) (d : Int) (Y : Nat → Nat → Int) : Prop where
 other: ∀i c,i<r→c≤n→i≠rp→Y i c*d=Z i c*Z rp k - Z i k*Z rp c
 same: ∀c,c≤n→Y rp c=Z rp c
 ne:Z rp k≠0
theorem Mp {a b c e:Int} (ha:a.natAbs≤gP) (hb:b.natAbs≤gP) (hc:c.natAbs≤gP) (he:e.natAbs≤gP):(lim (a*b - c*e).natAbs).length≤48:=by
 have h1:(a*b).natAbs≤zW:=kD ha hb
 have h2:(c*e).natAbs≤zW:=kD hc he
 have h3:=Int.natAbs_sub_le (a*b) (c*e)
 have h4:=Hu
 refine aL.2 ?_
 have h5:LB^24+LB^24<LB^48:=by decide+kernel
 omega
structure Cd where
 j:Nat
 b:Int→Option Blk
def pvF (p:Int) (Y:Nat→Nat→Int):Nat→Nat→Int:=if 0<p then Y else fun a c=> - Y a c
def pvB (bs:Nat→Nat) (rp k:Nat):Nat→Nat:=fun i=>if i=rp then k else bs i
theorem Sf {r rp k:Nat} (bs:Nat→Nat) (h:rp<r):(iv (lb r bs)).set rp [.int .i64 k]=iv (lb r (pvB bs rp k)):=by
 apply List.ext_getElem
 ·simp
 ·intro t h1 h2
  simp only[List.getElem_set,nU,yM,pvB]
  by_cases e:rp=t
  ·subst e;simp
  ·rw[if_neg e,if_neg (Ne.symm e)]
theorem Bv {bl:Int→Option Blk} {K:V→(Int→Option Blk)→Prop} (g:TG) (t:TN) (rp k:Nat) (Y:Nat→Nat→Int) (h:TT bl g t) (hz:ZB t.r t.n t.Z t.d) (hr:rp<t.r) (hk:k<t.n) (hY:aIK t.r t.n rp k t.Z t.d Y)
  (hK: ∀b',TT b' g ⟨t.r,t.n,pvF (t.Z rp k) Y,((t.Z rp k).natAbs:Int),pvB t.bs rp k,t.fr⟩→(∀x y,bl x=some y→x∉g.all→b' x=some y)→K (.tup []) b'):
  bY Tryz.prog 258 [.loc g.T 6 0 0,.int .i64 rp,.int .i64 k] bl K:=by
 obtain⟨r,n,Z,d,bs,fr⟩:=t
 obtain⟨gT,gR,gB,gF,ids⟩:=g
 simp only at hz hr hk hY hK ⊢
 obtain⟨hG,hhd,hba,Wc,pT,pR,pB,pF,hnd⟩:=h
 simp only at hG hhd hba Wc pT pR pB pF hnd
 have hrl:=hz.rl
 have hnl:=hz.nl
 have hd0:=hz.d0
 have aOR:=hnd
 simp only[List.nodup_cons,List.mem_cons,not_or] at hnd
 obtain⟨⟨nTR,nTB,nTF,nTi⟩,⟨nRB,nRF,nRi⟩,⟨nBF,nBi⟩,nFi,nds⟩:=hnd
 obtain⟨gp,hgp,aTS,aU5,aME⟩:=hG.at rp hr
 have uQ:=hG.top
 have hil:=hG.len
 have hk1:k<n+1:=by omega
 have hk2:(k:Int)<(n:Int)+1:=by omega
 have ntT: ∀x,x∈ids→ ¬ x=gT:=fun x hx e=>nTi (e▸hx)
 have ntR: ∀x,x∈ids→ ¬ x=gR:=fun x hx e=>nRi (e▸hx)
 have ntB: ∀x,x∈ids→ ¬ x=gB:=fun x hx e=>nBi (e▸hx)
 have ntF: ∀x,x∈ids→ ¬ x=gF:=fun x hx e=>nFi (e▸hx)
 refine cJ Tryz.func258 rfl rfl (by rw[Tryz.ntmps258];simp) ?_
 rw[Tryz.ntmps258,Tryz.results258]
 refine aE ?_
 simp[hhd,uQ,hgp,hr]
 refine aE ?_
 simp[aME,hk1,hk2]
 intro g7 hg7 hb7
 have m7:g7∉ids:=fun hm=>by
  obtain⟨j,hj⟩:=List.mem_iff_getElem?.1 hm
  rw[hG.row j g7 hj] at hb7;cases hb7
 have n7T: ¬ g7=gT:=fun e=>by rw[e,hhd] at hb7;cases hb7
 have n7R: ¬ g7=gR:=fun e=>by rw[e,uQ] at hb7;cases hb7
 have n7B: ¬ g7=gB:=fun e=>by rw[e,hba] at hb7;cases hb7
 have n7F: ¬ g7=gF:=fun e=>by rw[e,Wc] at hb7;cases hb7
 obtain⟨p,hp⟩: ∃p,Z rp k=p:=⟨_,rfl⟩
 simp only[hp] at hK ⊢
 have hG7:ZG (upd bl g7 (some ⟨2,[biC p]⟩)) gR ids r (n+1) Z:=hG.eG fun x y hx hy=>by
  rw[aK _ _ _ _ (by rintro rfl;rcases hx with hx | hx;exact n7R hx;exact m7 hx)];exact hy
 have e7:upd bl g7 (some ⟨2,[biC p]⟩) g7=some ⟨2,[biC p]⟩:=by simp
 have eT:upd bl g7 (some ⟨2,[biC p]⟩) gT=bl gT:=by simp[Ne.symm n7T]
 have eB:upd bl g7 (some ⟨2,[biC p]⟩) gB=bl gB:=by simp[Ne.symm n7B]
 have eF:upd bl g7 (some ⟨2,[biC p]⟩) gF=bl gF:=by simp[Ne.symm n7F]
 have aSJ:Sub bl (upd bl g7 (some ⟨2,[biC p]⟩)):=by simp[hb7]
 generalize upd bl g7 (some ⟨2,[biC p]⟩)=b0 at *
 rw[hhd] at eT
 rw[hba] at eB
 rw[Wc] at eF
 clear hG aME hhd uQ hba Wc
 have aVL:=hG7.top
 refine fG [(0,.loc gT 6 0 0),(1,.int .i64 rp),(2,.int .i64 k),(6,.lsl gp 2 0 (n+1)),(7,.loc g7 2 0 0)] 128 b0 ⟨rfl,by simp,Sub.refl _⟩ ?_
 refine aE ?_
 simp[eT]
 refine aG (fun q:Cd=> [(0,.loc gT 6 0 0),(1,.int .i64 rp),(2,.int .i64 k),(6,.lsl gp 2 0 (n+1)),(7,.loc g7 2 0 0),(30,.lsl gR 1 0 r),(31,.int .i64 r),(32,.int .i64 q.j)]) (fun q=>q.b) (fun q=>q.j≤r∧ZG q.b gR ids r (n+1) (cz Z Y q.j 0)∧(∀x y,b0 x=some y→x∉ids→q.b x=some y)) (fun q=>r - q.j) _ ⟨0,b0⟩ ⟨Nat.zero_le _,by simp only;rw[Hh];exact hG7,fun _ _ h _=>h⟩ ⟨rfl,by simp,Sub.refl _⟩ ?_
 rintro⟨i,b⟩ ⟨hi,hGb,hfb⟩
 simp only at hi hGb hfb
 have wi:IntKind.i64.wrap ((i:Int)+1)=(i:Int)+1:=i64_in (by omega) (by omega)
 have bT:=hfb _ _ eT nTi
 have b7:=hfb _ _ e7 m7
 have bR:=hGb.top
 refine aE ?_
 simp
 refine aE ?_
 simp
 refine⟨fun hlt=> ?_,fun hlt=> ?_⟩
 ·obtain⟨gi,hgi,yD,yH,mU⟩:=hGb.at i hlt
  refine aO (aX ?_)
  refine aE ?_
  simp[hlt,bR,hgi]
  refine aE ?_
  simp
  refine⟨fun hir=> ?_,fun hir=> ?_⟩
  ·
   refine aB ?_
   simp[wi,aA]
   have aDK:i=rp:=by omega
   refine⟨⟨i+1,b⟩,⟨by simp only;omega,hGb.congr fun a c _ hc=>Vk Z Y i a c (by rw[aDK];exact hY.same c (by omega)),hfb⟩,by simp only;omega,rfl,by simp,Sub.refl _⟩
  have aI4:i≠rp:=by omega
  have hZi: ∀c,c≤n→(Z i c).natAbs≤gP:=fun c hc=>hz.z i c hlt hc
  have hZp: ∀c,c≤n→(Z rp c).natAbs≤gP:=fun c hc=>hz.z rp c hr hc
  have hpl:p.natAbs≤gP:=by rw[←hp];exact hZp k (by omega)
  have hl4: ∀ {x:Int},x.natAbs≤gP→(lim x.natAbs).length≤400000:=fun hx=>Nat.le_trans (dZ (kB hx)) (by omega)
  refine aE ?_
  simp[mU,hk1,hk2]
  intro g10 aXL H6
  have m10:g10∉ids:=fun hm=>by
   obtain⟨j,hj⟩:=List.mem_iff_getElem?.1 hm
   rw[hGb.row j g10 hj] at H6;cases H6
  have aUL: ¬ g10=gT:=fun e=>by rw[e,bT] at H6;cases H6
  have aUJ: ¬ g10=g7:=fun e=>by rw[e,b7] at H6;cases H6
  have aUB: ¬ g10=gR:=fun e=>by rw[e,bR] at H6;cases H6
  rw[Qr Z Y i 0 k (Nat.zero_le _)]
  have aIX:ZG (upd b g10 (some ⟨2,[biC (Z i k)]⟩)) gR ids r (n+1) (cz Z Y i 0):=hGb.eG fun x y hx hy=>by
   rw[aK _ _ _ _ (by rintro rfl;rcases hx with hx | hx;exact aUB hx;exact m10 hx)];exact hy
  have c10:upd b g10 (some ⟨2,[biC (Z i k)]⟩) g10=some ⟨2,[biC (Z i k)]⟩:=by simp
  have cT:upd b g10 (some ⟨2,[biC (Z i k)]⟩) gT=b gT:=by simp[Ne.symm aUL]
  have c7:upd b g10 (some ⟨2,[biC (Z i k)]⟩) g7=b g7:=by simp[Ne.symm aUJ]
  have hbk: ∀x y,b0 x=some y→x∉ids→upd b g10 (some ⟨2,[biC (Z i k)]⟩) x=some y:=fun x y hx hn=>by
   have:=hfb x y hx hn
   rw[aK _ _ _ _ (by rintro rfl;rw[H6] at this;cases this)];exact this
  rw[bT] at cT
  rw[b7] at c7
  generalize upd b g10 (some ⟨2,[biC (Z i k)]⟩)=b1 at *
  refine aB ?_
  simp
  refine aG (fun q:Cd=> [(0,.loc gT 6 0 0),(1,.int .i64 rp),(2,.int .i64 k),(6,.lsl gp 2 0 (n+1)),(7,.loc g7 2 0 0),(30,.lsl gR 1 0 r),(31,.int .i64 r),(32,.int .i64 i),(8,.int .i64 i),(9,.lsl gi 2 0 (n+1)),(10,.loc g10 2 0 0),(45,.int .i64 (n+1)),(46,.int .i64 q.j)]) (fun q=>q.b) (fun q=>q.j≤n+1∧ZG q.b gR ids r (n+1) (cz Z Y i q.j)∧(∀x y,b1 x=some y→x∉ids→q.b x=some y)) (fun q=>n+1 - q.j) _ ⟨0,b1⟩ ⟨Nat.zero_le _,aIX,fun _ _ h _=>h⟩ ⟨rfl,by simp,Sub.refl _⟩ ?_
  clear hGb hfb bT b7 bR mU H6 aIX
  rintro⟨j,b⟩ ⟨hj,hGb,hfb⟩
  simp only at hj hGb hfb
  have wj:IntKind.i64.wrap ((j:Int)+1)=(j:Int)+1:=i64_in (by omega) (by omega)
  have bT:=hfb _ _ cT nTi
  have b7:=hfb _ _ c7 m7
  have b10:=hfb _ _ c10 m10
  have bR:=hGb.top
  have bgi:=hGb.row i gi hgi
  have bgp:=hGb.row rp gp hgp
  have nip: ¬ gp=gi:=fun e=>aI4 (hGb.inj i rp gi hgi (by rw[←e];exact hgp))
  refine aE ?_
  simp
  refine aE ?_
  simp
  refine⟨fun hjn=> ?_,fun hjn=> ?_⟩
  ·have H7:j<n+1:=by omega
   have V7:j≤n:=by omega
   have hj2:(j:Int)<(n:Int)+1:=by omega
   have ezi:cz Z Y i j i j=Z i j:=Qr Z Y i j j (Nat.le_refl _)
   have ezp:cz Z Y i j rp j=Z rp j:=Uk Z Y i j rp j (hY.same j V7)
   have hT1:=lH (Z i j) p (hl4 (hZi j V7)) (hl4 hpl)
   have hT2:=lH (Z i k) (Z rp j) (hl4 (hZi k (by omega))) (hl4 (hZp j V7))
   have hL1:(lim (Z i j*p).natAbs).length≤24:=dZ (kD (hZi j V7) hpl)
   have hL2:(lim (Z i k*Z rp j).natAbs).length≤24:=dZ (kD (hZi k (by omega)) (hZp j V7))
   have hM:=L9 (Z i j*p) (Z i k*Z rp j) (Nat.le_trans hL1 (by omega)) (Nat.le_trans hL2 (by omega))
   have hx:=hY.other i j hlt V7 aI4
   rw[hp] at hx
   have hL3:(lim (Z i j*p - Z i k*Z rp j).natAbs).length≤48:=Mp (hZi j V7) hpl (hZi k (by omega)) (hZp j V7)
   have hE:=Dc (Z i j*p - Z i k*Z rp j) d (Y i j) hx.symm hd0 (by omega) (Nat.le_trans (dZ (kB hz.dl)) (by omega))
   rw[show biC d= [.bool (decide (d<0)),.sl (iv (lim d.natAbs))] from rfl] at hE
   refine aO (aX ?_)
   refine aE ?_
   simp
   refine aE ?_
   simp
   refine aW aM b (Sub.refl _) [0,1,2,3,4,5] 2 (by kernel_rfl) ?_
   simp[bgi,H7,hj2,ezi,b7]
   refine aN hT1 ?_
   simp
   refine Dz 6 ?_
   simp
   intro g12 uA oQ
   have m12:g12∉ids:=fun hm=>by
    obtain⟨u,hu⟩:=List.mem_iff_getElem?.1 hm
    rw[hGb.row u g12 hu] at oQ;cases oQ
   have aS7: ¬ g12=gT:=fun e=>by rw[e,bT] at oQ;cases oQ
   have aXK: ¬ g12=g7:=fun e=>by rw[e,b7] at oQ;cases oQ
   have Ym: ¬ g12=g10:=fun e=>by rw[e,b10] at oQ;cases oQ
   have aV7: ¬ g12=gR:=fun e=>by rw[e,bR] at oQ;cases oQ
   have aKE: ¬ g12=gi:=fun e=>m12 (e▸yD)
   have aNL: ¬ g12=gp:=fun e=>m12 (e▸aTS)
   refine⟨by simp[oQ],Dz 7 ?_⟩
   simp
   refine⟨by simp[oQ],Dy ?_⟩
   simp
   refine iD (fun _:Unit=> [(0,.loc gT 6 0 0),(1,.int .i64 rp),(2,.int .i64 k),(6,.lsl gp 2 0 (n+1)),(7,.loc g7 2 0 0),(30,.lsl gR 1 0 r),(31,.int .i64 r),(32,.int .i64 i),(8,.int .i64 i),(9,.lsl gi 2 0 (n+1)),(10,.loc g10 2 0 0),(45,.int .i64 (n+1)),(46,.int .i64 j),(11,.int .i64 j),(12,.loc g12 2 0 0)]) (fun _=>upd b g12 (some ⟨2,[biC (Z i j*p - Z i k*Z rp j)]⟩)) (fun _=>True) 128 ?_ ?_
   ·refine aE ?_
    simp
    refine bD [(0,.loc gT 6 0 0),(1,.int .i64 rp),(2,.int .i64 k),(6,.lsl gp 2 0 (n+1)),(7,.loc g7 2 0 0),(30,.lsl gR 1 0 r),(31,.int .i64 r),(32,.int .i64 i),(8,.int .i64 i),(9,.lsl gi 2 0 (n+1)),(10,.loc g10 2 0 0),(45,.int .i64 (n+1)),(46,.int .i64 j),(11,.int .i64 j),(12,.loc g12 2 0 0)] _ (upd b g12 (some ⟨2,[biC (Z i j*p)]⟩)) 65 (.bool (decide (Z i k≠0∧Z rp j≠0))) ⟨rfl,by simp,Sub.refl _⟩ rfl ?_ ?_
    ·simp[Ne.symm Ym,b10]
     refine aD (mJ _) ?_
     simp[Int.sign_eq_zero_iff_zero]
     by_cases h1:Z i k=0
     ·simp[h1]
     ·simp[h1,Ne.symm aNL,bgp,H7,hj2,ezp]
      refine aD (mJ _) ?_
      simp[Int.sign_eq_zero_iff_zero]
      by_cases h2:Z rp j=0<;>simp[h2]
    simp
    refine aB ?_
    simp
    refine⟨fun h1 h2=> ?_,fun hno=> ?_⟩
    ·refine dC aM [0,1,2,3,4,5,6,7] 1 8 (by kernel_rfl) ?_
     simp[Ne.symm Ym,Ne.symm aNL,b10,bgp,H7,hj2,ezp]
     refine aN hT2 ?_
     simp
     refine aN hM ?_
     simp
     refine cU (i:=8) (by kernel_rfl) rfl rfl rfl ?_
     simp
     refine Dy ?_
     simp[aI]
     exact⟨rfl,by simp,sub_eq rfl⟩
    ·have e0:Z i j*p - Z i k*Z rp j=Z i j*p:=by
      have:Z i k*Z rp j=0:=by
       by_cases g1:Z i k=0
       ·rw[g1,Int.zero_mul]
       ·rw[hno g1,Int.mul_zero]
      omega
     simp[aI]
     exact⟨rfl,by simp,sub_eq (by rw[e0])⟩
   rintro⟨⟩ _
   have rI:=Rt Z Y i H7
   have hGp:=hGb.put (Z':=cz Z Y i (j+1)) hgi fun a c ha _=>by
    unfold cz
    by_cases h1:a<i
    ·rw[if_pos (.inl h1),if_pos (.inl h1)]
    ·rw[if_neg (by omega),if_neg (by omega)]
   refine aB ?_
   simp
   refine dC aM [0,1,2,3,4,5,6,7,8] 1 9 (by kernel_rfl) ?_
   simp[Ne.symm aS7,bT]
   refine aN hE ?_
   simp[Ne.symm aKE,bgi,H7,hj2]
   refine cU (i:=9) (by kernel_rfl) rfl rfl rfl ?_
   simp[Ne.symm aKE,bgi,H7,hj2,ezi]
   refine Dy ?_
   rw[rI]
   simp
   refine aB ?_
   simp[wj,aA]
   refine⟨⟨j+1,upd b gi (some ⟨2,zv (n+1) (cz Z Y i (j+1) i)⟩)⟩,⟨by simp only;omega,hGp,fun x y hx hn=> ?_⟩,by simp only;omega,rfl,by simp,?_⟩
   ·simp only
    rw[aK _ _ _ _ (by rintro rfl;exact hn yD)];exact hfb x y hx hn
   ·intro z y hz2
    simp only[aC] at hz2 ⊢
    grind
  ·have Pj:j=n+1:=by omega
   subst Pj
   refine aB ?_
   simp[wi,aA]
   exact⟨⟨i+1,b⟩,⟨by simp only;omega,hGb.congr fun a c _ hc=>Na Z Y i (n+1) a c hc,fun x y hx hn=>hfb x y (hbk x y hx hn) hn⟩,by simp only;omega,rfl,by simp,Sub.refl _⟩
 have hir:i=r:=by omega
 subst hir
 have hGY:ZG b gR ids i (n+1) Y:=hGb.congr fun a c ha _=>Nf Z Y i a c ha
 have bB:=hfb _ _ eB nBi
 have bF:=hfb _ _ eF nFi
 have hlb:=Sf (r:=i) (k:=k) bs hr
 clear hGb
 refine aE ?_
 simp[b7,bT,n7T,Ne.symm n7T]
 refine aE ?_
 simp[Ne.symm nTB,nTB,bB,hr,hlb]
 refine aE ?_
 simp[n7T,n7B,b7]
 refine aD (mJ _) ?_
 simp
 have aV9:p≠0:=by rw[←hp];exact hY.ne
 have hG2:ZG (upd (upd b gT (some ⟨6,[[.lsl gR 1 0 i,.bool (decide (p<0)),.sl (iv (lim p.natAbs)),.lsl gB 1 0 i,.int .i64 n,.lsl gF 1 0 n]]⟩)) gB (some ⟨1,iv (lb i (pvB bs rp k))⟩)) gR ids i (n+1) Y:=hGY.eG fun x y hx hy=>by
  have h1:x≠gB:=by rintro rfl;rcases hx with hx | hx;exact nRB hx.symm;exact nBi hx
  have h2:x≠gT:=by rintro rfl;rcases hx with hx | hx;exact nTR hx;exact nTi hx
  rw[aK _ _ _ _ h1,aK _ _ _ _ h2];exact hy
 have e2T:(upd (upd b gT (some ⟨6,[[.lsl gR 1 0 i,.bool (decide (p<0)),.sl (iv (lim p.natAbs)),.lsl gB 1 0 i,.int .i64 n,.lsl gF 1 0 n]]⟩)) gB (some ⟨1,iv (lb i (pvB bs rp k))⟩)) gT=some ⟨6,[[.lsl gR 1 0 i,.bool (decide (p<0)),.sl (iv (lim p.natAbs)),.lsl gB 1 0 i,.int .i64 n,.lsl gF 1 0 n]]⟩:=by simp[nTB]
 have e2B:(upd (upd b gT (some ⟨6,[[.lsl gR 1 0 i,.bool (decide (p<0)),.sl (iv (lim p.natAbs)),.lsl gB 1 0 i,.int .i64 n,.lsl gF 1 0 n]]⟩)) gB (some ⟨1,iv (lb i (pvB bs rp k))⟩)) gB=some ⟨1,iv (lb i (pvB bs rp k))⟩:=by simp
 have e2F:(upd (upd b gT (some ⟨6,[[.lsl gR 1 0 i,.bool (decide (p<0)),.sl (iv (lim p.natAbs)),.lsl gB 1 0 i,.int .i64 n,.lsl gF 1 0 n]]⟩)) gB (some ⟨1,iv (lb i (pvB bs rp k))⟩)) gF=some ⟨1,lv n fr⟩:=by simp[Ne.symm nBF,Ne.symm nTF,bF]
 have e27:(upd (upd b gT (some ⟨6,[[.lsl gR 1 0 i,.bool (decide (p<0)),.sl (iv (lim p.natAbs)),.lsl gB 1 0 i,.int .i64 n,.lsl gF 1 0 n]]⟩)) gB (some ⟨1,iv (lb i (pvB bs rp k))⟩)) g7=some ⟨2,[biC p]⟩:=by simp[n7T,n7B,b7]
 have e2f: ∀x y,bl x=some y→x∉TG.all ⟨gT,gR,gB,gF,ids⟩→(upd (upd b gT (some ⟨6,[[.lsl gR 1 0 i,.bool (decide (p<0)),.sl (iv (lim p.natAbs)),.lsl gB 1 0 i,.int .i64 n,.lsl gF 1 0 n]]⟩)) gB (some ⟨1,iv (lb i (pvB bs rp k))⟩)) x=some y:=fun x y hx hn=>by
  simp only[TG.all,List.mem_cons,not_or] at hn
  rw[aK _ _ _ _ hn.2.2.1,aK _ _ _ _ hn.1]
  exact hfb x y (aSJ x y hx) hn.2.2.2.2
 generalize upd (upd b gT (some ⟨6,[[.lsl gR 1 0 i,.bool (decide (p<0)),.sl (iv (lim p.natAbs)),.lsl gB 1 0 i,.int .i64 n,.lsl gF 1 0 n]]⟩)) gB (some ⟨1,iv (lb i (pvB bs rp k))⟩)=b2 at *
 refine⟨fun kN=> ?_,fun bP=> ?_⟩
 ·rw[bW]
  refine⟨[],by simp,hK b2 ⟨?_,?_,e2B,e2F,pT,pR,pB,pF,aOR⟩ e2f⟩
  ·simp only[pvF,if_pos kN];exact hG2
  ·simp only[show((p.natAbs:Nat):Int)=p by omega];exact e2T
 clear hGY hfb bB bF bT b7
 have hO:=mG p
 refine fG [(0,.loc gT 6 0 0),(1,.int .i64 rp),(2,.int .i64 k),(6,.lsl gp 2 0 (n+1)),(7,.loc g7 2 0 0)] 128 b2 ⟨rfl,by simp,Sub.refl _⟩ ?_
 refine aE ?_
 simp[e27]
 refine aD hO ?_
 simp[e2T]
 have hG3:ZG (upd b2 gT (some ⟨6,[[.lsl gR 1 0 i,.bool (decide (0<p)),.sl (iv (lim p.natAbs)),.lsl gB 1 0 i,.int .i64 n,.lsl gF 1 0 n]]⟩)) gR ids i (n+1) (cz Y (fun a c=> - Y a c) 0 0):=by
  rw[Hh]
  exact hG2.eG fun x y hx hy=>by
   have h2:x≠gT:=by rintro rfl;rcases hx with hx | hx;exact nTR hx;exact nTi hx
   rw[aK _ _ _ _ h2];exact hy
 have e3T:(upd b2 gT (some ⟨6,[[.lsl gR 1 0 i,.bool (decide (0<p)),.sl (iv (lim p.natAbs)),.lsl gB 1 0 i,.int .i64 n,.lsl gF 1 0 n]]⟩)) gT=some ⟨6,[[.lsl gR 1 0 i,.bool (decide (0<p)),.sl (iv (lim p.natAbs)),.lsl gB 1 0 i,.int .i64 n,.lsl gF 1 0 n]]⟩:=by simp
 have e3B:(upd b2 gT (some ⟨6,[[.lsl gR 1 0 i,.bool (decide (0<p)),.sl (iv (lim p.natAbs)),.lsl gB 1 0 i,.int .i64 n,.lsl gF 1 0 n]]⟩)) gB=some ⟨1,iv (lb i (pvB bs rp k))⟩:=by simp[Ne.symm nTB,e2B]
 have e3F:(upd b2 gT (some ⟨6,[[.lsl gR 1 0 i,.bool (decide (0<p)),.sl (iv (lim p.natAbs)),.lsl gB 1 0 i,.int .i64 n,.lsl gF 1 0 n]]⟩)) gF=some ⟨1,lv n fr⟩:=by simp[Ne.symm nTF,e2F]
 have e3f: ∀x y,bl x=some y→x∉TG.all ⟨gT,gR,gB,gF,ids⟩→(upd b2 gT (some ⟨6,[[.lsl gR 1 0 i,.bool (decide (0<p)),.sl (iv (lim p.natAbs)),.lsl gB 1 0 i,.int .i64 n,.lsl gF 1 0 n]]⟩)) x=some y:=fun x y hx hn=>by
  have hn2:=hn
  simp only[TG.all,List.mem_cons,not_or] at hn2
  rw[aK _ _ _ _ hn2.1]
  exact e2f x y hx hn
 generalize upd b2 gT (some ⟨6,[[.lsl gR 1 0 i,.bool (decide (0<p)),.sl (iv (lim p.natAbs)),.lsl gB 1 0 i,.int .i64 n,.lsl gF 1 0 n]]⟩)=b3 at *
 have e3R:=hG3.top
 refine aB ?_
 simp[e3T]
 refine aG (fun q:Cd=> [(0,.loc gT 6 0 0),(107,.lsl gR 1 0 i),(108,.int .i64 i),(109,.int .i64 q.j)]) (fun q=>q.b) (fun q=>q.j≤i∧ZG q.b gR ids i (n+1) (cz Y (fun a c=> - Y a c) q.j 0)∧(∀x y,b3 x=some y→x∉ids→q.b x=some y)) (fun q=>i - q.j) _ ⟨0,b3⟩ ⟨Nat.zero_le _,hG3,fun _ _ h _=>h⟩ ⟨rfl,by simp,Sub.refl _⟩ ?_
 rintro⟨t,b⟩ ⟨ht,hGb,hfb⟩
 simp only at ht hGb hfb
 have wt:IntKind.i64.wrap ((t:Int)+1)=(t:Int)+1:=i64_in (by omega) (by omega)
 have bR:=hGb.top
 refine aE ?_
 simp
 refine aE ?_
 simp
 refine⟨fun hlt=> ?_,fun hlt=> ?_⟩
 ·obtain⟨gt,hgt,aUR,aXQ,aT7⟩:=hGb.at t hlt
  refine aO (aX ?_)
  refine aE ?_
  simp[hlt,bR,hgt]
  refine aB ?_
  simp
  refine aG (fun q:Cd=> [(0,.loc gT 6 0 0),(107,.lsl gR 1 0 i),(108,.int .i64 i),(109,.int .i64 t),(14,.lsl gt 2 0 (n+1)),(114,.int .i64 (n+1)),(115,.int .i64 q.j)]) (fun q=>q.b) (fun q=>q.j≤n+1∧ZG q.b gR ids i (n+1) (cz Y (fun a c=> - Y a c) t q.j)∧(∀x y,b3 x=some y→x∉ids→q.b x=some y)) (fun q=>n+1 - q.j) _ ⟨0,b⟩ ⟨Nat.zero_le _,hGb,hfb⟩ ⟨rfl,by simp,Sub.refl _⟩ ?_
  clear hGb hfb bR aT7
  rintro⟨j,b⟩ ⟨hj,hGb,hfb⟩
  simp only at hj hGb hfb
  have wj:IntKind.i64.wrap ((j:Int)+1)=(j:Int)+1:=i64_in (by omega) (by omega)
  have bgt:=hGb.row t gt hgt
  refine aB ?_
  simp
  refine⟨fun hjn=> ?_,fun hjn=> ?_⟩
  ·have H7:j<n+1:=by omega
   have hj2:(j:Int)<(n:Int)+1:=by omega
   have ezi:cz Y (fun a c=> - Y a c) t j t j=Y t j:=Qr Y _ t j j (Nat.le_refl _)
   have rI:=Rt Y (fun a c=> - Y a c) t H7
   have hGp:=hGb.put (Z':=cz Y (fun a c=> - Y a c) t (j+1)) hgt fun a c ha _=>by
    unfold cz
    by_cases h1:a<t
    ·rw[if_pos (.inl h1),if_pos (.inl h1)]
    ·rw[if_neg (by omega),if_neg (by omega)]
   simp[bgt,H7,hj2,ezi]
   refine aD (mG _) ?_
   simp[bgt,H7,hj2,ezi,rI,wj,aA]
   refine⟨⟨j+1,upd b gt (some ⟨2,zv (n+1) (cz Y (fun a c=> - Y a c) t (j+1) t)⟩)⟩,⟨by simp only;omega,hGp,fun x y hx hn=> ?_⟩,by simp only;omega,rfl,by simp,Sub.refl _⟩
   simp only
   rw[aK _ _ _ _ (by rintro rfl;exact hn aUR)];exact hfb x y hx hn
  ·have Pj:j=n+1:=by omega
   subst Pj
   simp
   refine aB ?_
   simp[wt,aA]
   exact⟨⟨t+1,b⟩,⟨by simp only;omega,hGb.congr fun a c _ hc=>Na Y _ t (n+1) a c hc,hfb⟩,by simp only;omega,rfl,by simp,Sub.refl _⟩
 have hti:t=i:=by omega
 subst hti
 simp
 rw[kG]
 refine⟨[],by simp,hK b ⟨?_,?_,?_,?_,pT,pR,pB,pF,aOR⟩ fun x y hx hn=> ?_⟩
 ·simp only[pvF,if_neg (show ¬ 0<p by omega)]
  exact hGb.congr fun a c ha _=>Nf Y _ t a c ha
 ·simp only[show decide ((p.natAbs:Int)<0)=decide (0<p) by rw[decide_eq_false (by omega),decide_eq_false (by omega)],Int.natAbs_natCast]
  exact hfb _ _ e3T nTi
 ·exact hfb _ _ e3B nBi
 ·exact hfb _ _ e3F nFi
 ·have hn2:=hn
  simp only[TG.all,List.mem_cons,not_or] at hn2
  exact hfb _ _ (e3f x y hx hn) hn2.2.2.2.2

abbrev oY (n m:Nat) (E:Nat→Nat→Rat) (rows:List Nat) (t:Lp.Tab):Prop:=Lp.Inv n m (n+m) (n+m+1) 1000 E rows t
def atR (rows:List Nat) (p:Nat):Nat:=rows.getD p 0
def bV (n m:Nat) (E:Nat→Nat→Rat) (rows:List Nat) (t:Lp.Tab) (fr:Nat→Bool):TN:=
 ⟨rows.length,n+m,fun p c=>Lp.zt m E t (atR rows p) c,Lp.dz m E t,fun p=>t.bs (atR rows p),fr⟩
def Rows (m:Nat) (rows:List Nat):Prop:= ∃P:Nat→Bool,rows=(List.range m).filter P
theorem Rows.lt {m:Nat} {rows:List Nat} (h:Rows m rows) {i:Nat} (hi:i∈rows):i<m:=by
 obtain⟨P,rfl⟩:=h
 simpa using (List.mem_filter.1 hi).1
theorem Rows.len {m:Nat} {rows:List Nat} (h:Rows m rows):rows.length≤m:=by
 obtain⟨P,rfl⟩:=h
 exact Nat.le_trans (List.length_filter_le _ _) (by simp)
theorem Rows.nodup {m:Nat} {rows:List Nat} (h:Rows m rows):rows.Nodup:=by
 obtain⟨P,rfl⟩:=h
 exact List.Pairwise.filter _ List.nodup_range
theorem cK {rows:List Nat} {p:Nat} (h:p<rows.length):atR rows p∈rows:=by
 unfold atR
 rw[List.getD_eq_getElem?_getD,List.getElem?_eq_getElem h];exact List.getElem_mem h
theorem Rows.inj {m:Nat} {rows:List Nat} (h:Rows m rows) {p q:Nat} (hp:p<rows.length) (hq:q<rows.length) (e:atR rows p=atR rows q):p=q:=by
 have hn:=h.nodup
 unfold atR at e
 rw[List.getD_eq_getElem?_getD,List.getElem?_eq_getElem hp,List.getD_eq_getElem?_getD,List.getElem?_eq_getElem hq] at e
 have hp2:=List.pairwise_iff_getElem.1 hn
 simp only[Option.getD_some] at e
 rcases Nat.lt_trichotomy p q with g | g | g
 ·exact absurd e (hp2 p q hp hq g)
 ·exact g
 ·exact absurd e.symm (hp2 q p hq hp g)
theorem lY (m:Nat):Rows m (List.range m):=⟨fun _=>true,(List.filter_eq_self.2 fun _ _=>rfl).symm⟩
theorem wH (n m:Nat) (t:Lp.Tab):Rows m (Lp.bE n t m):=⟨fun i=>decide (t.bs i<n),rfl⟩
theorem aDP (l:List Nat) (x:Nat) (f:Nat→Rat):Lp.S (l++ [x]).length (fun p=>f (atR (l++ [x]) p))=Lp.S l.length (fun p=>f (atR l p))+f x:=by
 rw[List.length_append,List.length_singleton,Lp.S]
 congr 1
 ·exact Lp.bK fun p hp=>by unfold atR;rw[List.getD_eq_getElem?_getD,List.getD_eq_getElem?_getD,List.getElem?_append_left hp]
 ·unfold atR;rw[List.getD_eq_getElem?_getD,List.getElem?_append_right (Nat.le_refl _)];simp
theorem Rows.sum {m:Nat} {rows:List Nat} (h:Rows m rows) (f:Nat→Rat) (hf: ∀i,i<m→i∉rows→f i=0):Lp.S rows.length (fun p=>f (atR rows p))=Lp.S m f:=by
 obtain⟨P,rfl⟩:=h
 induction m with
 | zero => rfl
 | succ m ih =>
   rw[List.range_succ,List.filter_append]
   have hf': ∀i,i<m→i∉(List.range m).filter P→f i=0:=fun i hi hn=>hf i (by omega) fun hm=>hn (by
    rw[List.mem_filter] at hm ⊢
    exact⟨by simpa using hi,hm.2⟩)
   cases hP:P m with
   | true=>
     rw[show List.filter P [m]= [m] by simp[hP],aDP,ih hf',Lp.S]
   | false=>
     rw[show List.filter P [m]= [] by simp[hP],List.append_nil,ih hf',Lp.S,hf m (by omega) (fun hm=>by rw[List.mem_filter,hP] at hm;cases hm.2)]
     grind
theorem Tk :gP=10^66:=by unfold gP;rfl
theorem Hp {n m:Nat} {E:Nat→Nat→Rat} {rows:List Nat} {t:Lp.Tab} (h:oY n m E rows t) (hm:m≤17) (hn:n+m≤100) (hr:Rows m rows):ZB rows.length (n+m) (fun p c=>Lp.zt m E t (atR rows p) c) (Lp.dz m E t):=by
 have hl:=Lp.oJ hm
 rw[←Tk] at hl
 refine⟨fun p c hp hc=> ?_,?_,Lp.sQ h.z,by have:=hr.len;omega,hn⟩
 ·have:=Lp.Yk h.z (hr.lt (cK hp)) (show c<n+m+1 by omega)
  omega
 ·have:=Lp.Yn h.z
  have:=Lp.sQ h.z
  omega
theorem aDE {n m:Nat} {E:Nat→Nat→Rat} {rows:List Nat} {t:Lp.Tab} (h:oY n m E rows t) (hr:Rows m rows) (O:Nat→Int) (k:Nat) (hk:k<n+m+1) (hO: ∀i,i<m→i∉rows→O (t.bs i)=0):
  ((gTo (fun p c=>Lp.zt m E t (atR rows p) c) (Lp.dz m E t) (fun p=>t.bs (atR rows p)) O k rows.length:Int):Rat)=Lp.dz m E t*Lp.rc m (fun c=>(O c:Rat)) t k:=by
 have key: ∀i,i≤rows.length→((gTo (fun p c=>Lp.zt m E t (atR rows p) c) (Lp.dz m E t) (fun p=>t.bs (atR rows p)) O k i:Int):Rat)=Lp.dz m E t*((O k:Rat) - Lp.S i fun p=>t.X (atR rows p) k*(O (t.bs (atR rows p)):Rat)):=by
  intro i
  induction i with
  | zero => intro _; rw [gTo, Rat.intCast_mul, Lp.S]; grind
  | succ i ih =>
    intro hi
    have hc:=Lp.gS h.z (hr.lt (cK (show i<rows.length by omega))) hk
    rw[gTo,Lp.S]
    split
    ·rw[Rat.intCast_sub,Rat.intCast_mul,ih (by omega),hc];grind
    ·rename_i hno
     rw[ih (by omega)]
     have hz:t.X (atR rows i) k*(O (t.bs (atR rows i)):Rat)=0:=by
      by_cases g1:O (t.bs (atR rows i))=0
      ·rw[g1];grind
      ·have g2:Lp.zt m E t (atR rows i) k=0:=Classical.not_not.1 fun g2=>hno ⟨g1,g2⟩
       rw[(Lp.qW h.z (hr.lt (cK (show i<rows.length by omega))) hk).2.1 g2];grind
     rw[hz];grind
 rw[key _ (Nat.le_refl _)]
 unfold Lp.rc
 rw[hr.sum (fun i=>t.X i k*(O (t.bs i):Rat)) fun i hi hn=>by rw[hO i hi hn];grind]
theorem Ix {n m:Nat} {E:Nat→Nat→Rat} {rows:List Nat} {t:Lp.Tab} (h:oY n m E rows t) (hr:Rows m rows) (O:Nat→Int) (k:Nat) (hk:k<n+m+1) (hO: ∀i,i<m→i∉rows→O (t.bs i)=0):
  (0<gTo (fun p c=>Lp.zt m E t (atR rows p) c) (Lp.dz m E t) (fun p=>t.bs (atR rows p)) O k rows.length ↔ 0<Lp.rc m (fun c=>(O c:Rat)) t k)∧
  (gTo (fun p c=>Lp.zt m E t (atR rows p) c) (Lp.dz m E t) (fun p=>t.bs (atR rows p)) O k rows.length<0 ↔ Lp.rc m (fun c=>(O c:Rat)) t k<0):=by
 have e:=aDE h hr O k hk hO
 have hd:(0:Rat)<Lp.dz m E t:=Rat.intCast_pos.2 (Lp.sQ h.z)
 generalize gTo (fun p c=>Lp.zt m E t (atR rows p) c) (Lp.dz m E t) (fun p=>t.bs (atR rows p)) O k rows.length=G at *
 generalize Lp.rc m (fun c=>(O c:Rat)) t k=q at *
 constructor
 ·rw[←Rat.intCast_pos,e]
  constructor
  ·intro hp
   rcases Lp.gD q 0 with g | g
   ·have:=Rat.mul_nonneg (show(0:Rat)≤Lp.dz m E t by grind) (show 0≤ -q by grind);grind
   ·exact g
  ·intro hp;exact Rat.mul_pos hd hp
 ·rw[show G<0 ↔ (G:Rat)<0 from by rw[←Rat.intCast_lt_intCast];rfl,e]
  constructor
  ·intro hp
   rcases Lp.gD 0 q with g | g
   ·have:=Rat.mul_nonneg (show(0:Rat)≤Lp.dz m E t by grind) g;grind
   ·exact g
  ·intro hp
   have:=Rat.mul_pos hd (show 0< -q by grind);grind
theorem V4 {n m:Nat} {E:Nat→Nat→Rat} {rows:List Nat} {t:Lp.Tab} (h:oY n m E rows t) (hr:Rows m rows) (k:Nat) (hk:k<n+m+1): ∀i,i≤rows.length→
  Lp.leave t (n+m) k (rows.take i)=(lvZ (fun p c=>Lp.zt m E t (atR rows p) c) (n+m) k (fun p=>t.bs (atR rows p)) i).map fun p=>atR rows p
 | 0, _ => by simp [lvZ, Lp.leave]
 | i + 1, hi => by
   have hlt:i<rows.length:=by omega
   have ih:=V4 h hr k hk i (by omega)
   have e:rows.take (i+1)=rows.take i++ [atR rows i]:=by
    unfold atR;rw[List.take_add_one,List.getElem?_eq_getElem hlt,List.getD_eq_getElem?_getD,List.getElem?_eq_getElem hlt];rfl
   have hm:=hr.lt (cK hlt)
   have hs:=Lp.qW h.z hm hk
   rw[e,Lp.tF,ih,lvZ]
   unfold Lp.lvStep
   by_cases hp:0<t.X (atR rows i) k
   ·rw[if_pos hp,if_neg (show ¬ Lp.zt m E t (atR rows i) k≤0 by have:=hs.1.2 hp;omega)]
    cases hb:lvZ (fun p c=>Lp.zt m E t (atR rows p) c) (n+m) k (fun p=>t.bs (atR rows p)) i with
    | none => rfl
    | some j =>
      simp only[Option.map_some]
      have hj:=zF hb
      have hjm:=hr.lt (cK (show j<rows.length by omega))
      have hpj:0<t.X (atR rows j) k:=by
       have sR:atR rows j∈rows.take i∧0<t.X (atR rows j) k:=by
        have:=(Lp.lU t (n+m) k (rows.take i)).2 (atR rows j) (by rw[ih,hb];rfl)
        exact⟨this.1,this.2.1⟩
       exact sR.2
      have hq:=Lp.vS (a:=t.X (atR rows i) (n+m)) (b:=t.X (atR rows i) k) (c:=t.X (atR rows j) (n+m)) (d:=t.X (atR rows j) k) hp hpj
      have hd:(0:Rat)<Lp.dz m E t:=Rat.intCast_pos.2 (Lp.sQ h.z)
      have c1:=Lp.gS h.z hm (show n+m<n+m+1 by omega)
      have c2:=Lp.gS h.z hm hk
      have c3:=Lp.gS h.z hjm (show n+m<n+m+1 by omega)
      have c4:=Lp.gS h.z hjm hk
      have l1:((Lp.zt m E t (atR rows i) (n+m)*Lp.zt m E t (atR rows j) k:Int):Rat)=t.X (atR rows i) (n+m)*t.X (atR rows j) k*((Lp.dz m E t:Rat)*Lp.dz m E t):=by rw[Rat.intCast_mul,c1,c4];grind
      have l2:((Lp.zt m E t (atR rows j) (n+m)*Lp.zt m E t (atR rows i) k:Int):Rat)=t.X (atR rows j) (n+m)*t.X (atR rows i) k*((Lp.dz m E t:Rat)*Lp.dz m E t):=by rw[Rat.intCast_mul,c2,c3];grind
      have hdd:=Rat.mul_pos hd hd
      have aCD:Lp.quo t (n+m) k (atR rows i)<Lp.quo t (n+m) k (atR rows j) ↔ Lp.zt m E t (atR rows i) (n+m)*Lp.zt m E t (atR rows j) k<Lp.zt m E t (atR rows j) (n+m)*Lp.zt m E t (atR rows i) k:=by
       unfold Lp.quo
       rw[hq.1,←Rat.intCast_lt_intCast,l1,l2]
       generalize t.X (atR rows i) (n+m)*t.X (atR rows j) k=A
       generalize t.X (atR rows j) (n+m)*t.X (atR rows i) k=B
       generalize (Lp.dz m E t:Rat)*Lp.dz m E t=D at hdd
       constructor
       ·intro hh;have:=Rat.mul_pos (show 0<B - A by grind) hdd;grind
       ·intro hh
        rcases Lp.gD B A with g | g
        ·have:=Rat.mul_nonneg (show 0≤A - B by grind) (show 0≤D by grind);grind
        ·exact g
      have aJO:Lp.quo t (n+m) k (atR rows i)=Lp.quo t (n+m) k (atR rows j) ↔ Lp.zt m E t (atR rows i) (n+m)*Lp.zt m E t (atR rows j) k=Lp.zt m E t (atR rows j) (n+m)*Lp.zt m E t (atR rows i) k:=by
       unfold Lp.quo
       rw[hq.2,←Rat.intCast_inj,l1,l2]
       generalize t.X (atR rows i) (n+m)*t.X (atR rows j) k=A
       generalize t.X (atR rows j) (n+m)*t.X (atR rows i) k=B
       generalize (Lp.dz m E t:Rat)*Lp.dz m E t=D at hdd
       constructor
       ·intro hh;rw[hh]
       ·intro hh
        have:(A - B)*D=0:=by grind
        rcases Rat.mul_eq_zero.1 this with g | g
        ·grind
        ·grind
      by_cases hc:Lp.quo t (n+m) k (atR rows i)<Lp.quo t (n+m) k (atR rows j)∨Lp.quo t (n+m) k (atR rows i)=Lp.quo t (n+m) k (atR rows j)∧t.bs (atR rows i)<t.bs (atR rows j)
      ·rw[if_pos hc,if_pos (by rw[aCD,aJO] at hc;exact hc)];rfl
      ·rw[if_neg hc,if_neg (by rw[aCD,aJO] at hc;exact hc)];rfl
   ·rw[if_neg hp,if_pos (show Lp.zt m E t (atR rows i) k≤0 by
     rcases Int.lt_or_le 0 (Lp.zt m E t (atR rows i) k) with g | g
     ·exact absurd (hs.1.1 g) hp
     ·exact g)]
theorem Mt {n m:Nat} {E:Nat→Nat→Rat} {rows:List Nat} {t:Lp.Tab} (h:oY n m E rows t) (hr:Rows m rows) {p k:Nat} (hp:p<rows.length) (hk:k<n+m) (hx:t.X (atR rows p) k≠0) (fr:Nat→Bool):
  ∃Y,aIK rows.length (n+m) p k (bV n m E rows t fr).Z (Lp.dz m E t) Y∧
   ∀b g,TT b g ⟨rows.length,n+m,pvF ((bV n m E rows t fr).Z p k) Y,(((bV n m E rows t fr).Z p k).natAbs:Int),pvB (bV n m E rows t fr).bs p k,fr⟩→TT b g (bV n m E rows (Lp.piv t (atR rows p) k) fr):=by
 have hm:=hr.lt (cK hp)
 have hs:=Lp.qW h.z hm (show k<n+m+1 by omega)
 have hne:Lp.zt m E t (atR rows p) k≠0:=fun e=>hx (hs.2.1 e)
 have hd:=Lp.sQ h.z
 let z':Nat→Nat→Int:=fun a c=>Lp.zt m E (Lp.piv t (atR rows p) k) (atR rows a) c
 have hpz: ∀a c,a<rows.length→c≤n+m→_:=fun a c ha hc=>Lp.aDG h.z hm (show k<n+m+1 by omega) hx (hr.lt (cK ha)) (show c<n+m+1 by omega)
 have aCC: ∀a,a<rows.length→(atR rows a=atR rows p ↔ a=p):=fun a ha=>⟨fun e=>hr.inj ha hp e,fun e=>by rw[e]⟩
 have hbs: ∀a,a<rows.length→(Lp.piv t (atR rows p) k).bs (atR rows a)=pvB (fun q=>t.bs (atR rows q)) p k a:=fun a ha=>by
  unfold pvB
  by_cases e:a=p
  ·rw[e,if_pos rfl,Lp.dK]
  ·rw[if_neg e,Lp.cW _ _ fun e2=>e ((aCC a ha).1 e2)]
 have hTT: ∀(Y:Nat→Nat→Int),(∀a c,a<rows.length→c≤n+m→pvF (Lp.zt m E t (atR rows p) k) Y a c=z' a c)→(Lp.dz m E (Lp.piv t (atR rows p) k)=((Lp.zt m E t (atR rows p) k).natAbs:Int))→ ∀b g,TT b g ⟨rows.length,n+m,pvF ((bV n m E rows t fr).Z p k) Y,(((bV n m E rows t fr).Z p k).natAbs:Int),pvB (bV n m E rows t fr).bs p k,fr⟩→TT b g (bV n m E rows (Lp.piv t (atR rows p) k) fr):=by
  intro Y h1 h2 b g hT
  have e1:iv (lb rows.length (pvB (fun q=>t.bs (atR rows q)) p k))=iv (lb rows.length fun q=>(Lp.piv t (atR rows p) k).bs (atR rows q)):=by
   unfold lb
   congr 1
   exact List.map_congr_left fun q hq=>by simp only[hbs q (by simpa using hq)]
  refine⟨hT.fE.congr fun a c ha hc=>h1 a c ha (by simp only at hc;omega),?_,?_,hT.fre,hT.pT,hT.pR,hT.pB,hT.pF,hT.nd⟩
  ·have:=hT.hd
   simp only[bV,h2] at this ⊢
   exact this
  ·have:=hT.ba
   simp only[bV] at this ⊢
   rw[←e1];exact this
 rcases Int.lt_or_gt_of_ne hne with bP | kN
 ·refine⟨fun a c=> - z' a c,⟨fun a c ha hc hap=> ?_,fun c hc=> ?_,hne⟩,hTT _ (fun a c _ _=> ?_) ?_⟩
  ·have:=((hpz a c ha hc).2 bP).2
   rw[if_neg fun e=>hap ((aCC a ha).1 e)] at this
   simp only[bV,z']
   rw[Int.neg_mul,this];omega
  ·have:=((hpz p c hp hc).2 bP).2
   rw[if_pos rfl,←Int.neg_mul] at this
   have:=Int.eq_of_mul_eq_mul_right (by omega) this
   simp only[bV,z']
   rw[this];omega
  ·simp only[pvF,if_neg (show ¬ 0<Lp.zt m E t (atR rows p) k by omega)]
   omega
  ·rw[((hpz p 0 hp (Nat.zero_le _)).2 bP).1];omega
 ·refine⟨z',⟨fun a c ha hc hap=> ?_,fun c hc=> ?_,hne⟩,hTT _ (fun a c _ _=> ?_) ?_⟩
  ·have:=((hpz a c ha hc).1 kN).2
   rw[if_neg fun e=>hap ((aCC a ha).1 e)] at this
   exact this
  ·have:=((hpz p c hp hc).1 kN).2
   rw[if_pos rfl] at this
   exact Int.eq_of_mul_eq_mul_right (by omega) this
  ·simp only[pvF,if_pos kN]
  ·rw[((hpz p 0 hp (Nat.zero_le _)).1 kN).1];omega

theorem Qa {b:Int→Option Blk} {g:Int} {l:List Int} (h0:0≤g) (h:b g=some ⟨1,iv l⟩) (m:Nat):frz b (m+1) (.lsl g 1 0 l.length)=some (.sl (iv l)):=by
 have h1:=jF (n:=m) h0 h
 rw[iO (nK _),show(iv l).length=l.length by simp] at h1
 rw[h1];rfl
def wO (O:Nat→Int):Nat→Rat:=fun c=>(O c:Rat)
def fO (N:Nat) (fr:Nat→Bool):Nat→Prop:=fun c=>c<N∧fr c=true
structure aMH where
 j:Nat
 a:Bool
 b:Int→Option Blk
noncomputable def frK (m : Nat) (O : Nat → Int) (t : Lp.Tab) (fr : Nat → Bool) (k : Nat) : Nat → Bool := open Classical in fun c => if c < k then fr c && !decide (Lp.rc m (wO O) t c < 0) else fr c
theorem Ms (m:Nat) (O:Nat→Int) (t:Lp.Tab) (fr:Nat→Bool):frK m O t fr 0=fr:=by funext c;unfold frK;rw[if_neg (by omega)]
theorem Fl {N k:Nat} (f:Nat→Bool) (v:Bool) (h:k<N):(lv N f).set k [.bool v]=lv N (fun c=>if c=k then v else f c):=by
 apply List.ext_getElem
 ·simp
 ·intro t h1 h2
  simp only[List.getElem_set,Vp]
  by_cases e:k=t
  ·subst e;simp
  ·rw[if_neg e,if_neg (Ne.symm e)]
theorem Zg {r:Nat} {bs:Nat→Nat} {k:Nat} :(k:Int)∈lb r bs ↔ ∃p,p<r∧bs p=k:=by
 unfold lb
 constructor
 ·intro h
  obtain⟨p,hp,e⟩:=List.mem_map.1 h
  exact⟨p,by simpa using hp,by omega⟩
 ·rintro⟨p,hp,e⟩
  exact List.mem_map.2 ⟨p,by simpa using hp,by rw[e]⟩
theorem xH {bl:Int→Option Blk} {K:V→(Int→Option Blk)→Prop} (n m:Nat) (E:Nat→Nat→Rat) (rows:List Nat) (g:TG) (t:Lp.Tab) (fr:Nat→Bool) (O:Nat→Int) (gO:Int) (e:Nat)
  (hm:m≤17) (hn:n+m≤100) (hr:Rows m rows) (hO: ∀c,(O c).natAbs≤1000) (hO0:(∀i,i<m→i∈rows)∨ ∀c,n≤c→O c=0)
  (h1:Lp.nx (n+m) (n+m) rows (Lp.okW m (wO O) (fO (n+m) fr)) (Lp.orb (Lp.nx (n+m) (n+m) rows (Lp.okW m (wO O) (fO (n+m) fr))) t e)=none)
  (h2: ∀e',e'<e→(Lp.nx (n+m) (n+m) rows (Lp.okW m (wO O) (fO (n+m) fr)) (Lp.orb (Lp.nx (n+m) (n+m) rows (Lp.okW m (wO O) (fO (n+m) fr))) t e')).isSome=true)
  (hI: ∀e',e'≤e→oY n m E rows (Lp.orb (Lp.nx (n+m) (n+m) rows (Lp.okW m (wO O) (fO (n+m) fr))) t e'))
  (hTT:TT bl g (bV n m E rows t fr)) (hgO:bl gO=some ⟨1,iv (lz (n+m) O)⟩) (hg0:0≤gO) (hgn:gO∉g.all)
  (hT: ∀b',Lp.fstP (Lp.okW m (wO O) (fO (n+m) fr) (Lp.orb (Lp.nx (n+m) (n+m) rows (Lp.okW m (wO O) (fO (n+m) fr))) t e)) (n+m)=none→
    TT b' g (bV n m E rows (Lp.orb (Lp.nx (n+m) (n+m) rows (Lp.okW m (wO O) (fO (n+m) fr))) t e) (frK m O (Lp.orb (Lp.nx (n+m) (n+m) rows (Lp.okW m (wO O) (fO (n+m) fr))) t e) fr (n+m)))→
    (∀x y,bl x=some y→x∉g.all→b' x=some y)→K (.bool true) b')
  (hF: ∀b' k,Lp.fstP (Lp.okW m (wO O) (fO (n+m) fr) (Lp.orb (Lp.nx (n+m) (n+m) rows (Lp.okW m (wO O) (fO (n+m) fr))) t e)) (n+m)=some k→Lp.leave (Lp.orb (Lp.nx (n+m) (n+m) rows (Lp.okW m (wO O) (fO (n+m) fr))) t e) (n+m) k rows=none→
    TT b' g (bV n m E rows (Lp.orb (Lp.nx (n+m) (n+m) rows (Lp.okW m (wO O) (fO (n+m) fr))) t e) fr)→(∀x y,bl x=some y→x∉g.all→b' x=some y)→K (.bool false) b'):
  bY Tryz.prog 205 [.loc g.T 6 0 0,.lsl gO 1 0 (n+m)] bl K:=by
 obtain⟨nxf,hnx⟩: ∃f,Lp.nx (n+m) (n+m) rows (Lp.okW m (wO O) (fO (n+m) fr))=f:=⟨_,rfl⟩
 rw[hnx] at h1 h2 hI hT hF
 obtain⟨N,hN⟩: ∃N,n+m=N:=⟨_,rfl⟩
 have hlz:(lz N O).length=N:=by simp
 have Yl: ∀t,oY n m E rows t→ ∀i,i<m→i∉rows→O (t.bs i)=0:=fun t h i hi hn=>by
  rcases hO0 with g1 | g1
  ·exact absurd (g1 i hi) hn
  ·exact g1 _ (h.dead i hi hn).1
 have aTI: ∀b t f,TT b g (bV n m E rows t f)→ ∀q,frz b (q+4) (.loc g.T 6 0 0)=some (.ptr (bV n m E rows t f).c):=fun b t f h q=>h.frz q
 have Wy: ∀t f k,oY n m E rows t→k<N→RO Tryz.prog 256 [.ptr (bV n m E rows t f).c,.sl (iv (lz N O)),.int .i64 k] (.int .i64 (gTo (fun p c=>Lp.zt m E t (atR rows p) c) (Lp.dz m E t) (fun p=>t.bs (atR rows p)) O k rows.length).sign):=fun t f k h hk=>by
  have:=Ud rows.length (n+m) (fun p c=>Lp.zt m E t (atR rows p) c) (Lp.dz m E t) (fun p=>t.bs (atR rows p)) f O k (Hp h hm hn hr) hO (by omega) fun p hp=>h.lt _ (hr.lt (cK hp))
  rw[hN] at this
  rw[show(bV n m E rows t f).c=mD rows.length N (fun p c=>Lp.zt m E t (atR rows p) c) (Lp.dz m E t) (fun p=>t.bs (atR rows p)) f by rw[←hN];rfl]
  exact this
 have aML: ∀t f k,oY n m E rows t→k<N→RO Tryz.prog 257 [.ptr (bV n m E rows t f).c,.int .i64 k] (.int .i64 (oI (lvZ (fun p c=>Lp.zt m E t (atR rows p) c) N k (fun p=>t.bs (atR rows p)) rows.length))):=fun t f k h hk=>by
  have:=Ew rows.length (n+m) (fun p c=>Lp.zt m E t (atR rows p) c) (Lp.dz m E t) (fun p=>t.bs (atR rows p)) f k (Hp h hm hn hr) (by omega)
  rw[hN] at this
  rw[show(bV n m E rows t f).c=mD rows.length N (fun p c=>Lp.zt m E t (atR rows p) c) (Lp.dz m E t) (fun p=>t.bs (atR rows p)) f by rw[←hN];rfl]
  exact this
 have aI2: ∀(t:Lp.Tab) (k:Nat),RO Tryz.prog 255 [.sl (iv (lb rows.length fun p=>t.bs (atR rows p))),.int .i64 k] (.bool (decide ((k:Int)∈lb rows.length fun p=>t.bs (atR rows p)))):=fun t k=>vJ _ k (by rw[Ka];have:=hr.len;omega)
 have aL1: ∀(t:Lp.Tab) (k:Nat),oY n m E rows t→((k:Int)∈lb rows.length fun p=>t.bs (atR rows p))→Lp.rc m (wO O) t k=0:=fun t k h hk=>by
  obtain⟨p,hp,e⟩:=Zg.1 hk
  rw[←e];exact Lp.lT h.z.ti _ (hr.lt (cK hp))
 have hsg: ∀t k,oY n m E rows t→k<N→_:=fun t k h hk=>Ix h hr O k (show k<n+m+1 by omega) (Yl t h)
 rw[hN]
 rw[hN] at hgO
 refine cJ Tryz.func205 rfl rfl (by rw[Tryz.ntmps205];simp) ?_
 rw[Tryz.ntmps205,Tryz.results205]
 refine aE ?_
 simp
 refine aE ?_
 simp
 refine aG (fun q:aMH=> [(0,.loc g.T 6 0 0),(1,.lsl gO 1 0 N),(4,.bool false),(5,.bool q.a)]) (fun q=>q.b) (fun q=>q.j≤e∧TT q.b g (bV n m E rows (Lp.orb nxf t q.j) fr)∧(∀x y,bl x=some y→x∉g.all→q.b x=some y)∧(q.a=false→q.j=e∧Lp.fstP (Lp.okW m (wO O) (fO N fr) (Lp.orb nxf t e)) N=none)) (fun q=>2*(e - q.j)+if q.a=true then 1 else 0) _ ⟨0,true,bl⟩ ⟨Nat.zero_le _,hTT,fun _ _ h _=>h,fun h=>by cases h⟩ ⟨rfl,by simp,Sub.refl _⟩ ?_
 rintro⟨j,a,b⟩ ⟨hj,hTb,hfb,hab⟩
 simp only at hj hTb hfb hab
 have hbO:=hfb _ _ hgO hgn
 have aH3: ∀q,frz b (q+1) (.lsl gO 1 0 N)=some (.sl (iv (lz N O))):=fun q=>by have:=Qa hg0 hbO q;rwa [hlz] at this
 obtain⟨tj,htj⟩: ∃tj,Lp.orb nxf t j=tj:=⟨_,rfl⟩
 have hIj:=hI j hj
 rw[htj] at hTb hIj
 have bT:b g.T=_:=hTb.hd
 have bF:b g.F=_:=hTb.fre
 have z4T:frz b 4 (.loc g.T 6 0 0)=some (.ptr (bV n m E rows tj fr).c):=aTI b tj fr hTb 0
 have z4O:frz b 4 (.lsl gO 1 0 N)=some (.sl (iv (lz N O))):=aH3 3
 have z1B:frz b 1 (.lsl g.B 1 0 rows.length)=some (.sl (iv (lb rows.length fun p=>tj.bs (atR rows p)))):=hTb.aJ1 0
 simp only[bV,hN] at bT bF
 cases a with
 | true =>
   refine aE ?_
   simp
   refine aX ?_
   refine aB ?_
   simp[bT]
   refine aG (fun k:Nat=> [(0,.loc g.T 6 0 0),(1,.lsl gO 1 0 N),(4,.bool false),(5,.bool false),(13,.int .i64 N),(14,.int .i64 k)]) (fun _=>b) (fun k=>k≤N∧ ∀c,c<k→ ¬ Lp.okW m (wO O) (fO N fr) tj c) (fun k=>N - k) _ 0 ⟨Nat.zero_le _,fun c hc=>absurd hc (Nat.not_lt_zero _)⟩ ⟨rfl,by simp,Sub.refl _⟩ ?_
   rintro k ⟨hk,M7⟩
   have wk:IntKind.i64.wrap ((k:Int)+1)=(k:Int)+1:=i64_in (by omega) (by omega)
   refine aE ?_
   simp
   refine aE ?_
   simp
   refine⟨fun hkN=> ?_,fun hkN=> ?_⟩
   ·refine aO (aX ?_)
    refine aE ?_
    simp
    refine aE ?_
    simp
    have hs:=hsg tj k hIj hkN
    have hG:=Wy tj fr k hIj hkN
    have hC:=aI2 tj k
    have hcb:=aL1 tj k hIj
    generalize gTo (fun p c=>Lp.zt m E tj (atR rows p) c) (Lp.dz m E tj) (fun p=>tj.bs (atR rows p)) O k rows.length=G at hs hG
    refine bD [(0,.loc g.T 6 0 0),(1,.lsl gO 1 0 N),(4,.bool false),(5,.bool false),(6,.int .i64 k),(13,.int .i64 N),(14,.int .i64 k)] _ b 39 (.bool (open Classical in decide (¬ Lp.okW m (wO O) (fO N fr) tj k))) ⟨rfl,by simp,Sub.refl _⟩ rfl ?_ ?_
    ·cases hfk:fr k with
     | false =>
       have hno: ¬ Lp.okW m (wO O) (fO N fr) tj k:=fun h=>by have:=h.1.2;rw[hfk] at this;cases this
       simp[bT,bF,hkN,hfk,hno]
     | true =>
       simp[bT,bF,hkN,hfk]
       refine aT 1 (ys:= [.sl (iv (lb rows.length fun p=>tj.bs (atR rows p))),.int .i64 k]) (by simp[z1B];simp[frz]) hC rfl ?_
       simp
       refine⟨fun hin hok=> ?_,fun hnin=> ?_⟩
       ·have:=hok.2
        rw[hcb hin] at this;exact absurd this (by decide)
       ·refine aT 4 (ys:= [.ptr (bV n m E rows tj fr).c,.sl (iv (lz N O)),.int .i64 k]) (by simp[z4T,z4O];simp[frz]) hG rfl ?_
        simp
        have:Lp.okW m (wO O) (fO N fr) tj k ↔ 0<G:=by
         unfold Lp.okW fO
         rw[hs.1]
         exact⟨fun h=>h.2,fun h=>⟨⟨hkN,hfk⟩,h⟩⟩
        rw[this]
        by_cases hg:0<G
        ·simp[hg]
        ·simp[hg];omega
    simp
    refine⟨fun hno=> ?_,fun hok=> ?_⟩
    ·refine aB ?_
     simp[wk,aA]
     refine⟨k+1,⟨by omega,fun c hc=> ?_⟩,by omega,rfl,by simp,Sub.refl _⟩
     by_cases ec:c=k
     ·rw[ec];exact hno
     ·exact M7 c (by omega)
    have O6:Lp.fstP (Lp.okW m (wO O) (fO N fr) tj) N=some k:=Lp.dD.2 ⟨hkN,hok,M7⟩
    have hLv:=aML tj fr k hIj hkN
    have hll:=V4 hIj hr k (by omega) rows.length (Nat.le_refl _)
    rw[List.take_length,hN] at hll
    refine aE ?_
    simp
    refine aT 4 (ys:= [.ptr (bV n m E rows tj fr).c,.int .i64 k]) (by simp[z4T];simp[frz]) hLv rfl ?_
    simp
    cases hlv:lvZ (fun p c=>Lp.zt m E tj (atR rows p) c) N k (fun p=>tj.bs (atR rows p)) rows.length with
    | none =>
      rw[hlv] at hll
      have hnn:nxf tj=none:=by
       rw[←hnx]
       cases hs2:Lp.nx (n+m) (n+m) rows (Lp.okW m (wO O) (fO (n+m) fr)) tj with
       | none => rfl
       | some q =>
         obtain⟨q1,q2⟩:=Lp.qZ.1 hs2
         rw[hN,O6] at q1
         cases q1
         rw[hN,hll] at q2;cases q2
      have hje:j=e:=by
       by_cases hlt:j<e
       ·have:=h2 j hlt
        rw[htj,hnn] at this;cases this
       ·omega
      subst hje
      rw[htj] at hF
      rw[hN] at hF
      refine aB ?_
      simp[oI]
      rw[bW]
      exact⟨[.bool false],by simp,hF b k O6 hll hTb hfb⟩
    | some p =>
      rw[hlv] at hll
      have hp:=zF hlv
      have bP: ¬ (p:Int)<0:=by omega
      have hnn:nxf tj=some (atR rows p,k):=by
       rw[←hnx]
       exact Lp.qZ.2 ⟨by rw[hN];exact O6,by rw[hN];exact hll⟩
      have hje:j<e:=by
       by_cases hlt:j<e
       ·exact hlt
       ·have:j=e:=by omega
        rw[this] at htj
        rw[htj,hnn] at h1;cases h1
      have aSR:Lp.orb nxf t (j+1)=Lp.piv tj (atR rows p) k:=by
       rw[Lp.orb,htj,hnn]
      have hx:tj.X (atR rows p) k≠0:=by
       have:=((Lp.lU tj N k rows).2 _ hll).2.1
       grind
      obtain⟨Y,hY,hYT⟩:=Mt hIj hr hp (show k<n+m by omega) hx fr
      refine aE ?_
      simp[oI,bP]
      refine aE ?_
      simp
      refine Bv g (bV n m E rows tj fr) p k Y hTb (Hp hIj hm hn hr) hp (show k<n+m by omega) hY fun b' hT' hf'=> ?_
      simp
      refine aB ?_
      simp[aA]
      refine⟨⟨j+1,true,b'⟩,⟨by simp only;omega,?_,fun x y hx hn=>hf' x y (hfb x y hx hn) hn,fun h=>by cases h⟩,by simp only[if_true];omega,rfl,by simp,Sub.refl _⟩
      simp only
      rw[aSR]
      exact hYT b' g hT'
   ·have aCZ:k=N:=by omega
    subst aCZ
    have O6:Lp.fstP (Lp.okW m (wO O) (fO k fr) tj) k=none:=Lp.eP.2 M7
    have hnn:nxf tj=none:=by
     rw[←hnx,hN]
     unfold Lp.nx
     rw[O6]
    have hje:j=e:=by
     by_cases hlt:j<e
     ·have:=h2 j hlt
      rw[htj,hnn] at this;cases this
     ·omega
    subst hje
    simp[aA]
    exact⟨⟨j,false,b⟩,⟨Nat.le_refl _,by simp only;rw[htj];exact hTb,hfb,fun _=>⟨rfl,by rw[htj];exact O6⟩⟩,by simp,rfl,by simp,Sub.refl _⟩
 | false =>
   obtain⟨hje,O6⟩:=hab rfl
   subst hje
   rw[htj] at hT O6
   rw[hN] at hT
   clear hF h1 h2
   have aUH:=hgO
   refine aE ?_
   simp
   refine aE ?_
   simp[bT]
   refine aG (fun q:Cd=> [(0,.loc g.T 6 0 0),(1,.lsl gO 1 0 N),(53,.int .i64 N),(54,.int .i64 q.j)]) (fun q=>q.b) (fun q=>q.j≤N∧TT q.b g (bV n m E rows tj (frK m O tj fr q.j))∧(∀x y,bl x=some y→x∉g.all→q.b x=some y)) (fun q=>N - q.j) _ ⟨0,b⟩ ⟨Nat.zero_le _,by simp only;rw[Ms];exact hTb,hfb⟩ ⟨rfl,by simp,Sub.refl _⟩ ?_
   clear hbO aH3 bT bF z4T z4O z1B hTb hfb hgO
   rintro⟨k,b⟩ ⟨hk,hTb,hfb⟩
   simp only at hk hTb hfb
   have wk:IntKind.i64.wrap ((k:Int)+1)=(k:Int)+1:=i64_in (by omega) (by omega)
   have hbO:=hfb _ _ aUH hgn
   have z4O:frz b 4 (.lsl gO 1 0 N)=some (.sl (iv (lz N O))):=by have:=Qa hg0 hbO 3;rwa [hlz] at this
   have z4T:frz b 4 (.loc g.T 6 0 0)=some (.ptr (bV n m E rows tj (frK m O tj fr k)).c):=hTb.frz 0
   have z1B:frz b 1 (.lsl g.B 1 0 rows.length)=some (.sl (iv (lb rows.length fun p=>tj.bs (atR rows p)))):=hTb.aJ1 0
   have bT:b g.T=_:=hTb.hd
   have bF:b g.F=_:=hTb.fre
   simp only[bV,hN] at bT bF
   refine aE ?_
   simp
   refine aE ?_
   simp
   refine⟨fun hkN=> ?_,fun hkN=> ?_⟩
   ·refine aO (aX ?_)
    refine aE ?_
    simp
    refine aE ?_
    simp
    have hs:=hsg tj k hIj hkN
    have hG:=Wy tj (frK m O tj fr k) k hIj hkN
    have hC:=aI2 tj k
    have hcb:=aL1 tj k hIj
    have hfk:frK m O tj fr k k=fr k:=by unfold frK;rw[if_neg (by omega)]
    generalize gTo (fun p c=>Lp.zt m E tj (atR rows p) c) (Lp.dz m E tj) (fun p=>tj.bs (atR rows p)) O k rows.length=G at hs hG
    refine bD [(0,.loc g.T 6 0 0),(1,.lsl gO 1 0 N),(8,.int .i64 k),(53,.int .i64 N),(54,.int .i64 k)] _ b 79 (.bool (open Classical in fr k && decide (Lp.rc m (wO O) tj k<0))) ⟨rfl,by simp,Sub.refl _⟩ rfl ?_ ?_
    ·cases hfk2:fr k with
     | false =>
       rw[hfk2] at hfk
       simp[bT,bF,hkN,hfk]
     | true =>
       rw[hfk2] at hfk
       simp[bT,bF,hkN,hfk]
       refine aT 1 (ys:= [.sl (iv (lb rows.length fun p=>tj.bs (atR rows p))),.int .i64 k]) (by simp[z1B];simp[frz]) hC rfl ?_
       simp
       have e2:Lp.rc m (wO O) tj k<0 ↔ G<0:=hs.2.symm
       by_cases hin:(k:Int)∈lb rows.length fun p=>tj.bs (atR rows p)
       ·have: ¬ Lp.rc m (wO O) tj k<0:=by rw[hcb hin];decide
        simp[hin,this]
       ·simp[hin]
        refine aT 4 (ys:= [.ptr (bV n m E rows tj (frK m O tj fr k)).c,.sl (iv (lz N O)),.int .i64 k]) (by simp[z4T,z4O];simp[frz]) hG rfl ?_
        simp
        rw[e2]
    have Z3: ∀c,frK m O tj fr (k+1) c=if c=k then(open Classical in fr k && !decide (Lp.rc m (wO O) tj k<0)) else frK m O tj fr k c:=fun c=>by
     unfold frK
     by_cases e1:c=k
     ·subst e1;rw[if_pos (by omega),if_pos rfl]
     ·rw[if_neg e1]
      by_cases e2:c<k
      ·rw[if_pos (by omega),if_pos e2]
      ·rw[if_neg (by omega),if_neg e2]
    have nds:=hTb.nd
    simp
    refine aB ?_
    simp
    refine⟨fun h1 h2=> ?_,fun hno=> ?_⟩
    ·simp[bT,bF,hkN]
     refine aB ?_
     simp[wk,aA]
     have e1:(lv N (frK m O tj fr k)).set k [.bool false]=lv N (frK m O tj fr (k+1)):=by
      rw[Fl _ _ hkN]
      unfold lv
      refine List.map_congr_left fun c _=> ?_
      rw[Z3 c]
      show [V.bool (if c=k then false else frK m O tj fr k c)]=_
      by_cases e:c=k
      ·rw[if_pos e,if_pos e];simp[h1,h2]
      ·rw[if_neg e,if_neg e]
     rw[e1]
     refine⟨⟨k+1,upd b g.F (some ⟨1,lv N (frK m O tj fr (k+1))⟩)⟩,⟨by simp only;omega,?_,fun x y hx hn=> ?_⟩,by simp only;omega,rfl,by simp,Sub.refl _⟩
     ·simp only[List.nodup_cons,List.mem_cons,not_or] at nds
      obtain⟨⟨nTR,nTB,nTF,nTi⟩,⟨nRB,nRF,nRi⟩,⟨nBF,nBi⟩,nFi,_⟩:=nds
      show TT (upd b g.F (some ⟨1,lv N (frK m O tj fr (k+1))⟩)) g (bV n m E rows tj (frK m O tj fr (k+1)))
      refine⟨hTb.fE.eG fun x y hx hy=> ?_,?_,?_,?_,hTb.pT,hTb.pR,hTb.pB,hTb.pF,hTb.nd⟩
      ·rw[aK _ _ _ _ (by rintro rfl;rcases hx with hx | hx;exact nRF hx.symm;exact nFi hx)];exact hy
      ·rw[aK _ _ _ _ nTF];exact hTb.hd
      ·rw[aK _ _ _ _ nBF];exact hTb.ba
      ·simp[bV,hN]
     ·simp only
      rw[aK _ _ _ _ (by rintro rfl;exact hn (by simp[TG.all]))];exact hfb x y hx hn
    ·refine aB ?_
     simp[wk,aA]
     refine⟨⟨k+1,b⟩,⟨by simp only;omega,?_,hfb⟩,by simp only;omega,rfl,by simp,Sub.refl _⟩
     have e1:frK m O tj fr (k+1)=frK m O tj fr k:=by
      funext c
      rw[Z3 c]
      by_cases e:c=k
      ·subst e
       rw[if_pos rfl,hfk]
       cases hfc:fr c with
       | false => rfl
       | true => have := hno hfc; simp; grind
      ·rw[if_neg e]
     simp only
     rw[e1];exact hTb
   ·have aCZ:k=N:=by omega
    subst aCZ
    refine aB ?_
    simp
    rw[bW]
    exact⟨[.bool true],by simp,hT b O6 hTb hfb⟩

def fT (n m:Nat) (t:Lp.Tab) (j:Nat):List Nat:=Lp.bE n t j++(List.range (m - j)).map (j+ ·)
theorem uG {n m j:Nat} (t:Lp.Tab) (hj:j≤m):fT n m t j=(List.range m).filter fun x=>decide (j≤x)|| decide (t.bs x<n):=by
 obtain⟨d,rfl⟩: ∃d,m=j+d:=⟨m - j,by omega⟩
 rw[List.range_add,List.filter_append]
 unfold fT Lp.bE
 rw[show j+d - j=d by omega]
 congr 1
 ·refine List.filter_congr fun x hx=> ?_
  have:x<j:=by simpa using hx
  rw[decide_eq_false (show ¬ j≤x by omega),Bool.false_or]
 ·symm
  rw[List.filter_eq_self]
  intro x hx
  obtain⟨y,_,rfl⟩:=List.mem_map.1 hx
  simp
theorem Ft {n m j:Nat} (t:Lp.Tab) (hj:j≤m):Rows m (fT n m t j):=⟨_,uG t hj⟩
theorem J4 {n m j x:Nat} {t:Lp.Tab} (hj:j≤m):x∈fT n m t j ↔ x<m∧(j≤x∨t.bs x<n):=by
 rw[uG t hj,List.mem_filter]
 simp
theorem Ja (n m j:Nat) (t:Lp.Tab):(fT n m t j).length=(Lp.bE n t j).length+(m - j):=by simp[fT]
theorem Sc {n m j:Nat} {t:Lp.Tab} (hj:j<m):atR (fT n m t j) (Lp.bE n t j).length=j:=by
 unfold atR fT
 rw[List.getD_eq_getElem?_getD,List.getElem?_append_right (Nat.le_refl _),Nat.sub_self,List.getElem?_eq_getElem (by simp;omega)]
 simp
theorem Fz (n m:Nat) (t:Lp.Tab):fT n m t 0=List.range m:=by
 have e:(fun x=>0+x)=(id:Nat→Nat):=by funext x;simp
 unfold fT Lp.bE
 simp only[Nat.sub_zero,List.range_zero,List.filter_nil,List.nil_append]
 rw[show(List.range m).map (0+ ·)=(List.range m).map id from congrArg (fun f=>(List.range m).map f) e,List.map_id]
theorem Lb (n m:Nat) (t:Lp.Tab):fT n m t m=Lp.bE n t m:=by simp[fT]
theorem vP (n j:Nat) (t:Lp.Tab):Lp.bE n t (j+1)=if t.bs j<n then Lp.bE n t j++ [j] else Lp.bE n t j:=by
 unfold Lp.bE
 rw[List.range_succ,List.filter_append]
 by_cases h:t.bs j<n<;>simp[h]
theorem Ct {n j:Nat} {t t':Lp.Tab} (h: ∀x,x<j→t.bs x=t'.bs x):Lp.bE n t j=Lp.bE n t' j:=by
 unfold Lp.bE
 exact List.filter_congr fun x hx=>by rw[h x (by simpa using hx)]
theorem F9 {n m j:Nat} {t t':Lp.Tab} (hj:j<m) (h: ∀x,x<j→t.bs x=t'.bs x) (hb:t'.bs j<n):fT n m t' (j+1)=fT n m t j∧(Lp.bE n t' (j+1)).length=(Lp.bE n t j).length+1:=by
 have e:(List.range (m - j)).map (j+ ·)=j::(List.range (m - (j+1))).map (j+1+ ·):=by
  rw[show m - j=(m - (j+1))+1 by omega,List.range_succ_eq_map,List.map_cons,List.map_map]
  congr 1
  exact List.map_congr_left fun x _=>by simp;omega
 have e2:Lp.bE n t' (j+1)=Lp.bE n t j++ [j]:=by rw[vP,if_pos hb,Ct h]
 unfold fT
 rw[e2,e]
 simp
theorem Eo {n m j:Nat} {t:Lp.Tab} (hj:j<m) (hb: ¬ t.bs j<n):fT n m t (j+1)=(fT n m t j).take (Lp.bE n t j).length++(fT n m t j).drop ((Lp.bE n t j).length+1)∧Lp.bE n t (j+1)=Lp.bE n t j:=by
 have e:(List.range (m - j)).map (j+ ·)=j::(List.range (m - (j+1))).map (j+1+ ·):=by
  rw[show m - j=(m - (j+1))+1 by omega,List.range_succ_eq_map,List.map_cons,List.map_map]
  congr 1
  exact List.map_congr_left fun x _=>by simp;omega
 have e2:Lp.bE n t (j+1)=Lp.bE n t j:=by rw[vP,if_neg hb]
 refine⟨?_,e2⟩
 unfold fT
 rw[e2,e,List.take_append_of_le_length (Nat.le_refl _),List.take_length,List.drop_append,List.drop_eq_nil_of_le (by omega),Nat.add_sub_cancel_left]
 rfl
theorem Jl {n m j:Nat} {E:Nat→Nat→Rat} {t:Lp.Tab} (h:Lp.H9 n m (n+m+1) 1000 E j t) (hj:j≤m):oY n m E (fT n m t j) t:=
 ⟨h.z,h.nn,fun i hi=>((J4 hj).1 hi).1,fun i hi hn=>by
   have: ¬ (j≤i∨t.bs i<n):=fun h=>hn ((J4 hj).2 ⟨hi,h⟩)
   have hb: ¬ t.bs i<n:=fun h=>this (.inr h)
   exact⟨by omega,h.zero i hi hb,h.done i (by omega) hb⟩,h.lt⟩
theorem Hq (rows:List Nat) (i p:Nat) (hi:i<rows.length) (hp:p<rows.length - 1):atR (rows.take i++rows.drop (i+1)) p=atR rows (if p<i then p else p+1):=by
 unfold atR
 rw[List.getD_eq_getElem?_getD,List.getD_eq_getElem?_getD]
 congr 1
 by_cases h:p<i
 ·rw[if_pos h,List.getElem?_append_left (by simp;omega),List.getElem?_take,if_pos h]
 ·rw[if_neg h,List.getElem?_append_right (by simp;omega),List.length_take,Nat.min_eq_left (by omega),List.getElem?_drop,show i+1+(p - i)=p+1 by omega]
theorem R6 {α:Type} (l:List α) (i p:Nat) (hi:i<l.length):(l.take i++l.drop (i+1))[p]? =if p<i then l[p]? else l[p+1]? :=by
 by_cases h:p<i
 ·rw[if_pos h,List.getElem?_append_left (by simp;omega),List.getElem?_take,if_pos h]
 ·rw[if_neg h,List.getElem?_append_right (by simp;omega),List.length_take,Nat.min_eq_left (by omega),List.getElem?_drop,show i+1+(p - i)=p+1 by omega]
theorem TT.cut {b b':Int→Option Blk} {g:TG} {n m:Nat} {E:Nat→Nat→Rat} {rows:List Nat} {t:Lp.Tab} {fr:Nat→Bool} (h:TT b g (bV n m E rows t fr)) {i:Nat} (hi:i<rows.length) (gR gB:Int)
  (hR:b' gR=some ⟨1,(g.ids.take i++g.ids.drop (i+1)).map fun g=> [.lsl g 2 0 (n+m+1)]⟩) (hB:b' gB=some ⟨1,(iv (lb rows.length fun p=>t.bs (atR rows p))).take i++(iv (lb rows.length fun p=>t.bs (atR rows p))).drop (i+1)⟩)
  (hT:b' g.T=some ⟨6,[[.lsl gR 1 0 (rows.length - 1),.bool (decide (Lp.dz m E t<0)),.sl (iv (lim (Lp.dz m E t).natAbs)),.lsl gB 1 0 (rows.length - 1),.int .i64 (n+m:Nat),.lsl g.F 1 0 (n+m)]]⟩)
  (hF:b' g.F=b g.F) (hid: ∀x,x∈g.ids→b' x=b x) (nR:gR<0→rows.length - 1=0) (nB:gB<0→rows.length - 1=0) (hd:(g.T::gR::gB::g.F::g.ids).Nodup):
  TT b' ⟨g.T,gR,gB,g.F,g.ids.take i++g.ids.drop (i+1)⟩ (bV n m E (rows.take i++rows.drop (i+1)) t fr):=by
 have hl:=h.fE.len
 simp only[bV] at hl
 have dM: ∀x,x∈g.ids.take i++g.ids.drop (i+1)→x∈g.ids:=fun x hx=>by
  rcases List.mem_append.1 hx with hx | hx
  ·exact List.mem_of_mem_take hx
  ·exact List.mem_of_mem_drop hx
 have hrl:(rows.take i++rows.drop (i+1)).length=rows.length - 1:=by simp;omega
 have hil:(g.ids.take i++g.ids.drop (i+1)).length=rows.length - 1:=by simp;omega
 have hsl:(g.ids.take i++g.ids.drop (i+1)).Sublist g.ids:=by
  conv=>rhs;rw[←List.take_append_drop i g.ids]
  refine List.Sublist.append (List.Sublist.refl _) ?_
  rw[←List.drop_drop]
  exact List.drop_sublist _ _
 refine⟨⟨by simp only[bV];rw[hil,hrl],hR,fun p x hp=> ?_,fun x hx=>h.fE.pos x (dM x hx),fun p q x hp hq=> ?_,fun hm=> ?_⟩,?_,?_,?_,h.pT,?_,?_,h.pF,?_⟩
 ·have hlt:p<rows.length - 1:=by rw[←hil];exact(List.getElem?_eq_some_iff.1 hp).1
  rw[hid x (dM x (List.mem_of_getElem? hp))]
  rw[R6 _ _ _ (by omega)] at hp
  simp only[bV]
  rw[Hq _ _ _ hi hlt]
  split at hp
  ·rename_i h1;rw[if_pos h1];exact h.fE.row p x hp
  ·rename_i h1;rw[if_neg h1];exact h.fE.row (p+1) x hp
 ·rw[R6 _ _ _ (by omega)] at hp hq
  split at hp<;>split at hq
  ·exact h.fE.inj p q x hp hq
  ·have:=h.fE.inj p (q+1) x hp hq;omega
  ·have:=h.fE.inj (p+1) q x hp hq;omega
  ·have:=h.fE.inj (p+1) (q+1) x hp hq;omega
 ·simp only[List.nodup_cons,List.mem_cons,not_or] at hd
  exact hd.2.1.2.2 (dM _ hm)
 ·simp only[bV];rw[hrl];exact hT
 ·simp only[bV];rw[hB]
  congr 2
  apply List.ext_getElem?
  intro p
  rw[R6 _ _ _ (by simpa using hi),hrl]
  by_cases hp:p<rows.length - 1
  ·have e1:=Hq rows i p hi hp
   rw[List.getElem?_eq_getElem (show p<(iv (lb (rows.length - 1) fun p=>t.bs (atR (rows.take i++rows.drop (i+1)) p))).length by simpa using hp),nU,yM,e1]
   split
   ·rename_i h1
    rw[List.getElem?_eq_getElem (by simp;omega),nU,yM]
   ·rename_i h1
    rw[List.getElem?_eq_getElem (by simp;omega),nU,yM]
  ·rw[if_neg (by omega),List.getElem?_eq_none (by simp;omega),List.getElem?_eq_none (by simp;omega)]
 ·simp only[bV];rw[hF];exact h.fre
 ·simp only[bV];rw[hrl];exact nR
 ·simp only[bV];rw[hrl];exact nB
 ·simp only[List.nodup_cons,List.mem_cons,not_or] at hd ⊢
  obtain⟨⟨a1,a2,a3,a4⟩,⟨b1,b2,b3⟩,⟨c1,c2⟩,d1,d2⟩:=hd
  exact⟨⟨a1,a2,a3,fun h=>a4 (dM _ h)⟩,⟨b1,b2,fun h=>b3 (dM _ h)⟩,⟨c1,fun h=>c2 (dM _ h)⟩,fun h=>d1 (dM _ h),List.Pairwise.sublist hsl d2⟩

theorem Ib {b:Int→Option Blk} {g:Int} {els:List (List V)} {L i:Nat} (h0:0≤g) (hb:b g=some ⟨1,els⟩) (hl:els.length=L) (hi:i+1≤L):
  ∃x,(if(i:Int)+1=0 then some (V.lsl g 1 0 L) else if(i:Int)+1=(L:Int) then some (V.sl []) else some (V.lsl g 1 (i+1) (L - (i+1))))=some x∧elsV b 1 x=some (els.drop (i+1)):=by
 rw[if_neg (by omega)]
 by_cases h:i+1=L
 ·rw[if_pos (by omega)]
  refine⟨_,rfl,?_⟩
  rw[List.drop_eq_nil_of_le (by omega)]
  simp[elsV]
 ·rw[if_neg (by omega)]
  refine⟨_,rfl,?_⟩
  simp only[elsV]
  rw[if_neg (by omega),hb]
  simp only
  rw[if_pos (by simp;omega),List.take_of_length_le (by simp;omega)]
structure aIM where
 j:Nat
 g:TG
 b:Int→Option Blk
set_option maxHeartbeats 1000000 in
theorem Oe {bl:Int→Option Blk} {K:V→(Int→Option Blk)→Prop} (n m:Nat) (E:Nat→Nat→Rat) (g:TG) (t:Lp.Tab) (fr:Nat→Bool) (hm:m≤17) (hn:n+m≤100) (hk0:Lp.H9 n m (n+m+1) 1000 E 0 t) (hTT:TT bl g (bV n m E (List.range m) t fr))
  (hK: ∀b' g',g'.T=g.T→g'.F=g.F→TT b' g' (bV n m E (Lp.bE n (Lp.kicks n t m) m) (Lp.kicks n t m) fr)→(∀x,x∈g'.all→x∈g.all∨bl x=none)→(∀x y,bl x=some y→x∉g.all→b' x=some y)→K (.tup []) b'):
  bY Tryz.prog 206 [.loc g.T 6 0 0,.int .i64 n] bl K:=by
 have hkk:=Lp.kC hk0 (show n≤n+m+1 by omega)
 refine cJ Tryz.func206 rfl rfl (by rw[Tryz.ntmps206];simp) ?_
 rw[Tryz.ntmps206,Tryz.results206]
 refine aB ?_
 simp
 refine aG (fun q:aIM=> [(0,.loc g.T 6 0 0),(1,.int .i64 n),(4,.int .i64 (Lp.bE n (Lp.kicks n t q.j) q.j).length)]) (fun q=>q.b) (fun q=>q.j≤m∧TT q.b q.g (bV n m E (fT n m (Lp.kicks n t q.j) q.j) (Lp.kicks n t q.j) fr)∧q.g.T=g.T∧q.g.F=g.F∧(∀x,x∈q.g.all→x∈g.all∨bl x=none)∧(∀x y,bl x=some y→x∉g.all→q.b x=some y)) (fun q=>m - q.j) _ ⟨0,g,bl⟩ ⟨Nat.zero_le _,by simp only[Lp.kicks];rw[Fz];exact hTT,rfl,rfl,fun x hx=> .inl hx,fun _ _ h _=>h⟩ ⟨rfl,by simp[Lp.bE],Sub.refl _⟩ ?_
 rintro⟨j,⟨gT,gR,gB,gF,ids⟩,b⟩ ⟨hj,hTb,rfl,rfl,hal,hfb⟩
 simp only at hj hTb hal hfb
 obtain⟨tj,htj⟩: ∃tj,Lp.kicks n t j=tj:=⟨_,rfl⟩
 have hkj:=hkk j hj
 rw[htj] at hTb hkj
 have hI:=Jl hkj hj
 have hR:=Ft (n:=n) tj hj
 have hlen:=Ja n m j tj
 have hrl:=hR.len
 have bT:b g.T=_:=hTb.hd
 have bB:b gB=_:=hTb.ba
 have bG:b gR=_:=hTb.fE.top
 simp only[bV] at bT bB bG
 have pJ: ∀(q:Nat),Lp.kicks n t (j+1)=Lp.kY n tj j:=fun _=>by rw[Lp.kicks,htj]
 obtain⟨i,hi⟩: ∃i,(Lp.bE n tj j).length=i:=⟨_,rfl⟩
 rw[hi] at hlen
 have wi:IntKind.i64.wrap ((i:Int)+1)=(i:Int)+1:=i64_in (by omega) (by omega)
 refine aE ?_
 simp[bT,htj,hi]
 refine⟨fun hlt=> ?_,fun hlt=> ?_⟩
 ·have hjm:j<m:=by omega
  have hat:=Sc (n:=n) (t:=tj) hjm
  rw[hi] at hat
  have hiR:i<(fT n m tj j).length:=by omega
  obtain⟨gi,hgi,yD,yH,mU⟩:=hTb.fE.at i (by simp only[bV];exact hiR)
  simp only[bV] at mU
  refine aX ?_
  refine aE ?_
  simp[bT,bB,hiR,hat]
  refine⟨fun hbj=> ?_,fun hbj=> ?_⟩
  ·have ek:Lp.kicks n t (j+1)=tj:=by
    rw[pJ 0];unfold Lp.kY;rw[if_pos hbj]
   obtain⟨e1,e2⟩:=F9 (n:=n) (t:=tj) (t':=tj) hjm (fun _ _=>rfl) hbj
   simp[wi,aA]
   refine⟨⟨j+1,⟨g.T,gR,gB,g.F,ids⟩,b⟩,⟨by simp only;omega,by simp only;rw[ek,e1];exact hTb,rfl,rfl,hal,hfb⟩,by simp only;omega,rfl,?_,Sub.refl _⟩
   simp[ek,e2,hi]
  have hnb: ¬ tj.bs j<n:=by omega
  have hzs: ∀c,c<n+m+1→_:=fun c hc=>Lp.qW hkj.z hjm hc
  refine aE ?_
  simp
  refine aB ?_
  simp
  refine aG (fun k:Nat=> [(0,.loc g.T 6 0 0),(1,.int .i64 n),(4,.int .i64 i),(5,.int .i64 k)]) (fun _=>b) (fun k=>k≤n∧ ∀c,c<k→ ¬ tj.X j c≠0) (fun k=>n - k) _ 0 ⟨Nat.zero_le _,fun c hc=>absurd hc (Nat.not_lt_zero _)⟩ ⟨rfl,by simp,Sub.refl _⟩ ?_
  rintro k ⟨hk,bH⟩
  have wk:IntKind.i64.wrap ((k:Int)+1)=(k:Int)+1:=i64_in (by omega) (by omega)
  refine aB ?_
  simp
  refine bD [(0,.loc g.T 6 0 0),(1,.int .i64 n),(4,.int .i64 i),(5,.int .i64 k)] _ b 40 (.bool (decide (k<n∧Lp.zt m E tj j k=0))) ⟨rfl,by simp,Sub.refl _⟩ rfl ?_ ?_
  ·by_cases hkn:k<n
   ·have e3:(k:Int)<(n:Int)+m+1:=by omega
    simp[hkn,bT,bG,hiR,hgi,mU,hat,show k<n+m+1 by omega,e3]
    refine aD (mJ _) ?_
    simp[Int.sign_eq_zero_iff_zero]
    by_cases h0:Lp.zt m E tj j k=0<;>simp[h0]
   ·simp[hkn]
  simp
  refine⟨fun hkn h0=> ?_,fun hno=> ?_⟩
  ·simp[wk,aA]
   refine⟨k+1,⟨by omega,fun c hc=> ?_⟩,by omega,rfl,by simp,Sub.refl _⟩
   by_cases ec:c=k
   ·rw[ec];exact(hzs k (by omega)).2.1 h0
   ·have:=bH c (by omega);grind
  ·refine⟨fun hkn=> ?_,fun hkn=> ?_⟩
   ·have hx:tj.X j k≠0:=fun h0=>hno hkn ((hzs k (by omega)).2.2 h0)
    have ek:Lp.kicks n t (j+1)=Lp.piv tj j k:=by
     rw[pJ 0];unfold Lp.kY;rw[if_neg hnb,Lp.dD.2 ⟨hkn,hx,bH⟩]
    obtain⟨Y,hY,hYT⟩:=Mt hI hR hiR (show k<n+m by omega) (by rw[hat];exact hx) fr
    rw[hat] at hYT
    obtain⟨e1,e2⟩:=F9 (n:=n) (t:=tj) (t':=Lp.piv tj j k) hjm (fun x hx=>(Lp.cW tj k (show x≠j by omega)).symm) (by rw[Lp.dK];exact hkn)
    refine Bv ⟨g.T,gR,gB,g.F,ids⟩ (bV n m E (fT n m tj j) tj fr) i k Y hTb (Hp hI hm hn hR) hiR (show k<n+m by omega) hY fun b' hT' hf'=> ?_
    simp[wi,aA]
    refine⟨⟨j+1,⟨g.T,gR,gB,g.F,ids⟩,b'⟩,⟨by simp only;omega,by simp only;rw[ek,e1];exact hYT b' _ hT',rfl,rfl,hal,fun x y hx hn=> ?_⟩,by simp only;omega,rfl,?_,Sub.refl _⟩
    ·have h1:=hfb x y hx hn
     refine hf' x y h1 fun hm2=> ?_
     rcases hal x hm2 with h2 | h2
     ·exact hn h2
     ·rw[h2] at hx;cases hx
    ·simp[ek,e2,hi]
   ·have ek:Lp.kicks n t (j+1)=tj:=by
     rw[pJ 0];unfold Lp.kY;rw[if_neg hnb,Lp.eP.2 fun c hc=>bH c (by omega)]
    obtain⟨e1,e2⟩:=Eo (n:=n) (t:=tj) hjm hnb
    rw[hi] at e1
    have nds:=hTb.nd
    simp only[List.nodup_cons,List.mem_cons,not_or] at nds
    obtain⟨⟨nTR,nTB,nTF,nTi⟩,⟨nRB,nRF,nRi⟩,⟨nBF,nBi⟩,nFi,Vn⟩:=nds
    have hil:=hTb.fE.len
    simp only[bV] at hil
    generalize hL:(fT n m tj j).length=L at *
    refine eR aM (rem b gR) (eH b gR) [0,1,2,3,4,5,6,7,8,9,10,11,12,13] 4 17 (by kernel_rfl) ?_
    have q1:i≤L:=by omega
    have q2:i+1≤L:=by omega
    have q3:(i:Int)≤L:=by omega
    have q4:(i:Int)+1≤L:=by omega
    have q5:0≤(i:Int)+1:=by omega
    have q6:((i:Int)+1).toNat=i+1:=by omega
    have aN0:0≤gR:=by
     rcases Int.lt_or_le gR 0 with h9 | h9
     ·have:=hTb.pR h9;simp only[bV] at this;omega
     ·exact h9
    obtain⟨x1,hx1,hx2⟩:=Ib (b:=b) (g:=gR) (els:=ids.map fun g=> [V.lsl g 2 0 (n+m+1)]) (L:=L) (i:=i) aN0 bG (by simp[hil]) q2
    simp[nTR,bT,wi,sliV,q1,q2,q3,q4,q5,q6,aN0,hx1]
    refine Dq 14 false ?_
    simp[appV,hx2,bG,hil]
    rw[if_pos q1,←List.map_take,←List.map_drop,←List.map_append]
    have hcl:(ids.take i++ids.drop (i+1)).length=L - 1:=by simp;omega
    generalize F3:ids.take i++ids.drop (i+1)=nids at hcl
    simp[hcl]
    refine⟨by omega,fun gN hgN hbN=> ?_⟩
    have jG: ∀X,Sub (rem b gR) (upd (rem b gR) gN X):=fun X z y hz=>by
     rw[aF] at hz
     rw[aC,aF]
     grind
    have nNT: ¬ gN=g.T:=fun e=>by have:=hbN (by rw[e];exact nTR);rw[e,bT] at this;cases this
    have nNB: ¬ gN=gB:=fun e=>by have:=hbN (by rw[e];exact Ne.symm nRB);rw[e,bB] at this;cases this
    have bF:b g.F=_:=hTb.fre
    have nNF: ¬ gN=g.F:=fun e=>by have:=hbN (by rw[e];exact Ne.symm nRF);rw[e,bF] at this;cases this
    have nNi:gN∉ids:=fun hm2=>by
     obtain⟨q,hq⟩:=List.mem_iff_getElem?.1 hm2
     have:=hbN fun e=>nRi (e▸hm2)
     rw[hTb.fE.row q gN hq] at this;cases this
    refine⟨jG _,Dq 15 false ?_⟩
    simp
    refine⟨jG _,Dq 16 false ?_⟩
    simp
    refine⟨jG _,Dq 17 true ?_⟩
    simp[Ne.symm nNT,nTR,bT]
    refine Dd ?_
    obtain⟨b1,hb1⟩: ∃b1,b1=upd (upd (rem b gR) gN (some ⟨1,nids.map fun g=> [.lsl g 2 0 (n+m+1)]⟩)) g.T (some ⟨6,[[.lsl gN 1 0 (L - 1),.bool (decide (Lp.dz m E tj<0)),.sl (iv (lim (Lp.dz m E tj).natAbs)),.lsl gB 1 0 L,.int .i64 (n+m:Nat),.lsl g.F 1 0 (n+m)]]⟩):=⟨_,rfl⟩
    have c1T:b1 g.T=some ⟨6,[[.lsl gN 1 0 (L - 1),.bool (decide (Lp.dz m E tj<0)),.sl (iv (lim (Lp.dz m E tj).natAbs)),.lsl gB 1 0 L,.int .i64 (n+m:Nat),.lsl g.F 1 0 (n+m)]]⟩:=by rw[hb1];simp
    have c1N:b1 gN=some ⟨1,nids.map fun g=> [.lsl g 2 0 (n+m+1)]⟩:=by rw[hb1];simp[nNT]
    have c1: ∀x,x≠g.T→x≠gN→x≠gR→b1 x=b x:=fun x x1 x2 x3=>by rw[hb1,aK _ _ _ _ x1,aK _ _ _ _ x2,aF,if_neg x3]
    have c1B:b1 gB=b gB:=c1 gB (Ne.symm nTB) (Ne.symm nNB) (Ne.symm nRB)
    rw[bB] at c1B
    refine fG [(0,.loc g.T 6 0 0),(1,.int .i64 n),(4,.int .i64 i),(5,.int .i64 k)] 86 b1 ⟨rfl,by simp,by rw[hb1];exact sub_eq rfl⟩ ?_
    clear hb1
    have aJ6:0≤gB:=by
     rcases Int.lt_or_le gB 0 with h9 | h9
     ·have:=hTb.pB h9;simp only[bV] at this;omega
     ·exact h9
    obtain⟨bas,Ss⟩: ∃x,iv (lb L fun p=>tj.bs (atR (fT n m tj j) p))=x:=⟨_,rfl⟩
    have hbl:bas.length=L:=by rw[←Ss];simp
    rw[Ss] at c1B
    refine eR aM (rem b1 gB) (eH b1 gB) [0,1,2,3,4,5,6,7,8,9,10,11,12,13] 4 17 (by kernel_rfl) ?_
    obtain⟨x2,hx3,hx4⟩:=Ib (b:=b1) (g:=gB) (els:=bas) (L:=L) (i:=i) aJ6 c1B hbl q2
    simp[nTB,c1T,wi,sliV,q1,q2,q3,q4,q5,q6,aJ6,hx3]
    refine Dq 14 false ?_
    simp[appV,hx4,c1B,hbl]
    rw[if_pos q1]
    have Mu:(bas.take i++bas.drop (i+1)).length=L - 1:=by simp;omega
    generalize hnb2:bas.take i++bas.drop (i+1)=nbas at Mu
    simp[Mu]
    refine⟨by omega,fun gM hgM hbM=> ?_⟩
    have mA: ∀X,Sub (rem b1 gB) (upd (rem b1 gB) gM X):=fun X z y hz=>by
     rw[aF] at hz
     rw[aC,aF]
     grind
    have mMT: ¬ gM=g.T:=fun e=>by have:=hbM (by rw[e];exact nTB);rw[e,c1T] at this;cases this
    have mMN: ¬ gM=gN:=fun e=>by have:=hbM (by rw[e];exact nNB);rw[e,c1N] at this;cases this
    have c1F:b1 g.F=b g.F:=c1 g.F (Ne.symm nTF) (Ne.symm nNF) (Ne.symm nRF)
    have mMF: ¬ gM=g.F:=fun e=>by have:=hbM (by rw[e];exact Ne.symm nBF);rw[e,c1F,bF] at this;cases this
    have c1i: ∀x,x∈ids→b1 x=b x:=fun x hx=>c1 x (fun e=>nTi (e▸hx)) (fun e=>nNi (e▸hx)) (fun e=>nRi (e▸hx))
    have mMi:gM∉ids:=fun hm2=>by
     obtain⟨q,hq⟩:=List.mem_iff_getElem?.1 hm2
     have:=hbM fun e=>nBi (e▸hm2)
     rw[c1i gM hm2,hTb.fE.row q gM hq] at this;cases this
    refine⟨mA _,Dq 15 false ?_⟩
    simp
    refine⟨mA _,Dq 16 false ?_⟩
    simp
    refine⟨mA _,Dq 17 true ?_⟩
    simp[Ne.symm mMT,nTB,c1T]
    refine Dd ?_
    simp[aA]
    obtain⟨b2,hb2⟩: ∃b2,b2=(upd (upd (rem b1 gB) gM (some ⟨1,nbas⟩)) g.T (some ⟨6,[[.lsl gN 1 0 (L - 1),.bool (decide (Lp.dz m E tj<0)),.sl (iv (lim (Lp.dz m E tj).natAbs)),.lsl gM 1 0 (L - 1),.int .i64 (n+m:Nat),.lsl g.F 1 0 (n+m)]]⟩)):=⟨_,rfl⟩
    have hbF:b2 g.F=b g.F:=by rw[hb2];simp[Ne.symm nTF,Ne.symm mMF,Ne.symm nBF,c1F]
    have aT1:b2 gN=some ⟨1,nids.map fun g=> [.lsl g 2 0 (n+m+1)]⟩:=by rw[hb2];simp[nNT,Ne.symm mMN,nNB,c1N]
    have aR9:b2 gM=some ⟨1,nbas⟩:=by rw[hb2];simp[mMT]
    have aTC:b2 g.T=some ⟨6,[[.lsl gN 1 0 (L - 1),.bool (decide (Lp.dz m E tj<0)),.sl (iv (lim (Lp.dz m E tj).natAbs)),.lsl gM 1 0 (L - 1),.int .i64 (n+m:Nat),.lsl g.F 1 0 (n+m)]]⟩:=by rw[hb2];simp
    have aUP: ∀x,x∈ids→b2 x=b x:=fun x hx=>by
     have x1:x≠g.T:=fun e=>nTi (e▸hx)
     have x2:x≠gM:=fun e=>mMi (e▸hx)
     have x3:x≠gB:=fun e=>nBi (e▸hx)
     rw[hb2,aK _ _ _ _ x1,aK _ _ _ _ x2,aF,if_neg x3];exact c1i x hx
    have aS9: ∀x,x≠g.T→x≠gM→x≠gB→b2 x=b1 x:=fun x x1 x2 x3=>by rw[hb2,aK _ _ _ _ x1,aK _ _ _ _ x2,aF,if_neg x3]
    have aLM:=hTb.cut (b':=b2) (i:=i) (by rw[hL];exact q2) gN gM (by rw[aT1,F3]) (by rw[aR9];simp only[hL,Ss,hnb2]) (by rw[aTC,hL]) hbF aUP
     (fun h9=>by rcases hgN with h8 | h8;omega;rw[hL,←hcl,h8];rfl) (fun h9=>by rcases hgM with h8 | h8;omega;rw[hL,←Mu,h8];rfl)
     (by simp only[List.nodup_cons,List.mem_cons,not_or];exact⟨⟨Ne.symm nNT,Ne.symm mMT,nTF,nTi⟩,⟨Ne.symm mMN,nNF,nNi⟩,⟨mMF,mMi⟩,nFi,Vn⟩)
    rw[←e1] at aLM
    refine⟨⟨j+1,⟨g.T,gN,gM,g.F,ids.take i++ids.drop (i+1)⟩,b2⟩,⟨by simp only;omega,by simp only;rw[ek];exact aLM,rfl,rfl,fun x hx=> ?_,fun x y hx hn=> ?_⟩,by simp only;omega,rfl,by simp[ek,e2,hi],by rw[hb2];exact sub_eq rfl⟩
    ·have hT2:=hal g.T (by simp[TG.all])
     have hF2:=hal g.F (by simp[TG.all])
     have aTW:bl gN=none∨gN∈g.all:=by
      by_cases e:gN=gR
      ·rcases hal gR (by simp[TG.all]) with h9 | h9
       ·exact .inr (e▸h9)
       ·exact .inl (e▸h9)
      ·cases hv:bl gN with
       | none => exact .inl rfl
       | some y =>
         by_cases sR:gN∈g.all
         ·exact .inr sR
         ·have:=hfb gN y hv sR
          rw[hbN e] at this;cases this
     have aTA:bl gM=none∨gM∈g.all:=by
      by_cases e:gM=gB
      ·rcases hal gB (by simp[TG.all]) with h9 | h9
       ·exact .inr (e▸h9)
       ·exact .inl (e▸h9)
      ·by_cases e3:gM=gR
       ·rcases hal gR (by simp[TG.all]) with h9 | h9
        ·exact .inr (e3▸h9)
        ·exact .inl (e3▸h9)
       ·cases hv:bl gM with
        | none => exact .inl rfl
        | some y =>
          by_cases sR:gM∈g.all
          ·exact .inr sR
          ·have h8:=hfb gM y hv sR
           have h7:=hbM e
           rw[c1 gM mMT mMN e3,h8] at h7;cases h7
     simp only[TG.all,List.mem_cons] at hx
     rcases hx with rfl | rfl | rfl | rfl | hx
     ·exact hT2
     ·exact aTW.symm
     ·exact aTA.symm
     ·exact hF2
     ·exact hal x (by
       simp only[TG.all,List.mem_cons]
       refine .inr (.inr (.inr (.inr ?_)))
       rcases List.mem_append.1 hx with hx | hx
       ·exact List.mem_of_mem_take hx
       ·exact List.mem_of_mem_drop hx)
    ·have h9:=hfb x y hx hn
     have hne: ∀z,z∈TG.all ⟨g.T,gR,gB,g.F,ids⟩→x≠z:=fun z hz e=>by
      rcases hal z hz with h8 | h8
      ·exact hn (e▸h8)
      ·rw[e,h8] at hx;cases hx
     have xT:=hne g.T (by simp[TG.all])
     have xR:=hne gR (by simp[TG.all])
     have xB:=hne gB (by simp[TG.all])
     have xN:x≠gN:=fun e=>by
      have:=hbN fun e2=>xR (e.trans e2)
      rw[←e,h9] at this;cases this
     have xM:x≠gM:=fun e=>by
      have:=hbM fun e2=>xB (e.trans e2)
      rw[←e,c1 x xT xN xR,h9] at this;cases this
     simp only
     rw[aS9 x xT xM xB,c1 x xT xN xR]
     exact h9
 ·have hjm:j=m:=by omega
  subst hjm
  rw[Lb] at hTb
  rw[htj] at hK
  rw[kG]
  exact⟨[],by simp,hK b ⟨g.T,gR,gB,g.F,ids⟩ rfl rfl hTb hal hfb⟩

structure PgN (p : Pg) (n m : Nat) : Prop where
 rows:p.rows=m
 aS:p.aS=n
 al:p.a.length=m*n
 bl:p.b.length=m
 cl:p.c.length=n
 am: ∀x,x∈p.a→x.natAbs≤1000
 bm: ∀x,x∈p.b→x.natAbs≤1000
 cm: ∀x,x∈p.c→x.natAbs≤1000
 ml:m≤17
 nl:n+m≤100
def pA (p:Pg) (n i j:Nat):Int:=p.a.getD (i*n+j) 0
def pB (p:Pg) (i:Nat):Int:=p.b.getD i 0
def pC (p:Pg) (j:Nat):Int:=p.c.getD j 0
theorem jE {l:List Int} (h: ∀x,x∈l→x.natAbs≤1000) (i:Nat):(l.getD i 0).natAbs≤1000:=by
 rw[List.getD_eq_getElem?_getD]
 cases hx:l[i]? with
 | none => simp
 | some x => exact h x (List.mem_of_getElem? hx)
theorem E5 (l:List Int):l=lz l.length fun i=>l.getD i 0:=by
 apply List.ext_getElem
 ·simp
 ·intro i h1 h2
  simp[lz,List.getD_eq_getElem?_getD,h1]
theorem PgN.b {p:Pg} {n m:Nat} (h:PgN p n m):p.b=lz m (pB p):=by rw[←h.bl];exact E5 p.b
theorem PgN.c {p:Pg} {n m:Nat} (h:PgN p n m):p.c=lz n (pC p):=by rw[←h.cl];exact E5 p.c
theorem PgN.row {p:Pg} {n m i:Nat} (h:PgN p n m) (hi:i<m):((iv p.a).take (i*n+n)).drop (i*n)=iv (lz n (pA p n i)):=by
 have hl:i*n+n≤p.a.length:=by
  rw[h.al]
  have:=Nat.mul_le_mul_right n (show i+1≤m by omega)
  rwa [Nat.add_mul,Nat.one_mul] at this
 apply List.ext_getElem
 ·simp;omega
 ·intro j h1 h2
  have hj:j<n:=by simpa using h2
  simp only[List.getElem_drop,List.getElem_take,nU,yZ,pA]
  rw[List.getD_eq_getElem?_getD,List.getElem?_eq_getElem (by omega)]
  rfl
theorem Zw (p:Pg) (n m i:Nat) (h:PgN p n m) (hi:i<m):RO Tryz.prog 204 [.ptr p.v,.int .i64 i] (.sl (iv (lz n (pA p n i)))):=by
 have hr:=h.row hi
 have hml:=h.ml
 have hnl:=h.nl
 have hal:=h.al
 have hin:i*n≤17*100:=Nat.mul_le_mul (by omega) (by omega)
 have hmn:i*n+n≤m*n:=by
  have:=Nat.mul_le_mul_right n (show i+1≤m by omega)
  rwa [Nat.add_mul,Nat.one_mul] at this
 have e1:(i:Int)*(n:Int)=((i*n:Nat):Int):=(Int.natCast_mul i n).symm
 have e2:((i:Int)+1)*(n:Int)=((i*n+n:Nat):Int):=by rw[Int.add_mul,Int.one_mul,e1];omega
 have w0:IntKind.i64.wrap ((i:Int)+1)=(i:Int)+1:=i64_in (by omega) (by omega)
 have w1:IntKind.i64.wrap ((i:Int)*(n:Int))=(i:Int)*n:=by rw[e1];exact i64_in (by omega) (by omega)
 have w2:IntKind.i64.wrap (((i:Int)+1)*(n:Int))=(i:Int)*n+n:=by rw[e2,i64_in (by omega) (by omega)];simp
 have hc:=h.aS
 have k1:(0:Int)≤(i:Int)*n:=by rw[e1];omega
 have k2:(i:Int)*n≤(i:Int)*n+n:=by omega
 have k3:(i:Int)*n+n≤(p.a.length:Int):=by rw[hal,e1];omega
 have k4:((i:Int)*n).toNat=i*n:=by rw[e1];omega
 have k5:((i:Int)*n+n).toNat=i*n+n:=by rw[e1];omega
 refine aH Tryz.func204 rfl rfl (by rw[Tryz.ntmps204];simp) fun bl=> ?_
 rw[Tryz.ntmps204,Tryz.results204]
 refine aB ?_
 simp
 refine bU aM (by kernel_rfl) ?_
 simp[Pg.v,hc,w0,w1,w2,k1,k2,k3,sliV,k4,k5,hr]
 refine⟨fun x hx=>(R5 _ x hx).symm,?_⟩
 exact aJ [.sl (iv (lz n (pA p n i)))] 0 (by simp) (by simp[frz,V.cl]) (Sub.refl _)
def sgB (p:Pg) (i:Nat):Int:=if pB p i<0 then -1 else 1
def eZ (p:Pg) (n m i c:Nat):Int:=if c<n then sgB p i*pA p n i c else if c=n+m then sgB p i*pB p i else if c=n+i then 1 else 0
def eQ (p:Pg) (n m:Nat):Nat→Nat→Rat:=fun i c=>(eZ p n m i c:Rat)
theorem Oq {p:Pg} {n m:Nat} (h:PgN p n m) (i c:Nat):(eZ p n m i c).natAbs≤1000:=by
 have hs:(sgB p i).natAbs=1:=by unfold sgB;split<;>rfl
 unfold eZ
 split
 ·rw[Int.natAbs_mul,hs,Nat.one_mul];exact jE h.am _
 ·split
  ·rw[Int.natAbs_mul,hs,Nat.one_mul];exact jE h.bm _
  ·split<;>decide
theorem PgN.init {p:Pg} {n m:Nat} (h:PgN p n m):Lp.Init n m 1000 (eQ p n m):=by
 refine⟨⟨fun i c _ _=>⟨_,rfl⟩,fun i c _ _=> ?_⟩,fun i j hi hj=> ?_,fun i hi=> ?_⟩
 ·have:=Oq h i c
  constructor
  ·rw[show -((1000:Nat):Rat)=((-1000:Int):Rat) from rfl]
   exact Rat.intCast_le_intCast.2 (by omega)
  ·rw[show((1000:Nat):Rat)=((1000:Int):Rat) from rfl]
   exact Rat.intCast_le_intCast.2 (by omega)
 ·unfold eQ eZ
  rw[if_neg (by omega),if_neg (by omega)]
  by_cases e:i=j
  ·rw[if_pos (by omega),if_pos e];rfl
  ·rw[if_neg (by omega),if_neg e];rfl
 ·have:0≤eZ p n m i (n+m):=by
   unfold eZ sgB
   rw[if_neg (by omega),if_pos rfl]
   split
   ·omega
   ·omega
  exact Rat.intCast_le_intCast.2 this
theorem aIF {p:Pg} {n m:Nat} (h:PgN p n m):Lp.vol m (eQ p n m) (Lp.kR n (eQ p n m))=1:=by
 show Lp.det m (fun j i=>eQ p n m i (n+j))=1
 exact Lp.Cn m _ fun j i hj hi=>by
  rw[h.init.art i j hi hj]
  by_cases e:j=i
  ·rw[if_pos e,if_pos e.symm]
  ·rw[if_neg e,if_neg (Ne.symm e)]
theorem Yt :Lp.kL 1=1:=by unfold Lp.kL;decide
theorem dz0 {p:Pg} {n m:Nat} (h:PgN p n m):Lp.dz m (eQ p n m) (Lp.kR n (eQ p n m))=1:=by
 unfold Lp.dz;rw[aIF h,Yt];rfl
theorem zt0 {p:Pg} {n m:Nat} (h:PgN p n m) (i c:Nat):Lp.zt m (eQ p n m) (Lp.kR n (eQ p n m)) i c=eZ p n m i c:=by
 unfold Lp.zt
 rw[aIF h,Yt,Rat.mul_one]
 show(eQ p n m i c).num=_
 unfold eQ
 simp

def rqs (w:Nat) (f:Nat→Rat):List (List V):=(List.range w).map fun c=>(ro (some (f c))).c
@[simp] theorem aA5 (w : Nat) (f : Nat → Rat) : (rqs w f).length = w := by simp [rqs]
@[simp] theorem X9 (w : Nat) (f : Nat → Rat) (i : Nat) (h : i < (rqs w f).length) : (rqs w f)[i] = (ro (some (f i))).c := by simp [rqs]
theorem bN {w:Nat} {f g:Nat→Rat} (h: ∀c,c<w→f c=g c):rqs w f=rqs w g:=List.map_congr_left fun c hc=>by rw[h c (by simpa using hc)]
theorem yO {w i:Nat} (f:Nat→Rat) (v:Rat) (hi:i<w):(rqs w f).set i (ro (some v)).c=rqs w fun c=>if c=i then v else f c:=by
 apply List.ext_getElem
 ·simp
 ·intro j h1 h2
  rw[List.getElem_set,X9,X9]
  by_cases e:i=j
  ·rw[if_pos e,if_pos e.symm]
  ·rw[if_neg e,if_neg (Ne.symm e)]
theorem Ee (w:Nat) (f:Nat→Rat):(rqs w f).all (fun r=>r.all V.cl)=true:=by simp[rqs,RT.c,V.cl]
theorem kJ (w:Nat) (f:Nat→Rat):rqs (w+1) f=rqs w f++ [(ro (some (f w))).c]:=by simp[rqs,List.range_succ]
theorem aBO (w:Nat) (f:Nat→Rat):rqs w f=rv (cL ((List.range w).map fun c=>some (f c))):=by simp[rqs,rv,cL]
@[irreducible] def vV : Nat := 10 ^ 72
theorem Z8 :vV*vV<LB^24:=by unfold vV;decide+kernel
theorem pN {m:Nat} (h:m≤17):Lp.lid 1000 m≤vV:=Nat.le_trans (Lp.oJ h) (by unfold vV;decide+kernel)
theorem uO {m:Nat} (h:m≤17):(m+1)*(1000*Lp.lid 1000 m)≤vV:=Nat.le_trans (Nat.mul_le_mul (show m+1≤18 by omega) (Nat.mul_le_mul_left _ (Lp.oJ h))) (by unfold vV;decide+kernel)
def oO (q:Rat):Prop:=Lp.sm vV q
theorem S1 {q:Rat} (h:Lp.sm (vV*vV) q):fits q:=by
 obtain⟨h1,h2⟩:=Lp.Ay h
 exact⟨aL.2 (Nat.lt_of_le_of_lt h1 Z8),aL.2 (Nat.lt_of_le_of_lt h2 Z8)⟩
theorem Rq :1≤vV:=by unfold vV;decide+kernel
theorem cE {q:Rat} (h:oO q):fits q:=S1 (Lp.fP h (by have:=Nat.mul_le_mul_left vV Rq;omega))
theorem D3 {p q:Rat} (hp:oO p) (hq:oO q):fits (p*q):=S1 (Lp.Nm hp hq)
theorem uB {p q:Rat} (hp:oO p) (hq:oO q) (h:q≠0):fits (p / q):=S1 (Lp.aAS hp hq h)
theorem R3 {f:Rat→Rat→Rat} {p q:Rat} (h:fits (f p q)):op2 f (some p) (some q)=some (f p q):=by unfold op2;simp[fit,h]
theorem okS {q:Rat} (h:fits q):okQ (some q):=fun p hp=>by cases hp;exact h
theorem aBF {q:Rat} (h:fits q):sgq (rd (ro (some q)))=q.num.sign:=by rw[oC,Hz h];rfl
theorem Pp {q:Rat} :q.num=0 ↔ q=0:=⟨fun h=>Rat.num_eq_zero.1 h,fun h=>by rw[h];rfl⟩
theorem gK {q:Rat} (h:fits q):RO Tryz.prog 191 [.agg (ro (some q)).c] (.int .i64 q.num.sign):=by
 have h1:=h.1
 have h2:=h.2
 have:=Et (ro (some q)) (by show(lim _).length≤_;omega) (by show(lim _).length≤_;omega)
 rwa [aBF h] at this
theorem K3 (a b:Rat) (ha:fits a) (hb:fits b) (h0:b≠0):RO Tryz.prog 277 [.agg (ro (some a)).c,.agg (ro (some b)).c] (.agg (ro (fit (a / b))).c):=by
 have ha1:=ha.1
 have ha2:=ha.2
 have hb1:=hb.1
 have hb2:=hb.2
 have hbn:b.num≠0:=fun e=>h0 (Pp.1 e)
 have ka:RO Tryz.prog 213 [.agg (rq a).c] (.bool true):=by
  have:=dO (rq a) (by show(lim _).length≤_;omega) (by show(lim _).length≤_;omega)
  rwa [show decide (rq a).ok=true from by rw[decide_eq_true_iff,←Gi,Hz ha];rfl] at this
 have kb:RO Tryz.prog 213 [.agg (rq b).c] (.bool true):=by
  have:=dO (rq b) (by show(lim _).length≤_;omega) (by show(lim _).length≤_;omega)
  rwa [show decide (rq b).ok=true from by rw[decide_eq_true_iff,←Gi,Hz hb];rfl] at this
 have n1:=fS ha1 hb2
 have n2:=fS ha2 hb1
 have e:zG (decide (a.num<0) !=decide (b.num<0)) (a.num.natAbs*b.den) (a.den*b.num.natAbs)=fit (a / b):=by
  unfold zG
  rw[if_neg (show ¬ a.den*b.num.natAbs=0 from Nat.mul_ne_zero a.den_nz (by omega))]
  rw[Se a b hbn,←Zh a b hbn]
 rw[oC,oC]
 simp only[rq,RT.c] at ka kb ⊢
 refine aH Tryz.func277 rfl rfl (by rw[Tryz.ntmps277];simp) fun bl=> ?_
 rw[Tryz.ntmps277,Tryz.results277]
 refine aE ?_
 simp
 intro g hg0 hg g2 hg2 h2g hb2 g3 hg3 h32 h3g hb3
 refine aB ?_
 simp
 refine bQ [(2,.loc g 3 0 0),(3,.loc g2 3 0 0),(4,.loc g3 3 0 0)] _ (upd (upd (upd bl g (some ⟨3,[(rq a).c]⟩)) g2 (some ⟨3,[(rq b).c]⟩)) g3 (some ⟨3,[[.bool false,.nils,.nils]]⟩)) 12 (.bool false) (upd (upd (upd bl g (some ⟨3,[(rq a).c]⟩)) g2 (some ⟨3,[(rq b).c]⟩)) g3 (some ⟨3,[[.bool false,.nils,.nils]]⟩)) ⟨rfl,by simp,sub_eq (by simp[RT.c,rq])⟩ rfl ?_ ?_
 ·simp[RT.c,rq,h2g,Ne.symm h2g,h32,Ne.symm h32,h3g,Ne.symm h3g]
  refine aD ka ?_
  simp[h2g,Ne.symm h2g,h32,Ne.symm h32,h3g,Ne.symm h3g]
  refine aD kb ?_
  simp
 simp
 refine aW aM (upd (upd bl g (some ⟨3,[(rq a).c]⟩)) g2 (some ⟨3,[(rq b).c]⟩)) (by simp[h32,h3g,hb3]) [0,1,2,3,4,5,6,7,8,9,10,11,12,13,14,15,16,17,18,19] 1 (by kernel_rfl) ?_
 simp[RT.c,rq,h2g,Ne.symm h2g,h32,Ne.symm h32,h3g,Ne.symm h3g]
 refine aN (fH _ _ (by omega) (by omega)) ?_
 simp[h2g,Ne.symm h2g,h32,Ne.symm h32,h3g,Ne.symm h3g]
 refine aN (fH _ _ (by omega) (by omega)) ?_
 simp[h2g,Ne.symm h2g,h32,Ne.symm h32,h3g,Ne.symm h3g]
 refine aN (qU _ _ _ (by omega) (by omega)) ?_
 rw[e,mY]
 generalize fit (a / b)=z
 simp[h2g,Ne.symm h2g,h32,Ne.symm h32,h3g,Ne.symm h3g]
 refine Dz 20 ?_
 simp[h2g,Ne.symm h2g,h32,Ne.symm h32,h3g,Ne.symm h3g]
 refine⟨by simp[h32,h3g,hb3],Dy ?_⟩
 simp[h2g,Ne.symm h2g,h32,Ne.symm h32,h3g,Ne.symm h3g]
 rw[←RT.c,mY z]
 exact aJ [.agg [.bool (decide (nm z<0)),.sl (iv (lim (nm z).natAbs)),.sl (iv (lim (dn z)))]] 1 (by simp[h2g,Ne.symm h2g,h32,Ne.symm h32,h3g,Ne.symm h3g]) (by simp[frz,V.cl]) (by simp[hg,hb2,hb3])

structure SG where
 T:Int
 R:Int
 B:Int
 C:Int
 ids:List Int
structure SN where
 r:Nat
 w:Nat
 n:Nat
 Z:Nat→Nat→Rat
 co:Nat→Rat
 bs:Nat→Nat
def rrs (r w:Nat) (Z:Nat→Nat→Rat):List (List V):=(List.range r).map fun i=> [.sl (rqs w (Z i))]
@[simp] theorem Zp (r w : Nat) (Z : Nat → Nat → Rat) : (rrs r w Z).length = r := by simp [rrs]
@[simp] theorem Nt (r w : Nat) (Z : Nat → Nat → Rat) (i : Nat) (h : i < (rrs r w Z).length) : (rrs r w Z)[i] = [.sl (rqs w (Z i))] := by simp [rrs]
def SN.c (t:SN):List V:= [.int .i64 t.n,.sl (rrs t.r t.w t.Z),.sl (iv (lb t.r t.bs)),.sl (rqs t.w t.co)]
def SG.all (g:SG):List Int:=g.T::g.R::g.B::g.C::g.ids
structure SS (b : Int → Option Blk) (g : SG) (t : SN) : Prop where
 len:g.ids.length=t.r
 top:b g.R=some ⟨1,g.ids.map fun x=> [.lsl x 3 0 t.w]⟩
 row: ∀(i:Nat) (x:Int),g.ids[i]? =some x→b x=some ⟨3,rqs t.w (t.Z i)⟩
 pos: ∀x,x∈g.ids→0≤x
 hd:b g.T=some ⟨4,[[.int .i64 t.n,.lsl g.R 1 0 t.r,.lsl g.B 1 0 t.r,.lsl g.C 3 0 t.w]]⟩
 ba:b g.B=some ⟨1,iv (lb t.r t.bs)⟩
 cst:b g.C=some ⟨3,rqs t.w t.co⟩
 pT:0≤g.T
 pR:g.R<0→t.r=0
 pB:g.B<0→t.r=0
 pC:0≤g.C
 nd:g.all.Nodup
theorem SS.eG {b b':Int→Option Blk} {g:SG} {t:SN} (h:SS b g t) (hk: ∀x y,x∈g.all→b x=some y→b' x=some y):SS b' g t:=
 ⟨h.len,hk _ _ (by simp[SG.all]) h.top,fun i x hi=>hk _ _ (by simp[SG.all,List.mem_of_getElem? hi]) (h.row i x hi),h.pos,hk _ _ (by simp[SG.all]) h.hd,hk _ _ (by simp[SG.all]) h.ba,hk _ _ (by simp[SG.all]) h.cst,h.pT,h.pR,h.pB,h.pC,h.nd⟩
theorem SS.at {b:Int→Option Blk} {g:SG} {t:SN} (h:SS b g t) (i:Nat) (hi:i<t.r): ∃x,g.ids[i]? =some x∧x∈g.ids∧0≤x∧b x=some ⟨3,rqs t.w (t.Z i)⟩:=by
 have hl:=h.len
 have e:g.ids[i]? =some (g.ids[i]'(by omega)):=List.getElem?_eq_getElem _
 exact⟨_,e,List.mem_of_getElem? e,h.pos _ (List.mem_of_getElem? e),h.row i _ e⟩
theorem SS.inj {b:Int→Option Blk} {g:SG} {t:SN} (h:SS b g t) {i j:Nat} {x:Int} (hi:g.ids[i]? =some x) (hj:g.ids[j]? =some x):i=j:=by
 have nd:=h.nd
 unfold SG.all at nd
 simp only[List.nodup_cons] at nd
 obtain⟨-, -, -, -,nd⟩:=nd
 obtain⟨i1,e1⟩:=List.getElem?_eq_some_iff.1 hi
 obtain⟨j1,e2⟩:=List.getElem?_eq_some_iff.1 hj
 have hp:=List.pairwise_iff_getElem.1 nd
 rcases Nat.lt_trichotomy i j with q | q | q
 ·exact absurd (e1.trans e2.symm) (hp i j i1 j1 q)
 ·exact q
 ·exact absurd (e2.trans e1.symm) (hp j i j1 i1 q)
theorem SS.frz {b:Int→Option Blk} {g:SG} {t:SN} (h:SS b g t) (m:Nat):frz b (m+4) (.loc g.T 4 0 0)=some (.ptr t.c):=by
 have hi: ∀m (k:Int),Vm.frz b m (.int .i64 k)=some (.int .i64 k):=fun m k=>by cases m<;>simp[Vm.frz]
 have h1:Vm.frz b (m+3) (.lsl g.R 1 0 t.r)=some (.sl (rrs t.r t.w t.Z)):=by
  rcases Int.lt_or_le g.R 0 with bP | hR
  ·have hr:=h.pR bP
   rw[hr]
   have e:rrs 0 t.w t.Z= []:=rfl
   rw[e]
   simp[Vm.frz,bP]
  have h1:=jF (n:=m+2) hR h.top
  rw[List.length_map,h.len] at h1
  rw[h1]
  have h2:(g.ids.map fun x=> [V.lsl x 3 0 t.w]).mapM (fun e:List V=>e.mapM (Vm.frz b (m+2)))=some (rrs t.r t.w t.Z):=by
   refine zK _ _ (by simp[h.len]) fun i x y hx hy=> ?_
   rw[List.getElem?_map] at hx
   cases hi:g.ids[i]? with
   | none => rw [hi] at hx; cases hx
   | some gi =>
     rw[hi] at hx;cases hx
     have hlt:i<t.r:=by rw[←h.len];exact(List.getElem?_eq_some_iff.1 hi).1
     rw[List.getElem?_eq_getElem (by simpa using hlt),Nt] at hy
     cases hy
     have h3:=jF (bl:=b) (n:=m+1) (sz:=3) (els:=rqs t.w (t.Z i)) (h.pos gi (List.mem_of_getElem? hi)) (h.row i gi hi)
     rw[iO (Ee _ _)] at h3
     simp only[List.mapM_cons,List.mapM_nil]
     rw[show(rqs t.w (t.Z i)).length=t.w by simp] at h3
     rw[h3];rfl
  rw[h2];rfl
 have h2:Vm.frz b (m+3) (.lsl g.B 1 0 t.r)=some (.sl (iv (lb t.r t.bs))):=by
  rcases Int.lt_or_le g.B 0 with bP | hB
  ·have hr:=h.pB bP
   rw[hr]
   have e:lb 0 t.bs= []:=rfl
   rw[e]
   simp[Vm.frz,bP,iv]
  have h1:=jF (n:=m+2) hB h.ba
  rw[iO (nK _)] at h1
  rw[show(iv (lb t.r t.bs)).length=t.r by simp] at h1
  rw[h1];rfl
 have h3:Vm.frz b (m+3) (.lsl g.C 3 0 t.w)=some (.sl (rqs t.w t.co)):=by
  have h1:=jF (n:=m+2) h.pC h.cst
  rw[iO (Ee _ _)] at h1
  rw[show(rqs t.w t.co).length=t.w by simp] at h1
  rw[h1];rfl
 rw[qQ h.hd]
 simp only[List.mapM_cons,List.mapM_nil,h1,h2,h3,hi]
 rfl
theorem SS.put {b:Int→Option Blk} {g:SG} {t:SN} {i:Nat} {x:Int} (h:SS b g t) (hi:g.ids[i]? =some x) (Z':Nat→Nat→Rat) (hZ: ∀a c,a≠i→c<t.w→t.Z a c=Z' a c):SS (upd b x (some ⟨3,rqs t.w (Z' i)⟩)) g ⟨t.r,t.w,t.n,Z',t.co,t.bs⟩:=by
 have hm:=List.mem_of_getElem? hi
 have nd:=h.nd
 unfold SG.all at nd
 simp only[List.nodup_cons,List.mem_cons,not_or] at nd
 obtain⟨⟨-, -, -,n1⟩,⟨-, -,n2⟩,⟨-,n3⟩,n4, -⟩:=nd
 have e: ∀y,y∉g.ids→y≠x:=fun y hy e=>hy (e▸hm)
 refine⟨h.len,by rw[aK _ _ _ _ (e _ n2)];exact h.top,fun k y hk=> ?_,h.pos,by rw[aK _ _ _ _ (e _ n1)];exact h.hd,by rw[aK _ _ _ _ (e _ n3)];exact h.ba,by rw[aK _ _ _ _ (e _ n4)];exact h.cst,h.pT,h.pR,h.pB,h.pC,h.nd⟩
 by_cases e2:k=i
 ·subst e2
  rw[hi] at hk;cases hk
  rw[bA]
 ·have hne:y≠x:=fun e3=>e2 (h.inj (i:=k) (j:=i) (by rw[hk,e3]) hi)
  rw[aK _ _ _ _ hne,h.row k y hk]
  simp only
  rw[bN fun c hc=>hZ k c e2 hc]
theorem SS.Zi {b:Int→Option Blk} {g:SG} {t:SN} (h:SS b g t) (co':Nat→Rat):SS (upd b g.C (some ⟨3,rqs t.w co'⟩)) g ⟨t.r,t.w,t.n,t.Z,co',t.bs⟩:=by
 have nd:=h.nd
 unfold SG.all at nd
 simp only[List.nodup_cons,List.mem_cons,not_or] at nd
 obtain⟨⟨-, -,n1, -⟩,⟨-,n2, -⟩,⟨n3, -⟩,n4, -⟩:=nd
 exact⟨h.len,by rw[aK _ _ _ _ n2];exact h.top,fun k y hk=>by rw[aK _ _ _ _ (fun e=>n4 (by rw[←e];exact List.mem_of_getElem? hk))];exact h.row k y hk,h.pos,by rw[aK _ _ _ _ n1];exact h.hd,by rw[aK _ _ _ _ n3];exact h.ba,by rw[bA],h.pT,h.pR,h.pB,h.pC,h.nd⟩
theorem SS.aTT {b:Int→Option Blk} {g:SG} {t:SN} (h:SS b g t) (bs':Nat→Nat):SS (upd b g.B (some ⟨1,iv (lb t.r bs')⟩)) g ⟨t.r,t.w,t.n,t.Z,t.co,bs'⟩:=by
 have nd:=h.nd
 unfold SG.all at nd
 simp only[List.nodup_cons,List.mem_cons,not_or] at nd
 obtain⟨⟨-,n1, -, -⟩,⟨n2, -, -⟩,⟨n3,n4⟩, -, -⟩:=nd
 exact⟨h.len,by rw[aK _ _ _ _ n2];exact h.top,fun k y hk=>by rw[aK _ _ _ _ (fun e=>n4 (by rw[←e];exact List.mem_of_getElem? hk))];exact h.row k y hk,h.pos,by rw[aK _ _ _ _ n1];exact h.hd,by rw[bA],by rw[aK _ _ _ _ (Ne.symm n3)];exact h.cst,h.pT,h.pR,h.pB,h.pC,h.nd⟩

theorem qD {bl:Int→Option Blk} {K:V→(Int→Option Blk)→Prop} (gt gr:Int) (w k:Nat) (f h:Nat→Rat) (hw:w≤200) (hk:k<w) (ht:bl gt=some ⟨3,rqs w f⟩) (hr:bl gr=some ⟨3,rqs w h⟩) (hne:gt≠gr) (h0t:0≤gt) (h0r:0≤gr)
  (hf: ∀c,c<w→fits (f c)) (hh: ∀c,c<w→fits (h c)) (hm: ∀c,c<w→fits (f k*h c)) (hs: ∀c,c<w→fits (f c - f k*h c))
  (hK: ∀b',(∀x y,bl x=some y→x≠gt→b' x=some y)→b' gt=some ⟨3,rqs w fun c=>f c - f k*h c⟩→K (.tup []) b'):
  bY Tryz.prog 253 [.lsl gt 3 0 w,.lsl gr 3 0 w,.int .i64 k] bl K:=by
 have kw:(k:Int)<w:=by omega
 refine cJ Tryz.func253 rfl rfl (by rw[Tryz.ntmps253];simp) ?_
 rw[Tryz.ntmps253,Tryz.results253]
 refine aE ?_
 simp[ht,kw,hk,RT.c]
 intro g6 hg6 hb6
 have n6t: ¬ g6=gt:=fun e=>by rw[e,ht] at hb6;cases hb6
 have n6r: ¬ g6=gr:=fun e=>by rw[e,hr] at hb6;cases hb6
 refine cX 1 6 (.ptr (ro (some (f k))).c) bl (by intro z b hz;simp only[aC] at hz ⊢;grind) (by simp[frz,dropB,hb6,V.cl,RT.c]) ?_
 have hsg:=gK (hf k hk)
 refine aO ?_
 have l3: ∀q:Rat,(rq q).c.length=3:=fun _=>rfl
 have t3: ∀q:Rat,(rq q).c.take 3=(rq q).c:=fun _=>rfl
 refine aB ?_
 simp[l3,t3]
 refine aD hsg ?_
 simp
 refine⟨fun h0=> ?_,fun h0=> ?_⟩
 ·rw[bW]
  refine⟨[],by simp,hK bl (fun x y hx _=>hx) ?_⟩
  rw[ht,bN (g:=fun c=>f c - f k*h c) fun c _=>by simp only[h0];grind]
 have lN:=vE (some (f k)) (okS (hf k hk))
 have okN:fits (-f k):=by
  have:=oM (okS (hf k hk)) (-f k) rfl
  exact this
 refine aE ?_
 simp[l3,t3]
 refine aD (r:= .agg (ro (some (-f k))).c) lN ?_
 simp[RT.c]
 intro g7 hg7 hb7
 refine cX 1 7 (.ptr (ro (some (-f k))).c) bl (by intro z b hz;simp only[aC] at hz ⊢;grind) (by simp[frz,dropB,hb7,V.cl,RT.c]) ?_
 refine aB ?_
 simp
 refine aG (fun j:Nat=> [(0,.lsl gt 3 0 w),(1,.lsl gr 3 0 w),(7,.ptr (ro (some (-f k))).c),(19,.int .i64 w),(20,.int .i64 j)]) (fun j=>upd bl gt (some ⟨3,rqs w fun c=>if c<j then f c - f k*h c else f c⟩)) (fun j=>j≤w) (fun j=>w - j) _ 0 (Nat.zero_le _) ⟨rfl,by simp,sub_eq (by funext x;simp only[aC];split;rename_i e;rw[e,ht];simp;rfl)⟩ ?_
 intro j hj
 have wj:IntKind.i64.wrap ((j:Int)+1)=(j:Int)+1:=i64_in (by omega) (by omega)
 refine aE ?_
 simp
 refine aE ?_
 simp
 refine⟨fun hjw=> ?_,fun hjw=> ?_⟩
 ·have tC:(j:Int)<w:=by omega
  refine aO (aX ?_)
  refine aE ?_
  simp
  refine aE ?_
  simp[hne,Ne.symm hne,hr,hjw,tC,l3,t3]
  refine aD (gK (hh j hjw)) ?_
  simp
  have rI:(rqs w fun c=>if c<j then f c - f k*h c else f c).set j (ro (some (f j - f k*h j))).c=rqs w fun c=>if c<j+1 then f c - f k*h c else f c:=by
   rw[yO _ _ hjw]
   exact bN fun c _=>by
    by_cases e:c=j
    ·subst e;rw[if_pos rfl,if_pos (by omega)]
    ·rw[if_neg e]
     by_cases e2:c<j
     ·rw[if_pos e2,if_pos (by omega)]
     ·rw[if_neg e2,if_neg (by omega)]
  by_cases hz:h j=0
  ·have hs0:(rqs w fun c=>if c<j then f c - f k*h c else f c)=rqs w fun c=>if c<j+1 then f c - f k*h c else f c:=bN fun c _=>by
    by_cases e:c=j
    ·subst e;rw[if_neg (by omega),if_pos (by omega),hz];grind
    ·by_cases e2:c<j
     ·rw[if_pos e2,if_pos (by omega)]
     ·rw[if_neg e2,if_neg (by omega)]
   refine aB ?_
   simp[hz]
   refine aB ?_
   simp[wj,aA]
   refine⟨j+1,by omega,by omega,rfl,by simp,sub_eq ?_⟩
   rw[hs0]
  ·refine aB ?_
   simp[hz]
   have lM:=Kb (some (-f k)) (some (h j)) (okS okN) (okS (hh j hjw))
   have eM:op2 (· * ·) (some (-f k)) (some (h j))=some (-(f k*h j)):=by
    rw[show -(f k*h j)= -f k*h j by grind]
    refine R3 ?_
    rw[show -f k*h j= -(f k*h j) by grind]
    exact oM (okS (hm j hjw)) _ rfl
   rw[eM] at lM
   have lA:=qY (some (f j)) (some (-(f k*h j))) (okS (hf j hjw)) (okS (oM (okS (hm j hjw)) _ rfl))
   have eA:op2 (· + ·) (some (f j)) (some (-(f k*h j)))=some (f j - f k*h j):=by
    rw[show f j - f k*h j=f j+ -(f k*h j) by grind]
    refine R3 ?_
    rw[show f j+ -(f k*h j)=f j - f k*h j by grind]
    exact hs j hjw
   rw[eA] at lA
   refine dC aM [0,1,2,3,4,5,6,7,8,9,10,11,12,13] 1 14 (by kernel_rfl) ?_
   simp[hne,Ne.symm hne,hr,hjw,tC,l3,t3]
   refine aN lM ?_
   simp[hne,Ne.symm hne,hr,hjw,tC,l3,t3]
   refine aN lA ?_
   simp[hjw,tC]
   refine cU (i:=14) (by kernel_rfl) rfl rfl rfl ?_
   generalize f j - f k*h j=y at rI
   simp[hjw,tC,RT.c]
   refine Dy ?_
   simp
   refine aB ?_
   simp[wj,aA]
   refine⟨j+1,by omega,by omega,rfl,by simp[RT.c],?_⟩
   rw[←rI]
   intro z b hz
   simp only[aC,RT.c,oC] at hz ⊢
   grind
 ·have aCM:j=w:=by omega
  subst aCM
  rw[kG]
  refine⟨[],by simp,hK _ (fun x y hx hx2=>by simp only;rw[aK _ _ _ _ hx2];exact hx) ?_⟩
  simp only
  rw[bA,bN fun c hc=>by rw[if_pos hc]]

def zpv (Z:Nat→Nat→Rat) (r k:Nat):Nat→Nat→Rat:=fun i c=>if i=r then Z r c / Z r k else Z i c - Z i k*(Z r c / Z r k)
def cpv (Z:Nat→Nat→Rat) (co:Nat→Rat) (r k:Nat):Nat→Rat:=fun c=>co c - co k*(Z r c / Z r k)
def pvS (bs:Nat→Nat) (r k:Nat):Nat→Nat:=fun i=>if i=r then k else bs i
def zAt (Z:Nat→Nat→Rat) (r k i:Nat):Nat→Nat→Rat:=fun a c=>if a=r then Z r c / Z r k else if a<i then zpv Z r k a c else Z a c
structure Vr (t : SN) : Prop where
 z: ∀i c,i<t.r→c<t.w→oO (t.Z i c)
 co: ∀c,c<t.w→oO (t.co c)
 w:t.w≤200
 r:t.r≤100
structure aJ3 where
 i:Nat
 b:Int→Option Blk
theorem wW {bl:Int→Option Blk} {K:V→(Int→Option Blk)→Prop} (g:SG) (t:SN) (r k:Nat) (hT:SS bl g t) (hr:r<t.r) (hk:k<t.w) (ht:Vr t) (hp:t.Z r k≠0) (ht':Vr ⟨t.r,t.w,t.n,zpv t.Z r k,cpv t.Z t.co r k,pvS t.bs r k⟩)
  (hK: ∀b',SS b' g ⟨t.r,t.w,t.n,zpv t.Z r k,cpv t.Z t.co r k,pvS t.bs r k⟩→(∀x y,bl x=some y→x∉g.all→b' x=some y)→K (.tup []) b'):
  bY Tryz.prog 250 [.loc g.T 4 0 0,.int .i64 r,.int .i64 k] bl K:=by
 obtain⟨gT,gR,gB,gC,ids⟩:=g
 obtain⟨R,w,n,Z,co,bs⟩:=t
 simp only at hr hk hp
 have hw:=ht.w
 have hR:=ht.r
 simp only at hw hR
 have hrR:(r:Int)<R:=by omega
 have hkw:(k:Int)<w:=by omega
 have bT:bl gT=_:=hT.hd
 have bG:bl gR=_:=hT.top
 have bB:bl gB=_:=hT.ba
 have bC:bl gC=_:=hT.cst
 have hil:=hT.len
 simp only at bT bG bB bC hil
 obtain⟨gr,hgr,Ov,Tz,aBT⟩:=hT.at r hr
 simp only at hgr Ov aBT
 have hgj: ∀h,ids[r]'h=gr:=fun h=>by rw[List.getElem?_eq_getElem h] at hgr;exact Option.some.inj hgr
 have l3: ∀q:Rat,(rq q).c.length=3:=fun _=>rfl
 have t3: ∀q:Rat,(rq q).c.take 3=(rq q).c:=fun _=>rfl
 have nd:=hT.nd
 simp only[SG.all,List.nodup_cons,List.mem_cons,not_or] at nd
 obtain⟨⟨nTR,nTB,nTC,nTi⟩,⟨nRB,nRC,nRi⟩,⟨nBC,nBi⟩,nCi,nds⟩:=nd
 have rT: ¬ gT=gr:=fun e=>nTi (e▸Ov)
 have rR: ¬ gR=gr:=fun e=>nRi (e▸Ov)
 refine cJ Tryz.func250 rfl rfl (by rw[Tryz.ntmps250];simp) ?_
 rw[Tryz.ntmps250,Tryz.results250]
 refine aE ?_
 simp[bT,bG,hr,hrR,hk,hkw,hil,hgj,aBT,RT.c]
 intro g6 hg6 hb6
 refine cX 1 6 (.ptr (ro (some (Z r k))).c) bl (by intro z b hz;simp only[aC] at hz ⊢;grind) (by simp[frz,dropB,hb6,V.cl,RT.c]) ?_
 refine aO ?_
 refine aB ?_
 simp[bT,bG,hr,hrR,hil,hgj]
 refine aG (fun j:Nat=> [(0,.loc gT 4 0 0),(1,.int .i64 r),(2,.int .i64 k),(6,.ptr (ro (some (Z r k))).c),(26,.int .i64 w),(27,.int .i64 j)]) (fun j=>upd bl gr (some ⟨3,rqs w fun c=>if c<j then Z r c / Z r k else Z r c⟩)) (fun j=>j≤w) (fun j=>w - j) _ 0 (Nat.zero_le _) ⟨rfl,by simp,sub_eq (by funext x;simp only[aC];split;rename_i e;rw[e,aBT];simp;rfl)⟩ ?_
 intro j hj
 have wj:IntKind.i64.wrap ((j:Int)+1)=(j:Int)+1:=i64_in (by omega) (by omega)
 refine aE ?_
 simp
 refine aE ?_
 simp
 refine⟨fun hjw=> ?_,fun hjw=> ?_⟩
 ·have tC:(j:Int)<w:=by omega
  refine aO (aX ?_)
  refine aE ?_
  simp
  have lD:=K3 (Z r j) (Z r k) (cE (ht.z r j hr hjw)) (cE (ht.z r k hr hk)) hp
  have hq:fits (Z r j / Z r k):=uB (ht.z r j hr hjw) (ht.z r k hr hk) hp
  have eD:fit (Z r j / Z r k)=some (Z r j / Z r k):=by simp[fit,hq]
  rw[eD] at lD
  have rI:(rqs w fun c=>if c<j then Z r c / Z r k else Z r c).set j (ro (some (Z r j / Z r k))).c=rqs w fun c=>if c<j+1 then Z r c / Z r k else Z r c:=by
   rw[yO _ _ hjw]
   exact bN fun c _=>by
    by_cases e:c=j
    ·subst e;rw[if_pos rfl,if_pos (by omega)]
    ·rw[if_neg e]
     by_cases e2:c<j
     ·rw[if_pos e2,if_pos (by omega)]
     ·rw[if_neg e2,if_neg (by omega)]
  refine dC aM [0,1,2,3,4,5,6,7,8,9,10,11,12,13,14,15,16,17,18,19,20] 1 21 (by kernel_rfl) ?_
  simp[rT,Ne.symm rT,rR,Ne.symm rR,bT,bG,hr,hrR,hil,hgj,hjw,tC,l3,t3]
  refine aN lD ?_
  simp[hjw,tC]
  refine cU (i:=21) (by kernel_rfl) rfl rfl rfl ?_
  generalize Z r j / Z r k=y at rI
  simp[hjw,tC,RT.c]
  refine Dy ?_
  simp
  refine aB ?_
  simp[wj,aA]
  refine⟨j+1,by omega,by omega,rfl,by simp[RT.c],?_⟩
  rw[←rI]
  intro z b hz
  simp only[aC,RT.c,oC] at hz ⊢
  grind
 have aCM:j=w:=by omega
 subst aCM
 have Im:(rqs j fun c=>if c<j then Z r c / Z r k else Z r c)=rqs j (zAt Z r k 0 r):=bN fun c hc=>by rw[if_pos hc];unfold zAt;rw[if_pos rfl]
 rw[Im]
 have hS0:SS (upd bl gr (some ⟨3,rqs j (zAt Z r k 0 r)⟩)) ⟨gT,gR,gB,gC,ids⟩ ⟨R,j,n,zAt Z r k 0,co,bs⟩:=hT.put (i:=r) hgr (zAt Z r k 0) fun a c ha _=>by unfold zAt;rw[if_neg ha,if_neg (by omega)]
 refine aO ?_
 refine aB ?_
 simp[rT,Ne.symm rT,bT,rR,Ne.symm rR,bG]
 refine aG (fun s:aJ3=> [(0,.loc gT 4 0 0),(1,.int .i64 r),(2,.int .i64 k),(56,.int .i64 R),(57,.int .i64 s.i)]) (fun s=>s.b) (fun s=>s.i≤R∧SS s.b ⟨gT,gR,gB,gC,ids⟩ ⟨R,j,n,zAt Z r k s.i,co,bs⟩∧ ∀x y,bl x=some y→x∉SG.all ⟨gT,gR,gB,gC,ids⟩→s.b x=some y) (fun s=>R - s.i) _ ⟨0,upd bl gr (some ⟨3,rqs j (zAt Z r k 0 r)⟩)⟩ ⟨Nat.zero_le _,hS0,fun x y hx hn=>by simp only;rw[aK _ _ _ _ (fun e=>hn (by rw[e];simp[SG.all,Ov]))];exact hx⟩ ⟨rfl,by simp,Sub.refl _⟩ ?_
 rintro⟨i,b⟩ ⟨hi,hS,hfb⟩
 simp only at hi hS hfb
 have wi:IntKind.i64.wrap ((i:Int)+1)=(i:Int)+1:=i64_in (by omega) (by omega)
 have cT:b gT=_:=hS.hd
 have cG:b gR=_:=hS.top
 have cB:b gB=_:=hS.ba
 have cC:b gC=_:=hS.cst
 simp only at cT cG cB cC
 have Ge:=hS.row r gr hgr
 simp only at Ge
 have aI7:rqs j (zAt Z r k i r)=rqs j fun c=>Z r c / Z r k:=bN fun c _=>by unfold zAt;rw[if_pos rfl]
 rw[aI7] at Ge
 have hzr: ∀c,c<j→fits (Z r c / Z r k):=fun c hc=>uB (ht.z r c hr hc) (ht.z r k hr hk) hp
 have hzt: ∀c,c<j→oO (Z r c / Z r k):=fun c hc=>by
  have:=ht'.z r c hr hc
  simp only[zpv,if_true] at this
  exact this
 refine aE ?_
 simp
 refine aE ?_
 simp
 refine⟨fun hiR=> ?_,fun hiR=> ?_⟩
 ·have Lj:(i:Int)<R:=by omega
  refine aO (aX ?_)
  refine aE ?_
  simp
  refine aE ?_
  simp
  by_cases hir:i=r
  ·have hz:zAt Z r k (i+1)=zAt Z r k i:=by
    funext a c
    unfold zAt
    by_cases e:a=r
    ·rw[if_pos e,if_pos e]
    ·rw[if_neg e,if_neg e]
     by_cases e2:a<i
     ·rw[if_pos e2,if_pos (by omega)]
     ·rw[if_neg e2,if_neg (by omega)]
   refine aB ?_
   have wi2:=wi
   have hS':=hS
   rw[hir] at wi2 hz hS'
   simp[hir]
   refine aB ?_
   simp[wi2,aA]
   refine⟨⟨r+1,b⟩,⟨by simp only;omega,by simp only;rw[hz];exact hS',hfb⟩,by simp only;omega,rfl,by simp,Sub.refl _⟩
  ·have aDK: ¬ (i:Int)=r:=by omega
   refine aB ?_
   simp[hir,aDK]
   obtain⟨gi,hgi,yD,yH,mU⟩:=hS.at i hiR
   simp only at hgi yD mU
   have aSH: ∀h,ids[i]'h=gi:=fun h=>by rw[List.getElem?_eq_getElem h] at hgi;exact Option.some.inj hgi
   have hzi:rqs j (zAt Z r k i i)=rqs j (Z i):=bN fun c _=>by unfold zAt;rw[if_neg hir,if_neg (by omega)]
   rw[hzi] at mU
   have hne:gi≠gr:=fun e=>hir (hS.inj (i:=i) (j:=r) (by rw[hgi,e]) hgr)
   have iT: ¬ gT=gi:=fun e=>nTi (e▸yD)
   have iR: ¬ gR=gi:=fun e=>nRi (e▸yD)
   refine aW aM (rem b gi) (eH b gi) [0,1,2,3,4,5,6,7,8,9,10,11,12,13,14] 1 (by kernel_rfl) ?_
   simp[iT,iR,cT,cG,hr,hrR,hil,hgj,hiR,Lj,aSH]
   refine Dz 15 ?_
   simp
   refine qD gi gr j k (Z i) (fun c=>Z r c / Z r k) hw hk mU Ge hne yH Tz (fun c hc=>cE (ht.z i c hiR hc)) hzr (fun c hc=>D3 (ht.z i k hiR hk) (hzt c hc)) (fun c hc=> ?_) fun b' hx hb'=> ?_
   ·have:=ht'.z i c hiR hc
    simp only[zpv,if_neg hir] at this
    exact cE this
   simp
   refine⟨fun z y hz=> ?_,Dy ?_⟩
   ·rw[aF] at hz
    split at hz
    ·cases hz
    ·exact hx z y hz (by assumption)
   simp
   refine aB ?_
   simp[wi,aA]
   refine⟨⟨i+1,b'⟩,⟨by simp only;omega,?_,fun x y h1 h2=>hx x y (hfb x y h1 h2) fun e=>h2 (by rw[e];simp[SG.all,yD])⟩,by simp only;omega,rfl,by simp,Sub.refl _⟩
   have aSI:=hS.put (i:=i) hgi (zAt Z r k (i+1)) fun a c ha _=>by
    simp only[zAt]
    by_cases e:a=r
    ·rw[if_pos e,if_pos e]
    ·rw[if_neg e,if_neg e]
     by_cases e2:a<i
     ·rw[if_pos e2,if_pos (by omega)]
     ·rw[if_neg e2,if_neg (by omega)]
   refine aSI.eG fun x y hx1 hy=> ?_
   by_cases e:x=gi
   ·subst e
    rw[bA] at hy
    cases hy
    simp only
    rw[hb']
    congr 2
    exact bN fun c _=>by unfold zAt zpv;rw[if_neg hir,if_pos (by omega),if_neg hir]
   ·rw[aK _ _ _ _ e] at hy
    exact hx x y hy e
 have hie:i=R:=by omega
 subst hie
 have aKN:SS b ⟨gT,gR,gB,gC,ids⟩ ⟨i,j,n,zpv Z r k,co,bs⟩:=⟨hS.len,hS.top,fun a x ha=>by
  rw[hS.row a x ha]
  have hai:a<i:=by rw[←hil];exact(List.getElem?_eq_some_iff.1 ha).1
  simp only
  congr 2
  exact bN fun c _=>by
   unfold zAt
   by_cases e:a=r
   ·rw[if_pos e];unfold zpv;rw[if_pos e]
   ·rw[if_neg e,if_pos hai],hS.pos,hS.hd,hS.ba,hS.cst,hS.pT,hS.pR,hS.pB,hS.pC,hS.nd⟩
 have cTr: ¬ gT=gC:=nTC
 have cCr:gC≠gr:=fun e=>nCi (by rw[e];exact Ov)
 refine aE ?_
 refine aW aM (rem b gC) (eH b gC) [0,1,2,3,4,5,6,7,8,9,10,11] 1 (by kernel_rfl) ?_
 simp[nTC,nRC,cT,cG,hr,hrR,hil,hgj]
 refine Dz 12 ?_
 simp
 refine qD gC gr j k co (fun c=>Z r c / Z r k) hw hk cC Ge cCr hS.pC Tz (fun c hc=>cE (ht.co c hc)) hzr (fun c hc=>D3 (ht.co k hk) (hzt c hc)) (fun c hc=>cE (ht'.co c hc)) fun b' hx hb'=> ?_
 simp
 refine⟨fun z y hz=> ?_,Dy ?_⟩
 ·rw[aF] at hz
  split at hz
  ·cases hz
  ·exact hx z y hz (by assumption)
 have hS2:SS b' ⟨gT,gR,gB,gC,ids⟩ ⟨i,j,n,zpv Z r k,cpv Z co r k,bs⟩:=(aKN.Zi (cpv Z co r k)).eG fun x y hx1 hy=>by
  by_cases e:x=gC
  ·subst e
   simp only at hy
   rw[bA] at hy
   cases hy
   rw[hb'];rfl
  ·simp only at hy
   rw[aK _ _ _ _ e] at hy
   exact hx x y hy e
 have dT:b' gT=_:=hS2.hd
 have dB:b' gB=_:=hS2.ba
 simp only at dT dB
 simp
 refine aB ?_
 have hbp:0≤gB:=by
  rcases Int.lt_or_le gB 0 with e | e
  ·have:=hS.pB e;simp only at this;omega
  ·exact e
 have aTO:(iv (lb i bs)).set r [.int .i64 k]=iv (lb i (pvS bs r k)):=Sf bs hr
 simp[dT,dB,hr,hrR,aTO]
 rw[kG]
 refine⟨[],by simp,hK _ (hS2.aTT (pvS bs r k)) fun x y h1 h2=> ?_⟩
 have x1:x≠gB:=fun e=>h2 (by rw[e];simp[SG.all])
 have x2:x≠gC:=fun e=>h2 (by rw[e];simp[SG.all])
 simp only
 rw[aK _ _ _ _ x1]
 exact hx x y (hfb x y h1 h2) x2
end Go.Proofs.YticmgmemnpcbbaaGreat.Vm
