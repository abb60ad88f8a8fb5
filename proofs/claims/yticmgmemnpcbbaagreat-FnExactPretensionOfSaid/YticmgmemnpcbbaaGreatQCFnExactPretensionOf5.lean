import Derived.Test.YticmgmemnpcbbaaGreatQCFnExactPretensionOf4

namespace Go.Proofs.YticmgmemnpcbbaaGreat.Vm
set_option linter.unusedSimpArgs false
set_option linter.unusedVariables false
theorem kP {l:List Int} {i:Nat} (h:i<l.length):val (l.take (i+1))=val (l.take i)+LB^i*l[i].toNat:=by
 rw[List.take_add_one,List.getElem?_eq_getElem h,jM]
 have:(l.take i).length=i:=by simp;omega
 rw[this]
 simp[val]
theorem wH : ∀ {a b:List Int} {i:Nat} (ha:Dig a) (hb:Dig b) (hl:a.length=b.length) (hi:i<a.length),(∀j (h1:j<a.length),i<j→a[j]=b[j]'(hl▸h1))→a[i]<b[i]'(hl▸hi)→val a<val b
 | [], b, i, _, _, _, hi, _, _ => by simp at hi
 | x :: a, [], i, _, _, hl, _, _, _ => by simp at hl
 | x :: a, y :: b, 0, ha, hb, hl, _, he, hlt => by
   have hx:=ha x List.mem_cons_self
   have hy:=hb y List.mem_cons_self
   have hab:a=b:=by
    apply List.ext_getElem
    ·simpa using hl
    ·intro j h1 h2
     have:=he (j+1) (by simpa using h1) (by omega)
     simpa using this
   subst hab
   simp at hlt
   simp only[val]
   omega
 | x :: a, y :: b, i + 1, ha, hb, hl, hi, he, hlt => by
   have hx:=ha x List.mem_cons_self
   have hy:=hb y List.mem_cons_self
   have:=wH (a:=a) (b:=b) (i:=i) ha.tail hb.tail (by simpa using hl) (by simpa using hi) (fun j h1 h2=>by have:=he (j+1) (by simpa using h1) (by omega);simpa using this) (by simpa using hlt)
   simp only[val]
   have h2:LB*(val a+1)≤LB*val b:=Nat.mul_le_mul_left _ this
   rw[Nat.mul_add] at h2
   have:LB=1000000000:=rfl
   omega
def jJ (a b:Nat):Int:=if a<b then -1 else if a=b then 0 else 1
theorem Kn {o:List Int} {i A S:Nat} {c x:Int} {P:Nat} (hP:P=LB^i) (ho:o.length=i) (hx0:0≤x) (hc:(val o:Int)+c*P=S) (hA:x=c+A):
  (val (o++ [x.tmod 1000000000]):Int)+x.tdiv 1000000000*(LB^(i+1):Nat)=(S+P*A:Nat):=by
 obtain⟨n,rfl⟩: ∃n:Nat,x=n:=⟨x.toNat,by omega⟩
 have e1:(n:Int).tmod 1000000000=(n % 1000000000:Nat):=by rw[Int.tmod_eq_emod_of_nonneg (by omega)];omega
 have e2:(n:Int).tdiv 1000000000=(n / 1000000000:Nat):=by rw[Int.tdiv_eq_ediv_of_nonneg (by omega)];omega
 rw[e1,e2,jM,ho,Nat.pow_succ,←hP]
 simp only[val,Int.toNat_natCast,Nat.mul_zero,Nat.add_zero]
 have h3:n % 1000000000+1000000000*(n / 1000000000)=n:=Nat.mod_add_div n _
 have h4:P*(n % 1000000000)+P*(1000000000*(n / 1000000000))=P*n:=by rw[←Nat.mul_add,h3]
 have h5:n / 1000000000*(P*LB)=P*(1000000000*(n / 1000000000)):=by
  show n / 1000000000*(P*1000000000)=_
  rw[Nat.mul_comm,Nat.mul_assoc]
 have h6:(P:Int)*n=P*c+P*A:=by rw[hA,Int.mul_add]
 have h7:(c:Int)*P=P*c:=Int.mul_comm _ _
 rw[←Int.natCast_mul,h5]
 have h8:((P*(n % 1000000000)+P*(1000000000*(n / 1000000000)):Nat):Int)=(P:Int)*n:=by rw[h4];simp
 rw[h6] at h8
 simp only[Int.natCast_add] at h8 ⊢
 have h9:((P*A:Nat):Int)=(P:Int)*A:=by simp
 rw[h9]
 omega

theorem sB : ∀ {l:List Int} {k:Nat} (h:k<l.length) (d:Int),val (l.set k d)+LB^k*l[k].toNat=val l+LB^k*d.toNat
 | [], k, h, d => by simp at h
 | x :: l, 0, h, d => by simp [val]; omega
 | x :: l, k + 1, h, d => by
   have hk:k<l.length:=by simpa using h
   have ih:=sB (l:=l) (k:=k) hk d
   have e:LB*(val (l.set k d)+LB^k*l[k].toNat)=LB*(val l+LB^k*d.toNat):=by rw[ih]
   rw[Nat.mul_add,Nat.mul_add,←Nat.mul_assoc,←Nat.mul_assoc,Nat.mul_comm LB (LB^k),←Nat.pow_succ] at e
   simp only[List.set_cons_succ,val,List.getElem_cons_succ]
   rw[Nat.succ_eq_add_one] at e
   omega
theorem Dig.set {l:List Int} (h:Dig l) {k:Nat} {d:Int} (hd:0≤d∧d<1000000000):Dig (l.set k d):=by
 intro x hx
 rcases List.mem_or_eq_of_mem_set hx with hx | rfl
 ·exact h x hx
 ·exact hd
theorem Dig.at {l:List Int} (h:Dig l) {k:Nat} (hk:k<l.length):0≤l[k]∧l[k]<1000000000:=h _ (List.getElem_mem hk)
theorem sP (n:Nat):Dig (List.replicate n 0):=by
 intro d hd
 rw[(List.mem_replicate.1 hd).2];decide
theorem sU (n:Nat):val (List.replicate n 0)=0:=by
 induction n with
 | zero => rfl
 | succ n ih => rw [List.replicate_succ, val, ih]; rfl
theorem J1 {o:List Int} {i A B Sa Sb br br':Nat} {x:Int} (ho:o.length=i) (hI:val o+Sb=Sa+br*LB^i) (hx:x=(A:Int) - br - B+br'*1000000000) (hx0:0≤x):
  val (o++ [x])+(Sb+LB^i*B)=(Sa+LB^i*A)+br'*LB^(i+1):=by
 obtain⟨n,rfl⟩: ∃n:Nat,x=n:=⟨x.toNat,by omega⟩
 have hn:n+br+B=A+br'*LB:=by
  show n+br+B=A+br'*1000000000
  omega
 rw[jM,ho]
 simp only[val,Int.toNat_natCast,Nat.mul_zero,Nat.add_zero]
 have h1:LB^i*(n+br+B)=LB^i*(A+br'*LB):=by rw[hn]
 rw[Nat.mul_add,Nat.mul_add,Nat.mul_add] at h1
 have h2:br'*LB^(i+1)=LB^i*(br'*LB):=by rw[Nat.pow_succ,←Nat.mul_assoc,Nat.mul_comm br',Nat.mul_assoc]
 have h3:br*LB^i=LB^i*br:=Nat.mul_comm _ _
 omega
theorem H4 {O:List Int} {k:Nat} (hk:k<O.length) (hO:Dig O) {n m c S:Nat} (hI:val O+c*LB^k=S):
  val (O.set k ((O[k]+n*m+c).tmod 1000000000))+((O[k]+n*m+c).tdiv 1000000000).toNat*LB^(k+1)=S+LB^k*(n*m):=by
 have h0:=hO.at hk
 obtain⟨o,ho⟩: ∃o:Nat,O[k]=o:=⟨O[k].toNat,by omega⟩
 have hv:=sB hk ((O[k]+n*m+c).tmod 1000000000)
 rw[ho] at hv ⊢
 obtain⟨x,hx⟩: ∃x:Nat,x=o+n*m+c:=⟨_,rfl⟩
 have hxi:(o:Int)+n*m+c=(x:Nat):=by rw[hx];simp
 rw[hxi] at hv ⊢
 have e1:(x:Int).tmod 1000000000=(x % 1000000000:Nat):=by rw[Int.tmod_eq_emod_of_nonneg (by omega)];omega
 have e2:(x:Int).tdiv 1000000000=(x / 1000000000:Nat):=by rw[Int.tdiv_eq_ediv_of_nonneg (by omega)];omega
 rw[e1] at hv ⊢
 rw[e2,Int.toNat_natCast]
 simp only[Int.toNat_natCast] at hv
 have h3:LB^k*(x % 1000000000+1000000000*(x / 1000000000))=LB^k*x:=by rw[Nat.mod_add_div]
 rw[Nat.mul_add] at h3
 have h4:x / 1000000000*LB^(k+1)=LB^k*(1000000000*(x / 1000000000)):=by
  rw[Nat.pow_succ,Nat.mul_comm,Nat.mul_assoc];rfl
 have h5:LB^k*x=LB^k*o+LB^k*(n*m)+LB^k*c:=by rw[hx,Nat.mul_add,Nat.mul_add]
 have h6:c*LB^k=LB^k*c:=Nat.mul_comm _ _
 omega
theorem Ds {o n m c:Int} (ho:0≤o∧o<1000000000) (hn:0≤n∧n<1000000000) (hm:0≤m∧m<1000000000) (hc:0≤c∧c<1000000000):
  0≤o+n*m+c∧o+n*m+c<1000000000000000000∧0≤(o+n*m+c).tdiv 1000000000∧(o+n*m+c).tdiv 1000000000<1000000000:=by
 have h1:0≤n*m:=Int.mul_nonneg hn.1 hm.1
 have h2:n*m≤999999999*999999999:=Int.mul_le_mul (by omega) (by omega) hm.1 (by omega)
 have h3:0≤o+n*m+c:=by omega
 rw[Int.tdiv_eq_ediv_of_nonneg h3]
 omega
theorem Eb {Q A r b a:Nat} {L:Nat} (hI:A=Q*b+r) (hb:0<b):(a+L*A)=((r*L+a) / b+L*Q)*b+(r*L+a) % b:=by
 have h:=Nat.div_add_mod (r*L+a) b
 rw[hI,Nat.mul_add,Nat.add_mul]
 have h1:(r*L+a) / b*b=b*((r*L+a) / b):=Nat.mul_comm _ _
 have h2:L*(Q*b)=L*Q*b:=(Nat.mul_assoc _ _ _).symm
 have h3:L*r=r*L:=Nat.mul_comm _ _
 omega

theorem Jy {g v t T ul vl:Nat} (hT:0<T) (hu:ul<T) (hv:0<v) (h:t<g*v):(t*T+ul) / (v*T+vl)<g:=by
 have hV:0<v*T+vl:=by have:=Nat.mul_pos hv hT;omega
 rw[Nat.div_lt_iff_lt_mul hV,Nat.mul_add,←Nat.mul_assoc]
 have h1:(t+1)*T≤g*v*T:=Nat.mul_le_mul_right _ h
 rw[Nat.add_mul] at h1
 omega
theorem Gb {g U V:Nat} (hV:0<V) (h:U<LB*V) (hg:LB≤g):U / V<g:=by
 rw[Nat.div_lt_iff_lt_mul hV]
 exact Nat.lt_of_lt_of_le h (Nat.mul_le_mul_right _ hg)
theorem N5 {g v1 v2 t T ul vl:Nat} (hvl:vl<T) (hv:0<v1) (hg:g<LB) (h:g*(v1*LB+v2)≤t):g≤(t*T+ul) / ((v1*LB+v2)*T+vl)+1:=by
 have hT:0<T:=by omega
 have hV:0<(v1*LB+v2)*T+vl:=by
  have:0<v1*LB+v2:=by have:=Nat.mul_pos hv iQ;omega
  have:=Nat.mul_pos this hT
  omega
 by_cases h0:g=0
 ·rw[h0];exact Nat.zero_le _
 have h1:g - 1≤(t*T+ul) / ((v1*LB+v2)*T+vl):=by
  rw[Nat.le_div_iff_mul_le hV]
  have e1:(g - 1)*((v1*LB+v2)*T+vl)+((v1*LB+v2)*T+vl)=g*((v1*LB+v2)*T+vl):=by
   obtain⟨k,rfl⟩: ∃k,g=k+1:=⟨g - 1,by omega⟩
   rw[Nat.add_sub_cancel,Nat.add_mul k 1,Nat.one_mul]
  have e2:g*((v1*LB+v2)*T+vl)=g*(v1*LB+v2)*T+g*vl:=by rw[Nat.mul_add,Nat.mul_assoc]
  have e3:g*(v1*LB+v2)*T≤t*T:=Nat.mul_le_mul_right _ h
  have e4:g*vl≤LB*T:=Nat.mul_le_mul (by omega) (by omega)
  have e5:LB*T≤(v1*LB+v2)*T:=Nat.mul_le_mul_right _ (by have:=Nat.mul_le_mul_right LB hv;omega)
  omega
 omega
theorem Bh {g r v1 v2 top u:Nat} (ht:top=g*v1+r) (hr:LB≤r) (vS:top≤v1*LB+(LB - 1)) (hv2:v2<LB) (hv1:0<v1):g<LB∧g*(v1*LB+v2)≤top*LB+u:=by
 have hb:=iQ
 have hg:g<LB:=by
  rcases Nat.lt_or_ge g LB with h | h
  ·exact h
  ·have:=Nat.mul_le_mul_right v1 h
   have e:v1*LB=LB*v1:=Nat.mul_comm _ _
   omega
 refine⟨hg,?_⟩
 have h1:g*v2≤LB*LB:=Nat.mul_le_mul (by omega) (by omega)
 have h2:LB*LB≤r*LB:=Nat.mul_le_mul_right _ hr
 have h3:top*LB=g*v1*LB+r*LB:=by rw[ht,Nat.add_mul]
 have h4:g*(v1*LB+v2)=g*v1*LB+g*v2:=by rw[Nat.mul_add,Nat.mul_assoc]
 omega
theorem F3 {g r v1 v2 top u:Nat} (ht:top=g*v1+r):r*LB+u<g*v2 ↔ top*LB+u<g*(v1*LB+v2):=by
 have h3:top*LB=g*v1*LB+r*LB:=by rw[ht,Nat.add_mul]
 have h4:g*(v1*LB+v2)=g*v1*LB+g*v2:=by rw[Nat.mul_add,Nat.mul_assoc]
 omega

theorem Lq (n:Int) {d:Nat} (hd:d≠0):(mkRat n d).num.natAbs=n.natAbs / Nat.gcd n.natAbs d∧(mkRat n d).den=d / Nat.gcd n.natAbs d∧((mkRat n d).num<0 ↔ n<0):=by
 rw[←Rat.normalize_eq_mkRat hd,Rat.normalize_eq hd]
 have hg:0<Nat.gcd n.natAbs d:=Nat.gcd_pos_of_pos_right _ (Nat.pos_of_ne_zero hd)
 obtain⟨k,hk⟩:(Nat.gcd n.natAbs d:Int)∣n:=by
  exact Int.ofNat_dvd_left.2 (Nat.gcd_dvd_left _ _)
 show(n / ((Nat.gcd n.natAbs d:Nat):Int)).natAbs=_∧d / Nat.gcd n.natAbs d=_∧(n / ((Nat.gcd n.natAbs d:Nat):Int)<0 ↔ n<0)
 generalize Nat.gcd n.natAbs d=g at *
 have e:n / (g:Int)=k:=by rw[hk,Int.mul_ediv_cancel_left _ (by omega)]
 have ea:n.natAbs / g=k.natAbs:=by rw[hk,Int.natAbs_mul,Int.natAbs_natCast,Nat.mul_div_cancel_left _ hg]
 refine⟨by rw[e,ea],rfl,?_⟩
 show n / (g:Int)<0 ↔ n<0
 rw[e,hk]
 constructor
 ·intro h;exact Int.mul_neg_of_pos_of_neg (by omega) h
 ·intro h
  by_cases h1:k<0
  ·exact h1
  ·have:=Int.mul_nonneg (show 0≤(g:Int) by omega) (show 0≤k by omega);omega
theorem aEZ (a b:Rat) (hb:b.num≠0):a / b=mkRat (a.num*(b.num.sign*b.den)) (a.den*b.num.natAbs):=by
 rw[Rat.div_def,Rat.mul_def',Rat.num_inv,Rat.den_inv,if_neg hb]
theorem Su (a b:Rat):a<b ↔ a.num*b.den<b.num*a.den:=Rat.lt_iff a b

theorem Ta {x t T rl bl:Nat} (hb:bl<T) (ht:0<t):x / (t+1)≤(x*T+rl) / (t*T+bl):=by
 have hT:0<T:=by omega
 have hV:0<t*T+bl:=by have:=Nat.mul_pos ht hT;omega
 rw[Nat.le_div_iff_mul_le hV]
 have h1:t*T+bl≤(t+1)*T:=by rw[Nat.add_mul];omega
 have h2:x / (t+1)*(t*T+bl)≤x / (t+1)*((t+1)*T):=Nat.mul_le_mul_left _ h1
 have h3:x / (t+1)*(t+1)≤x:=Nat.div_mul_le_self _ _
 have h4:x / (t+1)*((t+1)*T)≤x*T:=by rw[←Nat.mul_assoc];exact Nat.mul_le_mul_right _ h3
 omega
theorem Bi {x t T rl bl:Nat} (hr:rl<T) (ht:0<t):(x*T+rl) / (t*T+bl)≤x / t:=by
 have hT:0<T:=by omega
 have hV:0<t*T:=Nat.mul_pos ht hT
 have h1:(x*T+rl) / (t*T+bl)≤(x*T+rl) / (t*T):=Nat.div_le_div_left (by omega) hV
 have h2:(x*T+rl) / (t*T)=x / t:=by
  rw[Nat.mul_comm t T,←Nat.div_div_eq_div_mul,Nat.mul_comm x T,Nat.mul_add_div hT,Nat.div_eq_of_lt hr,Nat.add_zero]
 omega
theorem Gi {b r q:Nat} (hb:0<b):b*q≤r ↔ q≤r / b:=by
 rw[Nat.le_div_iff_mul_le hb,Nat.mul_comm]
theorem aA4 {Q A r b a q:Nat} {L:Nat} (hI:A=Q*b+r):a+L*A=(q+L*Q)*b+(a+L*r - q*b)∨a+L*r<q*b:=by
 rcases Nat.lt_or_ge (a+L*r) (q*b) with h | h
 ·exact .inr h
 ·refine .inl ?_
  rw[hI,Nat.mul_add,Nat.add_mul]
  have h2:L*(Q*b)=L*Q*b:=(Nat.mul_assoc _ _ _).symm
  omega

theorem take_set {O:List Int} {k:Nat} (hk:k<O.length) (hO:Dig O) {m c c' S A:Nat} {x:Int} (hI:val O+S=A+c*LB^k) (hx:x=O[k] - m - c+c'*1000000000) (hx0:0≤x):
  val (O.set k x)+(S+LB^k*m)=A+c'*LB^(k+1):=by
 have h0:=hO.at hk
 have hv:=sB hk x
 obtain⟨o,ho⟩: ∃o:Nat,O[k]=o:=⟨O[k].toNat,by omega⟩
 obtain⟨n,rfl⟩: ∃n:Nat,x=n:=⟨x.toNat,by omega⟩
 rw[ho] at hv hx
 simp only[Int.toNat_natCast] at hv
 have hn:n+m+c=o+c'*LB:=by
  show n+m+c=o+c'*1000000000
  omega
 have h1:LB^k*(n+m+c)=LB^k*(o+c'*LB):=by rw[hn]
 rw[Nat.mul_add,Nat.mul_add,Nat.mul_add] at h1
 have h2:c'*LB^(k+1)=LB^k*(c'*LB):=by rw[Nat.pow_succ,←Nat.mul_assoc,Nat.mul_comm c',Nat.mul_assoc]
 have h3:c*LB^k=LB^k*c:=Nat.mul_comm _ _
 omega
theorem Hk {o x c:Int} (hx:x<0) (hc:c=(1000000000 - 1 - x).tdiv 1000000000):0≤x+c*1000000000∧x+c*1000000000<1000000000∧0≤c:=by
 rw[Int.tdiv_eq_ediv_of_nonneg (by omega)] at hc
 omega
theorem Sg {O:List Int} {k:Nat} (hk:k<O.length) (hO:Dig O) {m c S:Nat} (hI:val O+c*LB^k=S):
  val (O.set k ((O[k]+m+c).tmod 1000000000))+((O[k]+m+c).tdiv 1000000000).toNat*LB^(k+1)=S+LB^k*m:=by
 have:=H4 hk hO (n:=m) (m:=1) hI
 simpa using this
theorem aM9 {M:Nat} {n:Nat} {t:Int} (hM:M<LB^n):(M:Int)+t*(LB^n:Nat)<0 ↔ t<0:=by
 have hP:0<LB^n:=Nat.pow_pos iQ
 generalize LB^n=P at *
 constructor
 ·intro h
  by_cases ht:t<0
  ·exact ht
  ·have:=Int.mul_nonneg (show 0≤t by omega) (show 0≤(P:Int) by omega)
   omega
 ·intro ht
  have h1:t*(P:Int)≤(-1)*P:=Int.mul_le_mul_of_nonneg_right (by omega) (by omega)
  omega

theorem I1 {a b:Nat} (h:(lim a).length<(lim b).length):jJ a b= -1:=by
 have:=nV h
 unfold jJ;rw[if_pos this]
theorem D9 {a b:Nat} (h:(lim b).length<(lim a).length):jJ a b=1:=by
 have:=nV h
 unfold jJ;rw[if_neg (by omega),if_neg (by omega)]
theorem Lk {a b i:Nat} (hl:(lim a).length=(lim b).length) (h1:i<(lim a).length) (h2:i<(lim b).length) (he: ∀j (h1:j<(lim a).length) (h2:j<(lim b).length),i<j→(lim a)[j]=(lim b)[j]) (h:(lim a)[i]<(lim b)[i]):jJ a b= -1:=by
 have:=wH (gY a) (gY b) hl h1 (fun j hj hij=>he j hj _ hij) h
 rw[fG,fG] at this
 unfold jJ;rw[if_pos this]
theorem Kj {a b i:Nat} (hl:(lim a).length=(lim b).length) (h1:i<(lim a).length) (h2:i<(lim b).length) (he: ∀j (h1:j<(lim a).length) (h2:j<(lim b).length),i<j→(lim a)[j]=(lim b)[j]) (h:(lim b)[i]<(lim a)[i]):jJ a b=1:=by
 have:=wH (gY b) (gY a) hl.symm h2 (fun j hj hij=>(he j (hl▸hj) hj hij).symm) h
 rw[fG,fG] at this
 unfold jJ;rw[if_neg (by omega),if_neg (by omega)]
theorem Nt {a b:Nat} (hl:(lim a).length=(lim b).length) (he: ∀j (h1:j<(lim a).length) (h2:j<(lim b).length),(lim a)[j]=(lim b)[j]):jJ a b=0:=by
 have:a=b:=Jk (List.ext_getElem hl fun j h1 h2=>he j h1 h2)
 subst this
 unfold jJ;rw[if_neg (by omega),if_pos rfl]
def pv (a i:Nat):Nat:=val ((lim a).take i)
def dg (a i:Nat):Nat:=(((lim a)[i]?).getD 0).toNat
theorem eY (a i:Nat):dg a i<1000000000:=by
 unfold dg
 rcases h:(lim a)[i]? with _ | d
 ·simp
 ·have:=gY a d (List.mem_of_getElem? h)
  simp;omega
theorem hH {a i:Nat} (h:i<(lim a).length):(lim a)[i]=(dg a i:Nat):=by
 have:=(gY a).at h
 unfold dg
 rw[List.getElem?_eq_getElem h]
 simp;omega
theorem kE {a i:Nat} (h:(lim a).length≤i):dg a i=0:=by
 unfold dg
 rw[List.getElem?_eq_none h];rfl
theorem Og {a b i:Nat} (hl:(lim a).length=(lim b).length) (hi:i<(lim a).length) (he: ∀j,i<j→dg a j=dg b j) (h:dg a i<dg b i):jJ a b= -1:=
 Lk hl hi (hl▸hi) (fun j h1 h2 hj=>by rw[hH h1,hH h2,he j hj]) (by rw[hH hi,hH (hl▸hi)];omega)
theorem Sh {a b i:Nat} (hl:(lim a).length=(lim b).length) (hi:i<(lim a).length) (he: ∀j,i<j→dg a j=dg b j) (h:dg b i<dg a i):jJ a b=1:=
 Kj hl hi (hl▸hi) (fun j h1 h2 hj=>by rw[hH h1,hH h2,he j hj]) (by rw[hH hi,hH (hl▸hi)];omega)
theorem Qq {a b:Nat} (hl:(lim a).length=(lim b).length) (he: ∀j,dg a j=dg b j):jJ a b=0:=
 Nt hl fun j h1 h2=>by rw[hH h1,hH h2,he j]
@[simp] theorem aRS (a : Nat) : pv a 0 = 0 := by simp [pv, val]
theorem eW (a i:Nat):pv a (i+1)=pv a i+LB^i*dg a i:=by
 rcases Nat.lt_or_ge i (lim a).length with h | h
 ·unfold pv
  rw[kP h,hH h,Int.toNat_natCast]
 ·unfold pv
  rw[kE h,List.take_of_length_le h,List.take_of_length_le (by omega)];simp
theorem fZ {a i:Nat} (h:(lim a).length≤i):pv a i=a:=by
 unfold pv;rw[List.take_of_length_le h,fG]
theorem Cv (a i:Nat):pv a i<LB^i:=by
 have h1:=C4 (D5 (gY a) i)
 refine Nat.lt_of_lt_of_le h1 (Nat.pow_le_pow_right iQ ?_)
 simp;omega
theorem rE {n:Nat} (h:n≠0):LB^((lim n).length - 1)≤n:=by
 rcases Nat.lt_or_ge n (LB^((lim n).length - 1)) with hh | hh
 ·have:=aM.2 hh
  have:(lim n).length≠0:=fun h0=>h (eV.1 (List.length_eq_zero_iff.1 h0))
  omega
 ·exact hh
theorem Pt {o:List Int} {n:Nat} (ho:Dig o) (hv:val o=n) (hn:o.length=0∨LB^(o.length - 1)≤n):lim n=o:=by
 rw[←hv]
 refine S9 ho fun d hd h0=> ?_
 subst h0
 rcases o.eq_nil_or_concat with rfl | ⟨o',x,e⟩
 ·cases hd
 ·rw[List.concat_eq_append] at e
  subst e
  simp at hd;subst hd
  simp[jM,val] at hv hn
  have:=C4 (Dig.append.1 ho).1
  omega
structure lC (a b i : Nat) (o : List Int) (c : Int) : Prop where
 len:o.length=i
 dig:Dig o
 c0:0≤c
 c1:c≤1
 v:(val o:Int)+c*(LB^i:Nat)=(pv a i+pv b i:Nat)
theorem lC.start (a b:Nat):lC a b 0 [] 0:=⟨rfl,(fun _ h=>by cases h),by decide,by decide,by simp[val]⟩
theorem lC.x {a b i:Nat} {o:List Int} {c:Int} (h:lC a b i o c):0≤c+dg a i+dg b i∧c+dg a i+dg b i≤1999999999:=by
 have:=eY a i;have:=eY b i;have:=h.c0;have:=h.c1;omega
theorem lC.next {a b i:Nat} {o:List Int} {c x:Int} (h:lC a b i o c) (hx:x=c+dg a i+dg b i):lC a b (i+1) (o++ [x.tmod 1000000000]) (x.tdiv 1000000000):=by
 have hb:=h.x
 rw[←hx] at hb
 have e1:x.tmod 1000000000=x % 1000000000:=Int.tmod_eq_emod_of_nonneg hb.1
 have e2:x.tdiv 1000000000=x / 1000000000:=Int.tdiv_eq_ediv_of_nonneg hb.1
 refine⟨by simp[h.len],Dig.append.2 ⟨h.dig,fun d hd=> ?_⟩,by omega,by omega,?_⟩
 ·simp at hd;subst hd;omega
 ·rw[Kn (P:=LB^i) (A:=dg a i+dg b i) rfl h.len hb.1 h.v (by rw[hx];simp;omega),eW,eW]
  congr 1
  rw[Nat.mul_add];omega
theorem lC.impl {a b i:Nat} {o:List Int} {c:Int} (h:lC a b i o c) (ha:(lim a).length≤i) (hb:(lim b).length≤i):Dig (o++ [c])∧val (o++ [c])=a+b:=by
 have h0:=h.c0;have h1:=h.c1
 refine⟨Dig.append.2 ⟨h.dig,fun d hd=> ?_⟩,?_⟩
 ·simp at hd;subst hd;omega
 ·have:=h.v
  rw[fZ ha,fZ hb] at this
  rw[jM,h.len]
  simp only[val,Nat.mul_zero,Nat.add_zero]
  have e:c=0∨c=1:=by omega
  generalize LB^i=P at this ⊢
  rcases e with rfl | rfl
  ·simp at this ⊢;omega
  ·simp at this ⊢;omega
theorem lC.spec {a b i:Nat} {o:List Int} (h:lC a b i o 0) (ha:(lim a).length≤i) (hb:(lim b).length≤i) (hn:i=0∨LB^(i - 1)≤a+b):o=lim (a+b):=by
 have:=h.v
 rw[fZ ha,fZ hb] at this
 refine(Pt h.dig (by simp at this;omega) ?_).symm
 rw[h.len];exact hn
theorem lC.more {a b i:Nat} {o:List Int} {c:Int} (h:lC a b i o c) (hc:i<(lim a).length∨i<(lim b).length∨0<c):LB^i≤a+b:=by
 have ex: ∀n,i<(lim n).length→LB^i≤n:=fun n hn=>by
  have h0:n≠0:=fun h=>by rw[h,aW] at hn;simp at hn
  exact Nat.le_trans (Nat.pow_le_pow_right iQ (by omega)) (rE h0)
 by_cases h1:i<(lim a).length
 ·have:=ex a h1;omega
 by_cases h2:i<(lim b).length
 ·have:=ex b h2;omega
 have h3:0<c:=by omega
 have hv:=h.v
 rw[fZ (by omega),fZ (by omega)] at hv
 have hc1:=h.c1
 have e:c=1:=by omega
 subst e
 generalize LB^i=P at hv ⊢
 omega
structure iW (a b i : Nat) (o : List Int) (br : Nat) : Prop where
 len:o.length=i
 dig:Dig o
 c1:br≤1
 v:val o+pv b i=pv a i+br*LB^i
theorem iW.start (a b:Nat):iW a b 0 [] 0:=⟨rfl,(fun _ h=>by cases h),by decide,by simp[val]⟩
theorem iW.x {a b i:Nat} {o:List Int} {br:Nat} (h:iW a b i o br): -1000000000≤(dg a i:Int) - br - dg b i∧(dg a i:Int) - br - dg b i≤999999999:=by
 have:=eY a i;have:=eY b i;have:=h.c1;omega
theorem iW.O6 {a b i:Nat} {o:List Int} {br:Nat} {x:Int} (h:iW a b i o br) (hx:x=(dg a i:Int) - br - dg b i) (h0:0≤x):iW a b (i+1) (o++ [x]) 0:=by
 have hb:=h.x
 refine⟨by simp[h.len],Dig.append.2 ⟨h.dig,fun d hd=> ?_⟩,by decide,?_⟩
 ·simp at hd;subst hd;omega
 ·rw[eW,eW]
  exact J1 (br':=0) h.len h.v (by rw[hx];simp) h0
theorem iW.Q9 {a b i:Nat} {o:List Int} {br:Nat} {x:Int} (h:iW a b i o br) (hx:x=(dg a i:Int) - br - dg b i) (h0:x<0):iW a b (i+1) (o++ [x+1000000000]) 1:=by
 have hb:=h.x
 refine⟨by simp[h.len],Dig.append.2 ⟨h.dig,fun d hd=> ?_⟩,by decide,?_⟩
 ·simp at hd;subst hd;omega
 ·rw[eW,eW]
  exact J1 (br':=1) h.len h.v (by rw[hx];simp) (by omega)
theorem iW.done {a b i:Nat} {o:List Int} {br:Nat} (h:iW a b i o br) (hab:b≤a) (ha:(lim a).length≤i):val o=a - b:=by
 have hv:=h.v
 have hb:=cJ hab
 rw[fZ ha,fZ (by omega)] at hv
 have:=C4 h.dig
 rw[h.len] at this
 have:br=0∨br=1:=by have:=h.c1;omega
 rcases this with rfl | rfl<;>omega

structure iP (a b i j : Nat) (O : List Int) (c : Nat) : Prop where
 len:O.length=(lim a).length+(lim b).length
 dig:Dig O
 c1:c<1000000000
 z: ∀k (hk:k<O.length),i+(lim b).length≤k→O[k]=0
 v:val O+c*LB^(i+j)=pv a i*b+LB^i*(dg a i*pv b j)
theorem iP.start (a b:Nat):iP a b 0 0 (List.replicate ((lim a).length+(lim b).length) 0) 0:=by
 refine⟨by simp,sP _,by decide,fun k hk _=>by simp,?_⟩
 rw[sU];simp
theorem iP.next {a b i j:Nat} {O:List Int} {c:Nat} (h:iP a b i j O c) (hi:i<(lim a).length) (hj:j<(lim b).length) (hk:i+j<O.length):
  0≤(O[i+j]+dg a i*dg b j+c).tdiv 1000000000∧O[i+j]+dg a i*dg b j+c<1000000000000000000∧0≤O[i+j]+dg a i*dg b j+c∧
  iP a b i (j+1) (O.set (i+j) ((O[i+j]+dg a i*dg b j+c).tmod 1000000000)) ((O[i+j]+dg a i*dg b j+c).tdiv 1000000000).toNat:=by
 have h0:=h.dig.at hk
 have hx:=eY a i
 have hy:=eY b j
 have hc:=h.c1
 obtain⟨b1,b2,b3,b4⟩:=Ds (o:=O[i+j]) (n:=dg a i) (m:=dg b j) (c:=c) h0 (by omega) (by omega) (by omega)
 have hs:=H4 hk h.dig h.v (n:=dg a i) (m:=dg b j)
 refine⟨b3,b2,b1,by simp[h.len],h.dig.set ?_,by omega,fun k hk2 hz=> ?_,?_⟩
 ·rw[Int.tmod_eq_emod_of_nonneg b1];omega
 ·rw[List.getElem_set_ne (by omega)]
  exact h.z k (by simpa using hk2) hz
 ·rw[←Nat.add_assoc,hs,eW,Nat.pow_add]
  have e:LB^i*(dg a i*(pv b j+LB^j*dg b j))=LB^i*(dg a i*pv b j)+LB^i*LB^j*(dg a i*dg b j):=by
   rw[Nat.mul_add,Nat.mul_add]
   congr 1
   rw[←Nat.mul_assoc,←Nat.mul_assoc,←Nat.mul_assoc,Nat.mul_assoc (LB^i) (dg a i),Nat.mul_comm (dg a i) (LB^j),←Nat.mul_assoc]
  omega
theorem iP.row {a b i j:Nat} {O:List Int} {c:Nat} (h:iP a b i j O c) (hi:i<(lim a).length) (hj:(lim b).length≤j) (hj2:j≤(lim b).length) (hk:i+(lim b).length<O.length):iP a b (i+1) 0 (O.set (i+(lim b).length) c) 0:=by
 have e:j=(lim b).length:=by omega
 subst e
 have hc:=h.c1
 have hv:=sB hk c
 have hz:=h.z _ hk (Nat.le_refl _)
 refine⟨by simp[h.len],h.dig.set (by omega),by decide,fun k hk2 hz=> ?_,?_⟩
 ·rw[List.getElem_set_ne (by omega)]
  exact h.z k (by simpa using hk2) (by omega)
 ·rw[hz] at hv
  have:=h.v
  rw[fZ (Nat.le_refl _)] at this
  simp at hv ⊢
  rw[hv,eW,Nat.add_mul,Nat.mul_assoc]
  rw[Nat.mul_comm c] at this
  omega
theorem iP.done {a b i:Nat} {O:List Int} {c:Nat} (h:iP a b i 0 O 0) (hi:(lim a).length≤i):val O=a*b:=by
 have:=h.v
 rw[fZ hi] at this
 simpa using this
structure qL (a b i : Nat) (Q : List Int) (r : Nat) : Prop where
 le:i≤(lim a).length
 len:Q.length=(lim a).length - i
 dig:Dig Q
 rlt:r<b
 v:val ((lim a).drop i)=val Q*b+r
theorem qL.start (a b:Nat) (hb:0<b):qL a b (lim a).length [] 0:=⟨Nat.le_refl _,by simp,(fun _ h=>by cases h),hb,by simp[val]⟩
theorem qL.quot {b r d:Nat} (hr:r<b) (hd:d<1000000000):(r*1000000000+d) / b<1000000000:=by
 rw[Nat.div_lt_iff_lt_mul (by omega)]
 have:(r+1)*1000000000≤b*1000000000:=Nat.mul_le_mul_right _ hr
 omega
theorem qL.next {a b i:Nat} {Q:List Int} {r:Nat} (h:qL a b (i+1) Q r) {q r':Nat} (hq:q=(r*1000000000+dg a i) / b) (hr:r'=(r*1000000000+dg a i) % b):qL a b i ((q:Int)::Q) r':=by
 have hl:=h.le
 have hb:0<b:=by have:=h.rlt;omega
 have hd:=eY a i
 have hlt:=qL.quot h.rlt hd
 refine⟨by omega,by simp[h.len];omega,fun d hd=> ?_,?_,?_⟩
 ·rcases List.mem_cons.1 hd with rfl | hd
  ·omega
  ·exact h.dig d hd
 ·subst hr;exact Nat.mod_lt _ hb
 ·rw[List.drop_eq_getElem_cons (by omega),val,val,hH (by omega),h.v]
  simp only[Int.toNat_natCast]
  have:=Eb (Q:=val Q) (A:=val Q*b+r) (r:=r) (b:=b) (a:=dg a i) (L:=LB) rfl hb
  rw[this,hq,hr]
  rfl
theorem qL.done {a b:Nat} {Q:List Int} {r:Nat} (h:qL a b 0 Q r):val Q=a / b∧r=a % b:=by
 have hv:=h.v
 have hr:=h.rlt
 simp at hv
 rw[hv]
 rw[Nat.mul_comm,Nat.mul_add_div (by omega),Nat.div_eq_of_lt hr,Nat.mul_add_mod,Nat.mod_eq_of_lt hr]
 exact⟨rfl,rfl⟩
theorem qX (i:Nat) (q z:Int) (Q:List Int):(List.replicate (i+1) z++Q).set i q=List.replicate i z++q::Q:=by
 rw[List.replicate_succ',List.append_assoc,List.set_append_right _ _ (by simp)]
 simp
theorem Mp (i:Nat) (z:Int) (Q:List Int):List.replicate (i+1) z++Q=List.replicate i z++z::Q:=by
 rw[List.replicate_succ',List.append_assoc];rfl

theorem kM (l:List Int) {k:Nat} (h:k≤l.length):val l=val (l.take k)+LB^k*val (l.drop k):=by
 have:=jM (l.take k) (l.drop k)
 rw[List.take_append_drop,List.length_take,Nat.min_eq_left h] at this
 exact this
theorem oQ {l:List Int} (h:Dig l) {k:Nat} :val (l.take k)<LB^k:=by
 refine Nat.lt_of_lt_of_le (C4 (D5 h k)) (Nat.pow_le_pow_right iQ ?_)
 simp;omega
theorem tM : ∀ {l:List Int} {n:Nat} (h:Dig l) (hv:val l<LB^n) (k:Nat) (hk:k<l.length),n≤k→l[k]=0
 | [], n, _, _, k, hk, _ => by simp at hk
 | d :: l, 0, h, hv, 0, hk, _ => by
   have:=h d List.mem_cons_self
   simp[val] at hv ⊢;omega
 | d :: l, 0, h, hv, k + 1, hk, _ => by
   have h0:val l<LB^0:=by
    simp only[val,Nat.pow_zero] at hv ⊢
    rcases Nat.eq_zero_or_pos (val l) with h | h
    ·omega
    ·have:=Nat.mul_le_mul (Nat.le_of_eq (rfl:LB=LB)) h
     have:LB=1000000000:=rfl
     omega
   simpa using tM h.tail h0 k (by simpa using hk) (Nat.zero_le _)
 | d :: l, n + 1, h, hv, 0, hk, hn => by omega
 | d :: l, n + 1, h, hv, k + 1, hk, hn => by
   have h0:val l<LB^n:=by
    simp only[val,Nat.pow_succ] at hv
    rcases Nat.lt_or_ge (val l) (LB^n) with h | h
    ·exact h
    ·have:=Nat.mul_le_mul_left LB h
     rw[Nat.mul_comm LB (LB^n)] at this
     omega
   simpa using tM h.tail h0 k (by simpa using hk) (by omega)
theorem T1 {l:List Int} {n:Nat} (hz: ∀k (hk:k<l.length),n<k→l[k]=0) (hn:n<l.length):val l=val (l.take n)+LB^n*l[n].toNat:=by
 rw[←kP hn,sN fun i hi h=>hz i hi (by omega)]
structure jN (u : List Int) (V g j i : Nat) (O : List Int) (c : Nat) : Prop where
 len:O.length=u.length
 dig:Dig O
 c1:c<1000000000
 v:val O+LB^j*(g*pv V i)=val u+c*LB^(j+i)
 same: ∀k (h:k<O.length) (h2:k<u.length),k<j∨j+i≤k→O[k]=u[k]
theorem jN.start {u:List Int} (V g j:Nat) (h:Dig u):jN u V g j 0 u 0:=⟨rfl,h,by decide,by simp,fun _ _ _ _=>rfl⟩
theorem jN.acc (V g j i:Nat):LB^j*(g*pv V (i+1))=LB^j*(g*pv V i)+LB^(j+i)*(g*dg V i):=by
 rw[eW,Nat.mul_add,Nat.mul_add,Nat.pow_add]
 congr 1
 rw[←Nat.mul_assoc,←Nat.mul_assoc,←Nat.mul_assoc,Nat.mul_assoc (LB^j) g,Nat.mul_comm g (LB^i),←Nat.mul_assoc]
theorem jN.x {u:List Int} {V g j i:Nat} {O:List Int} {c:Nat} (h:jN u V g j i O c) (hg:g<1000000000) (hk:j+i<O.length):
  0≤(g:Int)*dg V i∧(g:Int)*dg V i≤999999998000000001:=by
 have h2:=eY V i
 refine⟨by rw[←Int.natCast_mul];omega,?_⟩
 have:(g:Int)*dg V i≤999999999*999999999:=Int.mul_le_mul (by omega) (by omega) (by omega) (by omega)
 omega
theorem jN.O6 {u:List Int} {V g j i:Nat} {O:List Int} {c:Nat} (h:jN u V g j i O c) (hg:g<1000000000) (hk:j+i<O.length) {x:Int} (hx:x=O[j+i] - g*dg V i - c) (h0:0≤x):
  jN u V g j (i+1) (O.set (j+i) x) 0:=by
 have ho:=h.dig.at hk
 obtain⟨m0,m1⟩:=h.x hg hk
 refine⟨by simp[h.len],h.dig.set (by omega),by decide,?_,fun k h1 h2 h3=> ?_⟩
 ·rw[jN.acc,←Nat.add_assoc j i 1]
  have:=take_set hk h.dig h.v (m:=g*dg V i) (c':=0) (x:=x) (by rw[hx];simp) h0
  omega
 ·rw[List.getElem_set_ne (by omega)]
  exact h.same k _ h2 (by omega)
theorem jN.Q9 {u:List Int} {V g j i:Nat} {O:List Int} {c:Nat} (h:jN u V g j i O c) (hg:g<1000000000) (hk:j+i<O.length) {x y:Int} (hx:x=O[j+i] - g*dg V i - c) (h0:x<0) (hy:y=(1000000000 - 1 - x).tdiv 1000000000):
  0≤y∧y<1000000000∧jN u V g j (i+1) (O.set (j+i) (x+y*1000000000)) y.toNat:=by
 have ho:=h.dig.at hk
 have hc:=h.c1
 obtain⟨m0,m1⟩:=h.x hg hk
 obtain⟨c1,c2,c3⟩:=Hk (o:=0) h0 hy
 have c4:y<1000000000:=by
  rw[Int.tdiv_eq_ediv_of_nonneg (by omega)] at hy
  omega
 refine⟨c3,c4,by simp[h.len],h.dig.set ⟨c1,c2⟩,by omega,?_,fun k h1 h2 h3=> ?_⟩
 ·rw[jN.acc,←Nat.add_assoc j i 1]
  have:=take_set hk h.dig h.v (m:=g*dg V i) (c':=y.toNat) (x:=x+y*1000000000) (by rw[hx];simp;omega) c1
  omega
 ·rw[List.getElem_set_ne (by omega)]
  exact h.same k _ h2 (by omega)
structure vD (O : List Int) (V j i : Nat) (W : List Int) (c : Nat) : Prop where
 len:W.length=O.length
 dig:Dig W
 c1:c≤1
 v:val W+c*LB^(j+i)=val O+LB^j*pv V i
 same: ∀k (h:k<W.length) (h2:k<O.length),k<j∨j+i≤k→W[k]=O[k]
theorem vD.start {O:List Int} (V j:Nat) (h:Dig O):vD O V j 0 O 0:=⟨rfl,h,by decide,by simp,fun _ _ _ _=>rfl⟩
theorem vD.next {O:List Int} {V j i:Nat} {W:List Int} {c:Nat} (h:vD O V j i W c) (hk:j+i<W.length):
  0≤W[j+i]+dg V i+c∧W[j+i]+dg V i+c<2000000000∧0≤(W[j+i]+dg V i+c).tdiv 1000000000∧
  vD O V j (i+1) (W.set (j+i) ((W[j+i]+dg V i+c).tmod 1000000000)) ((W[j+i]+dg V i+c).tdiv 1000000000).toNat:=by
 have ho:=h.dig.at hk
 have hd:=eY V i
 have hc:=h.c1
 have b1:0≤W[j+i]+dg V i+c:=by omega
 have e2:(W[j+i]+dg V i+c).tdiv 1000000000=(W[j+i]+dg V i+c) / 1000000000:=Int.tdiv_eq_ediv_of_nonneg b1
 have e1:(W[j+i]+dg V i+c).tmod 1000000000=(W[j+i]+dg V i+c) % 1000000000:=Int.tmod_eq_emod_of_nonneg b1
 refine⟨b1,by omega,by omega,by simp[h.len],h.dig.set (by omega),by omega,?_,fun k h1 h2 h3=> ?_⟩
 ·have:=Sg hk h.dig h.v (m:=dg V i)
  rw[←Nat.add_assoc j i 1,this,eW,Nat.mul_add,Nat.pow_add]
  have:LB^j*(LB^i*dg V i)=LB^j*LB^i*dg V i:=(Nat.mul_assoc _ _ _).symm
  omega
 ·rw[List.getElem_set_ne (by omega)]
  exact h.same k _ h2 (by omega)
theorem Fp {u O:List Int} {V g j n c:Nat} (hu:Dig u) (h:jN u V g j n O c) (hn:(lim V).length=n) (hk:j+n<O.length) (hg:g=val (u.drop j) / V∨g=val (u.drop j) / V+1) (hV:0<V) (hc:(c:Int)≤O[j+n]):
  Dig (O.set (j+n) (O[j+n] - c))∧g=val (u.drop j) / V∧val (O.set (j+n) (O[j+n] - c))+LB^j*(val (u.drop j) / V*V)=val u:=by
 have ho:=h.dig.at hk
 have hv:=sB hk (O[j+n] - c)
 have h1:=h.v
 rw[fZ (by omega)] at h1
 have hl:=h.len
 have h2:=kM u (k:=j) (by omega)
 have h3:=oQ hu (k:=j)
 obtain⟨o,ho2⟩: ∃o:Nat,O[j+n]=o:=⟨O[j+n].toNat,by omega⟩
 rw[ho2] at hv hc ⊢
 have e:((o:Int) - c).toNat=o - c:=by omega
 rw[e] at hv
 simp only[Int.toNat_natCast] at hv
 have e2:LB^(j+n)*(o - c)+LB^(j+n)*c=LB^(j+n)*o:=by rw[←Nat.mul_add];congr 1;omega
 have e3:c*LB^(j+n)=LB^(j+n)*c:=Nat.mul_comm _ _
 have h4:val (O.set (j+n) ((o:Int) - c))+LB^j*(g*V)=val u:=by omega
 have h5:g*V≤val (u.drop j):=by
  rcases Nat.lt_or_ge (val (u.drop j)) (g*V) with hh | hh
  ·have:=Nat.mul_le_mul_left (LB^j) (Nat.succ_le_of_lt hh)
   rw[Nat.mul_succ] at this
   omega
  ·exact hh
 have h6:g=val (u.drop j) / V:=by
  have:=(Nat.le_div_iff_mul_le hV).2 h5
  omega
 refine⟨h.dig.set (by rw[ho2] at ho;omega),h6,?_⟩
 rw[←h6];exact h4
theorem Em {u O:List Int} {V g j n c:Nat} (hu:Dig u) (h:jN u V g j n O c) (hn:(lim V).length=n) (hk:j+n<O.length) (hz: ∀k (hk:k<u.length),j+n<k→u[k]=0) (hg:g=val (u.drop j) / V∨g=val (u.drop j) / V+1) (hV:0<V) (hc:O[j+n]<c):
  g=val (u.drop j) / V+1:=by
 have ho:=h.dig.at hk
 have h1:=h.v
 rw[fZ (by omega)] at h1
 have hl:=h.len
 have h2:=kM u (k:=j) (by omega)
 have h3:=T1 (l:=O) (n:=j+n) (fun k hk2 hjk=>by rw[h.same k hk2 (by omega) (by omega)];exact hz k (by omega) hjk) hk
 obtain⟨o,ho2⟩: ∃o:Nat,O[j+n]=o:=⟨O[j+n].toNat,by omega⟩
 rw[ho2] at h3 hc
 simp only[Int.toNat_natCast] at h3
 have h4:=oQ h.dig (k:=j+n)
 rcases hg with hg | hg
 ·exfalso
  have h5:g*V≤val (u.drop j):=by rw[hg];exact Nat.div_mul_le_self _ _
  have h6:=Nat.mul_le_mul_left (LB^j) h5
  have h7:LB^(j+n)*(o+1)≤LB^(j+n)*c:=Nat.mul_le_mul_left _ (by omega)
  rw[Nat.mul_add] at h7
  have e3:c*LB^(j+n)=LB^(j+n)*c:=Nat.mul_comm _ _
  omega
 ·exact hg
theorem Fb {u O W:List Int} {V g j n c d:Nat} (hu:Dig u) (h:jN u V g j n O c) (hw:vD O V j n W d) (hn:(lim V).length=n) (hk:j+n<O.length) (hk2:j+n<W.length) (hz: ∀k (hk:k<u.length),j+n<k→u[k]=0) (hg:g=val (u.drop j) / V+1) (hV:0<V):
  O[j+n] - c+d=0∧Dig (W.set (j+n) 0)∧val (W.set (j+n) 0)+LB^j*(val (u.drop j) / V*V)=val u:=by
 have h1:=h.v
 have h1w:=hw.v
 rw[fZ (by omega)] at h1 h1w
 have hl:=h.len
 have hlw:=hw.len
 have e0:W[j+n]=O[j+n]:=hw.same _ hk2 hk (by omega)
 have ho:=h.dig.at hk
 have h2:=kM u (k:=j) (by omega)
 have h3:=T1 (l:=W) (n:=j+n) (fun k hk2 hjk=>by rw[hw.same k hk2 (by omega) (by omega),h.same k (by omega) (by omega) (by omega)];exact hz k (by omega) hjk) hk2
 have hs:=sB hk2 0
 rw[e0] at h3 hs
 obtain⟨o,ho2⟩: ∃o:Nat,O[j+n]=o:=⟨O[j+n].toNat,by omega⟩
 rw[ho2] at h3 hs ⊢
 simp only[Int.toNat_natCast,Int.toNat_zero,Nat.mul_zero,Nat.add_zero] at h3 hs
 have h4:=oQ hw.dig (k:=j+n)
 have h5:=oQ hu (k:=j)
 have hVn:V<LB^n:=aM.1 (by omega)
 generalize hU:val (u.drop j)=U at *
 have hm:=Nat.div_add_mod U V
 have hlt:=Nat.mod_lt U hV
 have hR:val (u.take j)+LB^j*(U % V)<LB^(j+n):=by
  rw[Nat.pow_add]
  have:LB^j*(U % V+1)≤LB^j*LB^n:=Nat.mul_le_mul_left _ (by omega)
  rw[Nat.mul_add] at this
  omega
 have eU:LB^j*U=LB^j*(U / V*V)+LB^j*(U % V):=by
  rw[←Nat.mul_add,Nat.mul_comm (U / V) V,hm]
 have eg:LB^j*(g*V)=LB^j*(U / V*V)+LB^j*V:=by rw[hg,Nat.add_mul,Nat.one_mul,Nat.mul_add]
 have Ii:val (W.take (j+n))+LB^(j+n)*(o+d)=(val (u.take j)+LB^j*(U % V))+LB^(j+n)*c:=by
  rw[Nat.mul_add,Nat.mul_comm (LB^(j+n)) d,Nat.mul_comm (LB^(j+n)) c]
  omega
 generalize LB^(j+n)=P at *
 have hod:o+d=c:=by
  have a1:=congrArg (fun x=>x / P) Ii
  try simp only at a1
  rw[Nat.add_mul_div_left _ _ (by omega),Nat.add_mul_div_left _ _ (by omega),Nat.div_eq_of_lt h4,Nat.div_eq_of_lt hR] at a1
  omega
 refine⟨by omega,hw.dig.set (by decide),?_⟩
 rw[hod] at Ii
 omega
structure KnI (A V L n j : Nat) (u Q : List Int) : Prop where
 len:u.length=L
 dig:Dig u
 le:j+n≤L
 aBD:Q.length=L - n - j
 aLT:Dig Q
 v:val u+LB^j*(val Q*V)=A
 r:val (u.drop j)<V
theorem KnI.U {A V L n j:Nat} {u Q:List Int} (h:KnI A V L n (j+1) u Q):val (u.drop j)<LB*V:=by
 have hj:j<u.length:=by have:=h.len;have:=h.le;omega
 rw[List.drop_eq_getElem_cons hj,val]
 have:=h.dig.at hj
 have h2:=Nat.mul_le_mul_left LB (Nat.succ_le_of_lt h.r)
 have:LB=1000000000:=rfl
 rw[Nat.mul_succ] at h2
 omega
theorem KnI.zero {A V L n j:Nat} {u Q:List Int} (h:KnI A V L n (j+1) u Q) (hn:(lim V).length=n): ∀k (hk:k<u.length),j+n<k→u[k]=0:=by
 intro k hk hjk
 have hV:V<LB^n:=aM.1 (by omega)
 have:=tM (l:=u.drop (j+1)) (n:=n) (fun d hd=>h.dig d (List.mem_of_mem_drop hd)) (Nat.lt_trans h.r hV) (k - (j+1)) (by simp;omega) (by omega)
 rw[List.getElem_drop] at this
 have e:j+1+(k - (j+1))=k:=by omega
 simpa [e] using this
theorem KnI.next {A V L n j:Nat} {u Q O:List Int} (h:KnI A V L n (j+1) u Q) (hl:O.length=L) (hd:Dig O) (hv:val O+LB^j*(val (u.drop j) / V*V)=val u):KnI A V L n j O ((val (u.drop j) / V:Nat)::Q):=by
 have hU:=h.U
 have hV:0<V:=by have:=h.r;omega
 have hq:val (u.drop j) / V<LB:=by rw[Nat.div_lt_iff_lt_mul hV];exact hU
 have hLB:LB=1000000000:=rfl
 have hle:=h.le
 have hlen:=h.len
 refine⟨hl,hd,by omega,by simp[h.aBD];omega,fun d hd=> ?_,?_,?_⟩
 ·rcases List.mem_cons.1 hd with rfl | hd
  ·rw[hLB] at hq
   generalize val (u.drop j) / V=q at hq ⊢
   omega
  ·exact h.aLT d hd
 ·have:=h.v
  rw[val,Int.toNat_natCast,Nat.add_mul,Nat.mul_add]
  rw[Nat.pow_succ] at this
  have e:LB^j*(LB*val Q*V)=LB^j*LB*(val Q*V):=by rw[Nat.mul_assoc LB,←Nat.mul_assoc]
  omega
 ·have h1:=kM u (k:=j) (by omega)
  have h2:=kM O (k:=j) (by omega)
  have h3:=oQ h.dig (k:=j)
  have h4:=oQ hd (k:=j)
  have hm:=Nat.div_add_mod (val (u.drop j)) V
  have hlt:=Nat.mod_lt (val (u.drop j)) hV
  have eU:LB^j*val (u.drop j)=LB^j*(val (u.drop j) / V*V)+LB^j*(val (u.drop j) % V):=by
   rw[←Nat.mul_add,Nat.mul_comm (val (u.drop j) / V) V,hm]
  have Ii:val (O.take j)+LB^j*val (O.drop j)=val (u.take j)+LB^j*(val (u.drop j) % V):=by omega
  have a1:=congrArg (fun x=>x / LB^j) Ii
  try simp only at a1
  have hP:0<LB^j:=Nat.pow_pos iQ
  rw[Nat.add_mul_div_left _ _ hP,Nat.add_mul_div_left _ _ hP,Nat.div_eq_of_lt h4,Nat.div_eq_of_lt h3] at a1
  omega
theorem KnI.done {A V L n:Nat} {u Q:List Int} (h:KnI A V L n 0 u Q):val Q=A / V∧val u=A % V:=by
 have hv:=h.v
 have hr:=h.r
 simp at hv hr
 rw[←hv,Nat.mul_comm (val Q),Nat.add_comm,Nat.mul_add_div (by omega),Nat.div_eq_of_lt hr,Nat.mul_add_mod,Nat.mod_eq_of_lt hr]
 exact⟨rfl,rfl⟩
theorem aJE {V n:Nat} (hn:(lim V).length=n+2):V=(dg V (n+1)*LB+dg V n)*LB^n+pv V n:=by
 have h1:=eW V n
 have h2:=eW V (n+1)
 have e0:pv V (n+1+1)=V:=fZ (by omega)
 rw[h2,h1,Nat.pow_succ] at e0
 have e1:dg V (n+1)*LB*LB^n=LB^n*LB*dg V (n+1):=by ac_rfl
 have e2:dg V n*LB^n=LB^n*dg V n:=Nat.mul_comm _ _
 rw[Nat.add_mul]
 omega
theorem U1 {V n:Nat} (hn:(lim V).length=n+1):0<dg V n:=by
 have h:n<(lim V).length:=by omega
 have h1:=hH h
 have h2:=Bj V ((lim V)[n]) (by rw[List.getLast?_eq_getElem?,hn];simp[h])
 omega
theorem Wo (x y z T L:Nat):((x*L+y)*L+z)*T=T*L*L*x+T*L*y+T*z:=by
 rw[Nat.add_mul,Nat.add_mul,Nat.add_mul]
 have e1:x*L*L*T=T*L*L*x:=by ac_rfl
 have e2:y*L*T=T*L*y:=by ac_rfl
 rw[e1,e2,Nat.mul_comm z T]
theorem aNP {u:List Int} {n j:Nat} (hu:Dig u) (hz: ∀k (hk:k<u.length),j+(n+2)<k→u[k]=0) (h2:j+(n+2)<u.length) (h1:j+(n+1)<u.length) (h0:j+n<u.length):
  val (u.drop j)=((u[j+(n+2)].toNat*LB+u[j+(n+1)].toNat)*LB+u[j+n].toNat)*LB^n+val ((u.drop j).take n):=by
 have hd:Dig (u.drop j):=fun d hd=>hu d (List.mem_of_mem_drop hd)
 have e:=T1 (l:=u.drop j) (n:=n+2) (fun k hk hlt=>by rw[List.getElem_drop];exact hz _ (by simp at hk;omega) (by omega)) (by simp;omega)
 have e1:=kP (l:=u.drop j) (i:=n+1) (by simp;omega)
 have e0:=kP (l:=u.drop j) (i:=n) (by simp;omega)
 simp only[List.getElem_drop] at e e1 e0
 have p1:LB^(n+1)=LB^n*LB:=Nat.pow_succ ..
 have p2:LB^(n+2)=LB^n*LB*LB:=by rw[Nat.pow_succ,Nat.pow_succ]
 rw[Wo,e,e1,e0,p1,p2]
 omega
theorem KnI.top {A V L n j:Nat} {u Q:List Int} (h:KnI A V L (n+2) (j+1) u Q) (hn:(lim V).length=n+2) (hk:j+(n+2)<u.length):u[j+(n+2)]≤dg V (n+1):=by
 have hz:=h.zero hn
 have hd:Dig (u.drop (j+1)):=fun d hd=>h.dig d (List.mem_of_mem_drop hd)
 have e:=T1 (l:=u.drop (j+1)) (n:=n+1) (fun k hk hlt=>by rw[List.getElem_drop];exact hz _ (by simp at hk;omega) (by omega)) (by simp;omega)
 simp only[List.getElem_drop] at e
 have e9:j+1+(n+1)=j+(n+2):=by omega
 simp only[e9] at e
 have hr:=h.r
 have hV:=eW V (n+1)
 rw[fZ (by omega)] at hV
 have hlt:=Cv V (n+1)
 have ho:=h.dig.at hk
 have h1:LB^(n+1)*u[j+(n+2)].toNat<LB^(n+1)*(dg V (n+1)+1):=by rw[Nat.mul_add];omega
 have:=Nat.lt_of_mul_lt_mul_left h1
 omega
end Go.Proofs.YticmgmemnpcbbaaGreat.Vm

namespace Go.Proofs.YticmgmemnpcbbaaGreat.Vm
open Go Go.Proofs
set_option linter.unusedSimpArgs false
set_option linter.unusedVariables false
theorem bE (a i:Nat) (h:i<(lim a).length):(iv (lim a))[i]? =some [.int .i64 (dg a i:Nat)]:=by rw[eC _ _ h,hH h]
theorem xQ (a b:Int):(a==b)=decide (a=b):=by rw[Bool.eq_iff_iff];simp
theorem Jf (ns:List Int):(iv ns).all (fun c=>1==c.length)=true:=by simp[iv]
theorem zY (ns:List Int) (n:Nat):(iv ns).take n=iv (ns.take n):=by simp[iv,List.map_take]
@[simp high] theorem aHI (P : Program) (t : TypeId) (a b : Int) : binV P .add t (.int .i64 a) (.int .i64 b) = some (.int .i64 (IntKind.i64.wrap (a + b))) := (rfl)
@[simp high] theorem aFK (P : Program) (t : TypeId) (a b : Int) : binV P .sub t (.int .i64 a) (.int .i64 b) = some (.int .i64 (IntKind.i64.wrap (a - b))) := (rfl)
@[simp high] theorem aIU (P : Program) (t : TypeId) (a b : Int) : binV P .mul t (.int .i64 a) (.int .i64 b) = some (.int .i64 (IntKind.i64.wrap (a * b))) := (rfl)
@[simp high] theorem aI0 (P : Program) (t : TypeId) (a b : Int) : binV P .quo t (.int .i64 a) (.int .i64 b) = if b = 0 then none else some (.int .i64 (IntKind.i64.wrap (a.tdiv b))) := (rfl)
@[simp high] theorem aFJ (P : Program) (t : TypeId) (a b : Int) : binV P .rem t (.int .i64 a) (.int .i64 b) = if b = 0 then none else some (.int .i64 (a.tmod b)) := (rfl)
@[simp high] theorem aHU (P : Program) (t : TypeId) (a b : Int) : binV P .eql t (.int .i64 a) (.int .i64 b) = some (.bool (a == b)) := (rfl)
@[simp high] theorem aIS (P : Program) (t : TypeId) (a b : Int) : binV P .neq t (.int .i64 a) (.int .i64 b) = some (.bool (a != b)) := (rfl)
@[simp high] theorem aIM (P : Program) (t : TypeId) (a b : Int) : binV P .lss t (.int .i64 a) (.int .i64 b) = some (.bool (decide (a < b))) := (rfl)
@[simp high] theorem aGW (P : Program) (t : TypeId) (a b : Int) : binV P .leq t (.int .i64 a) (.int .i64 b) = some (.bool (decide (a ≤ b))) := (rfl)
@[simp high] theorem aHJ (P : Program) (t : TypeId) (a b : Int) : binV P .gtr t (.int .i64 a) (.int .i64 b) = some (.bool (decide (b < a))) := (rfl)
@[simp high] theorem aGB (P : Program) (t : TypeId) (a b : Int) : binV P .geq t (.int .i64 a) (.int .i64 b) = some (.bool (decide (b ≤ a))) := (rfl)
theorem mD (a b:Nat) (ha:(lim a).length≤1048576) (hb:(lim b).length≤1048576):RO Tryz.prog 100 [.sl (iv (lim a)),.sl (iv (lim b))] (.int .i64 (jJ a b)):=by
 refine aJ Tryz.func100 rfl rfl (by rw[Tryz.ntmps100];simp) fun bl=> ?_
 rw[Tryz.ntmps100,Tryz.results100]
 refine aC ?_
 simp
 refine⟨fun h=>⟨fun h1=> ?_,fun h1=> ?_⟩,fun h=> ?_⟩
 ·exact aS (by simp[I1 h1]) rfl rfl
 ·exact aS (by simp[D9 (show(lim b).length<(lim a).length by omega)]) rfl rfl
 have h:(lim a).length=(lim b).length:=by omega
 have w0:IntKind.i64.wrap (((lim a).length:Int) - 1)=((lim a).length:Int) - 1:=i64_in (by omega) (by omega)
 simp[w0]
 refine aI (fun k:Nat=> [(0,.sl (iv (lim a))),(1,.sl (iv (lim b))),(5,.int .i64 ((k:Int) - 1))]) (fun _=>bl) (fun k=>k≤(lim a).length∧ ∀j,k≤j→dg a j=dg b j) (fun k=>k) _ (lim a).length ⟨Nat.le_refl _,fun j hj=>by rw[kE hj,kE (by omega)]⟩ ⟨rfl,by simp,Sub.refl _⟩ ?_
 intro k ⟨hk,hc⟩
 refine aC ?_
 simp
 refine⟨fun h1=> ?_,fun h1=> ?_⟩
 ·obtain⟨m,rfl⟩: ∃m,k=m+1:=⟨k - 1,by omega⟩
  have hm:m<(lim a).length:=by omega
  have hm2:m<(lim b).length:=by omega
  have e1:((m+1:Nat):Int) - 1=m:=by omega
  refine cI aL (by kernel_rfl) ?_
  simp[e1,bE _ _ hm,bE _ _ hm2]
  refine⟨fun h2=> ?_,fun h2=> ?_⟩
  ·exact aS (by simp[Og h hm (fun j hj=>hc j (by omega)) h2]) rfl rfl
  refine cI aL (by kernel_rfl) ?_
  simp[e1,bE _ _ hm,bE _ _ hm2]
  refine⟨fun h3=> ?_,fun h3=> ?_⟩
  ·exact aS (by simp[Sh h hm (fun j hj=>hc j (by omega)) h3]) rfl rfl
  have w1:IntKind.i64.wrap ((m:Int) - 1)=(m:Int) - 1:=i64_in (by omega) (by omega)
  simp[w1,aB]
  refine⟨m,⟨by omega,fun j hj=> ?_⟩,by omega,rfl,by simp,Sub.refl _⟩
  rcases Nat.lt_or_ge m j with hlt | hge
  ·exact hc j (by omega)
  ·obtain rfl:j=m:=by omega
   omega
 ·have:k=0:=by omega
  subst this
  exact aS (by simp[Qq h fun j=>hc j (Nat.zero_le _)]) rfl rfl
theorem uW (ns:List Int) (hd:Dig ns) (hn:ns.length≤1048576):RO Tryz.prog 238 [.sl (iv ns)] (.sl (iv (lim (val ns)))):=by
 refine aJ Tryz.func238 rfl rfl (by rw[Tryz.ntmps238];simp) fun bl=> ?_
 rw[Tryz.ntmps238,Tryz.results238]
 refine aC ?_
 simp
 refine aI (fun n:Nat=> [(0,.sl (iv (ns.take n)))]) (fun _=>bl) (fun n=>n≤ns.length∧ ∀i (hi:i<ns.length),n≤i→ns[i]=0) (fun n=>n) _ ns.length ⟨Nat.le_refl _,fun i hi h=>by omega⟩ ⟨rfl,by simp,Sub.refl _⟩ ?_
 intro n ⟨hl,hz⟩
 have hlen:(ns.take n).length=n:=by simp;omega
 refine aC ?_
 simp
 refine bN [(0,.sl (iv (ns.take n)))] _ bl 14 (.bool (decide (0<n)&& decide (ns.getD (n - 1) 1=0))) ⟨rfl,by simp,Sub.refl _⟩ rfl ?_ ?_
 ·simp[hlen]
  refine⟨fun h=> ?_,fun h=>by simp[h]⟩
  have w1:IntKind.i64.wrap ((n:Int) - 1)=((n - 1:Nat):Int):=by rw[i64_in (by omega) (by omega)];omega
  have h2:n - 1<ns.length:=by omega
  have q:(iv (ns.take n))[n - 1]? =some [.int .i64 ns[n - 1]]:=by rw[eC _ _ (by omega)];simp
  simp[w1,h2,h,q,xQ]
 simp
 refine⟨fun h1 h2=> ?_,fun h1=> ?_⟩
 ·have w1:IntKind.i64.wrap ((n:Int) - 1)=((n - 1:Nat):Int):=by rw[i64_in (by omega) (by omega)];omega
  simp[Nat.min_eq_left hl,w1,sliV,Jf,aB]
  refine⟨n - 1,⟨by omega,fun i hi h3=> ?_⟩,by omega,rfl,?_,Sub.refl _⟩
  ·rcases Nat.lt_or_ge i n with h4 | h4
   ·obtain rfl:i=n - 1:=by omega
    simpa [hi] using h2
   ·exact hz i hi h4
  ·simp[zY,List.take_take]
   try (congr 2;omega)
 ·have hz2: ∀i (hi:i<ns.length),n=i+1→ns[i]≠0:=by
   intro i hi e
   subst e
   have:=h1 (by omega)
   simpa [hi] using this
  have:=H9 hd hl hz hz2
  rw[this]
  exact aS (by simp) rfl rfl
theorem pQ {o:List Int} {i k:Nat} (h:o.length=i) (x z:Int):(o++List.replicate (k+1) z).set i x=(o++ [x])++List.replicate k z:=by
 subst h
 rw[List.set_append_right _ _ (Nat.le_refl _),Nat.sub_self,List.replicate_succ,List.set_cons_zero,List.append_assoc];rfl
theorem lQ {o:List Int} {i k:Nat} (h:o.length=i) (z:Int):(iv (o++List.replicate (k+1) z))[i]? =some [.int .i64 z]:=by
 subst h
 rw[eC _ _ (by simp)]
 simp
theorem fI (ns:List Int) (i:Nat) (x:Int):(iv ns).set i [.int .i64 x]=iv (ns.set i x):=by simp[iv,List.map_set]
theorem wq {x n:Int} (h0:0≤x) (h1:x≤9223372036854775807) (hn:0<n):IntKind.i64.wrap (x.tdiv n)=x.tdiv n:=by
 rw[Int.tdiv_eq_ediv_of_nonneg h0]
 have a1:=Int.ediv_nonneg h0 (by omega:0≤n)
 have a2:=Int.ediv_le_self n h0
 exact i64_in (by omega) (by omega)
theorem nH {bl bl':Int→Option Blk} {g:Int} {ns:List Int} {n:Nat} (hg0:0≤g) (hg:bl g=none) (hb:bl' g=some ⟨1,iv ns⟩) (hn:ns.length=n):frzL (dropB bl' bl) 1 [.lsl g 1 0 n]=some [.sl (iv ns)]:=by
 unfold frzL frzL
 rw[dH hg0 hg hb (by simp[hn]) (qF ns)]
theorem Ru {o:List Int} {i:Nat} (h:o.length=i) (x z:Int):(o++ [z]).set i x=o++ [x]:=by
 have:=pQ (k:=0) h x z
 simpa using this
structure PL where
 i:Nat
 o:List Int
 c:Int
theorem Wx (a b:Nat) (ha:(lim a).length≤1048575) (hb:(lim b).length≤1048575):RO Tryz.prog 271 [.sl (iv (lim a)),.sl (iv (lim b))] (.sl (iv (lim (a+b)))):=by
 refine aJ Tryz.func271 rfl rfl (by rw[Tryz.ntmps271];simp) fun bl=> ?_
 rw[Tryz.ntmps271,Tryz.results271]
 refine aE ?_
 simp
 refine gV (fun p:Nat×Nat=> [(0,.sl (iv (lim p.1))),(1,.sl (iv (lim p.2)))]) (fun _=>bl) (fun p=>p.1+p.2=a+b∧(lim p.2).length≤(lim p.1).length∧(lim p.1).length≤1048575) 55 ?_ ?_
 ·refine aC ?_
  simp
  refine⟨fun h=> ?_,fun h=> ?_⟩
  ·rw[aH]
   exact⟨(b,a),⟨Nat.add_comm _ _,by simp only;omega,hb⟩,rfl,by simp,Sub.refl _⟩
  ·rw[aH]
   exact⟨(a,b),⟨rfl,by simp only;omega,ha⟩,rfl,by simp,Sub.refl _⟩
 rintro⟨x,y⟩ ⟨hxy,hle,hx⟩
 simp only at hxy hle hx
 rw[←hxy]
 refine aC ?_
 have w0:IntKind.i64.wrap (((lim x).length:Int)+1)=(lim x).length+1:=i64_in (by omega) (by omega)
 simp[w0]
 refine⟨(lim x).length+1,by simp,by simp,by omega,by unfold maxLen;omega,fun g hg0 hg=> ?_⟩
 have er:List.replicate ((lim x).length+1) [V.int IntKind.i64 0]=iv (List.replicate ((lim x).length+1) 0):=by simp[iv]
 simp[er]
 refine aI (fun p:PL=> [(0,.sl (iv (lim x))),(1,.sl (iv (lim y))),(5,.lsl g 1 0 ((lim x).length+1)),(6,.int .i64 p.c),(20,.sl (iv (lim x))),(21,.int .i64 (lim x).length),(22,.int .i64 p.i)]) (fun p=>upd bl g (some ⟨1,iv (p.o++List.replicate ((lim x).length+1 - p.i) 0)⟩))
  (fun p=>p.i≤(lim x).length∧lC x y p.i p.o p.c) (fun p=>(lim x).length - p.i) _ ⟨0,[],0⟩ ⟨Nat.zero_le _,lC.start x y⟩ ⟨rfl,by simp,sub_eq (by simp)⟩ ?_
 rintro⟨i,o,c⟩ ⟨hi,hI⟩
 simp only at hi hI
 have hb1:=hI.x
 have hd1:=eY x i
 have hd2:=eY y i
 have hc0:=hI.c0
 have hc1:=hI.c1
 obtain⟨k,hk⟩: ∃k,(lim x).length+1 - i=k+1:=⟨(lim x).length - i,by omega⟩
 refine aC ?_
 simp
 refine⟨fun h1=> ?_,fun h1=> ?_⟩
 ·have w1:IntKind.i64.wrap ((dg x i:Int)+c)=dg x i+c:=i64_in (by omega) (by omega)
  have w2:IntKind.i64.wrap ((dg x i:Int)+c+dg y i)=dg x i+c+dg y i:=i64_in (by omega) (by omega)
  have w3:IntKind.i64.wrap ((i:Int)+1)=i+1:=i64_in (by omega) (by omega)
  simp[bE _ _ h1,w1]
  refine⟨fun h2=> ?_,fun h2=> ?_⟩
  ·have w4:=wq (x:=(dg x i:Int)+c+dg y i) (n:=1000000000) (by omega) (by omega) (by omega)
   simp[bE _ _ h2,w2,w3,w4,hk,lQ hI.len]
   refine⟨by omega,?_⟩
   rw[aB]
   refine⟨⟨i+1,o++ [((dg x i:Int)+c+dg y i).tmod 1000000000],((dg x i:Int)+c+dg y i).tdiv 1000000000⟩,⟨by simp only;omega,hI.next (by omega)⟩,by simp only;omega,rfl,by simp,sub_eq ?_⟩
   rw[fI,pQ hI.len]
   have e:(lim x).length+1 - (i+1)=k:=by omega
   simp[e]
  ·have d0:dg y i=0:=kE (by omega)
   have w4:=wq (x:=(dg x i:Int)+c) (n:=1000000000) (by omega) (by omega) (by omega)
   simp[w3,w4,hk,lQ hI.len]
   refine⟨by omega,?_⟩
   rw[aB]
   refine⟨⟨i+1,o++ [((dg x i:Int)+c).tmod 1000000000],((dg x i:Int)+c).tdiv 1000000000⟩,⟨by simp only;omega,hI.next (by omega)⟩,by simp only;omega,rfl,by simp,sub_eq ?_⟩
   rw[fI,pQ hI.len]
   have e:(lim x).length+1 - (i+1)=k:=by omega
   simp[e]
 ·have e:i=(lim x).length:=by omega
  subst e
  obtain⟨hD,hv⟩:=hI.impl (Nat.le_refl _) hle
  simp[hk,lQ hI.len]
  have k0:k=0:=by omega
  subst k0
  have hg':bl g=none:=hg
  simp[fI,Ru hI.len]
  refine⟨by omega,iK 1 bl _ (by simp[hg']) (nH hg0 hg' (by simp) (by simp[hI.len])) (uW _ hD (by simp[hI.len];omega)) ?_⟩
  rw[hv]
  simp
  exact aS (by simp) rfl rfl

theorem Dk {n:Nat} (h:0<n):lim n=((n % 1000000000:Nat):Int)::lim (n / 1000000000):=oV (by omega)
theorem uZ {N:Nat} (h:N≤18446744073709551615):(lim N).length≤3:=aM.2 (Nat.lt_of_le_of_lt h (by decide+kernel))
theorem Hf (N:Nat) (hN:N≤18446744073709551615):NW Tryz.prog 230 [.int .u64 N] (fl 1 (iv (lim N))):=by
 have hL:=uZ hN
 refine fU Tryz.func230 rfl rfl (by rw[Tryz.ntmps230];simp) fun bl=> ?_
 rw[Tryz.ntmps230,Tryz.results230]
 refine aC ?_
 simp
 refine rJ 3 1 (by simp) fun g00 tQ=> ?_
 refine aI (fun p:Int×List Int×Nat=> [(0,.int .u64 p.2.2),(3,.lsl p.1 1 0 p.2.1.length)]) (fun p=>upd bl p.1 (some ⟨1,iv p.2.1⟩)) (fun p=>lim N=p.2.1++lim p.2.2∧p.2.2≤18446744073709551615∧bl p.1=none∧(p.1<0→p.2.1= [])) (fun p=>p.2.2) _ (g00,[],N) ⟨by simp,hN,tQ,fun _=>rfl⟩ ⟨rfl,by simp,sub_eq (by simp[iv])⟩ ?_
 rintro⟨g,o,n⟩ ⟨hl,hn,hg,h0⟩
 simp only at hl hn hg h0
 have hlo:o.length≤3:=by have:=congrArg List.length hl;simp at this;omega
 refine aC ?_
 simp
 refine⟨fun h=> ?_,fun h=> ?_⟩
 ·intro g2 hg2 h2g hb2
  simp[h2g,Ne.symm h2g,appV,elsV,Int.not_lt.2 hg2]
  refine⟨by omega,fun g3 hg3 hb3=> ?_⟩
  have gL:bl g3=none:=by grind
  have m0:(n:Int).tmod 1000000000=((n % 1000000000:Nat):Int):=by rw[Int.tmod_eq_emod_of_nonneg (by omega)];omega
  have q0:(n:Int).tdiv 1000000000=((n / 1000000000:Nat):Int):=by rw[Int.tdiv_eq_ediv_of_nonneg (by omega)];omega
  have w1:IntKind.i64.wrap ((n:Int) % 1000000000)=(n:Int) % 1000000000:=i64_in (by omega) (by omega)
  have w2:IntKind.u64.wrap ((n:Int) / 1000000000)=(n:Int) / 1000000000:=IntWalk.u64_in _ ⟨by omega,by omega⟩
  simp[m0,q0,w1,w2]
  rw[aB]
  refine⟨(g3,o++ [((n % 1000000000:Nat):Int)],n / 1000000000),⟨by rw[hl,Dk h];simp,by simp only;omega,gL,by simp only;omega⟩,by simp only;omega,rfl,by simp,?_⟩
  rw[aZ]
  exact dM (by rw[dZ];simp[iv]) (by simp[hg,hb2,h2g])
 ·have e:n=0:=by omega
  subst e
  rw[aW,List.append_nil] at hl
  refine dI [.lsl g 1 0 o.length] [g] (by simp) ?_ (by simpa using hg) (by simp[hg])
  rw[hl]
  exact dP.2 (.inr ⟨g,rfl,rfl,by simp,h0⟩)
theorem tH (N:Nat) (hN:N≤18446744073709551615):RO Tryz.prog 230 [.int .u64 N] (.sl (iv (lim N))):=by
 have:=gJ 1 (Hf N hN) (iZ _ _ 0)
 simpa using this
structure ML where
 i:Nat
 o:List Int
 br:Nat
theorem Ab (a b:Nat) (hab:b≤a) (ha:(lim a).length≤1048575):RO Tryz.prog 272 [.sl (iv (lim a)),.sl (iv (lim b))] (.sl (iv (lim (a - b)))):=by
 refine aJ Tryz.func272 rfl rfl (by rw[Tryz.ntmps272];simp) fun bl=> ?_
 rw[Tryz.ntmps272,Tryz.results272]
 refine aC ?_
 simp
 refine⟨by omega,by unfold maxLen;omega,fun g hg0 hg=> ?_⟩
 have er:List.replicate ((lim a).length) [V.int IntKind.i64 0]=iv (List.replicate ((lim a).length) 0):=by simp[iv]
 simp[er]
 refine aI (fun p:ML=> [(0,.sl (iv (lim a))),(1,.sl (iv (lim b))),(5,.lsl g 1 0 (lim a).length),(6,.int .i64 p.br),(12,.sl (iv (lim a))),(13,.int .i64 (lim a).length),(14,.int .i64 p.i)]) (fun p=>upd bl g (some ⟨1,iv (p.o++List.replicate ((lim a).length - p.i) 0)⟩))
  (fun p=>p.i≤(lim a).length∧iW a b p.i p.o p.br) (fun p=>(lim a).length - p.i) _ ⟨0,[],0⟩ ⟨Nat.zero_le _,iW.start a b⟩ ⟨rfl,by simp,sub_eq (by simp)⟩ ?_
 rintro⟨i,o,br⟩ ⟨hi,hI⟩
 simp only at hi hI
 have hb1:=hI.x
 have hd1:=eY a i
 have hd2:=eY b i
 have hc1:=hI.c1
 refine aC ?_
 simp
 refine⟨fun h1=> ?_,fun h1=> ?_⟩
 ·obtain⟨k,hk⟩: ∃k,(lim a).length - i=k+1:=⟨(lim a).length - i - 1,by omega⟩
  have e:(lim a).length - (i+1)=k:=by omega
  have w1:IntKind.i64.wrap ((dg a i:Int) - br)=dg a i - br:=i64_in (by omega) (by omega)
  have w2:IntKind.i64.wrap ((dg a i:Int) - br - dg b i)=dg a i - br - dg b i:=i64_in (by omega) (by omega)
  have w3:IntKind.i64.wrap ((i:Int)+1)=i+1:=i64_in (by omega) (by omega)
  simp[bE _ _ h1,w1]
  refine⟨fun h2=> ?_,fun h2=> ?_⟩
  ·simp[bE _ _ h2,w2,w3,hk,lQ hI.len]
   refine⟨fun h3=> ?_,fun h3=> ?_⟩
   ·have w4:IntKind.i64.wrap ((dg a i:Int) - br - dg b i+1000000000)=dg a i - br - dg b i+1000000000:=i64_in (by omega) (by omega)
    simp[w4,w3,h1,hk,lQ hI.len]
    rw[aB]
    refine⟨⟨i+1,o++ [(dg a i:Int) - br - dg b i+1000000000],1⟩,⟨by simp only;omega,hI.Q9 rfl (by omega)⟩,by simp only;omega,rfl,by simp,sub_eq ?_⟩
    rw[fI,pQ hI.len]
    simp[e]
   ·simp[w3,h1,hk,lQ hI.len]
    rw[aB]
    refine⟨⟨i+1,o++ [(dg a i:Int) - br - dg b i],0⟩,⟨by simp only;omega,hI.O6 rfl (by omega)⟩,by simp only;omega,rfl,by simp,sub_eq ?_⟩
    rw[fI,pQ hI.len]
    simp[e]
  ·have d0:dg b i=0:=kE (by omega)
   simp[w3,hk,lQ hI.len]
   refine⟨fun h3=> ?_,fun h3=> ?_⟩
   ·have w4:IntKind.i64.wrap ((dg a i:Int) - br+1000000000)=dg a i - br+1000000000:=i64_in (by omega) (by omega)
    simp[w4,w3,h1,hk,lQ hI.len]
    rw[aB]
    refine⟨⟨i+1,o++ [(dg a i:Int) - br+1000000000],1⟩,⟨by simp only;omega,hI.Q9 (x:=(dg a i:Int) - br) (by omega) (by omega)⟩,by simp only;omega,rfl,by simp,sub_eq ?_⟩
    rw[fI,pQ hI.len]
    simp[e]
   ·simp[w3,h1,hk,lQ hI.len]
    rw[aB]
    refine⟨⟨i+1,o++ [(dg a i:Int) - br],0⟩,⟨by simp only;omega,hI.O6 (x:=(dg a i:Int) - br) (by omega) (by omega)⟩,by simp only;omega,rfl,by simp,sub_eq ?_⟩
    rw[fI,pQ hI.len]
    simp[e]
 ·have e:i=(lim a).length:=by omega
  subst e
  have hv:=hI.done hab (Nat.le_refl _)
  have hg':bl g=none:=hg
  simp
  refine iK 1 bl _ (by simp[hg']) (nH (ns:=o) hg0 hg' (by simp) (by simp[hI.len])) (uW _ hI.dig (by simp[hI.len];omega)) ?_
  simp[hv]
  exact aS (by simp) rfl rfl

theorem Vz {bl:Int→Option Blk} {K:V→(Int→Option Blk)→Prop} (ns:List Int) (hd:Dig ns) (hn:ns.length≤1048576) (g:Int) (hg0:0≤g) (hb:bl g=some ⟨1,iv ns⟩)
  (hK: ∀m,m≤ns.length→ns.take m=lim (val ns)→K (.lsl g 1 0 m) bl):cH Tryz.prog 238 [.lsl g 1 0 ns.length] bl K:=by
 refine cP Tryz.func238 rfl rfl (by rw[Tryz.ntmps238];simp) ?_
 rw[Tryz.ntmps238,Tryz.results238]
 refine aC ?_
 simp
 refine aI (fun n:Nat=> [(0,.lsl g 1 0 n)]) (fun _=>bl) (fun n=>n≤ns.length∧ ∀i (hi:i<ns.length),n≤i→ns[i]=0) (fun n=>n) _ ns.length ⟨Nat.le_refl _,fun i hi h=>by omega⟩ ⟨rfl,by simp,Sub.refl _⟩ ?_
 intro n ⟨hl,hz⟩
 refine aC ?_
 simp
 refine bN [(0,.lsl g 1 0 n)] _ bl 14 (.bool (decide (0<n)&& decide (ns.getD (n - 1) 1=0))) ⟨rfl,by simp,Sub.refl _⟩ rfl ?_ ?_
 ·simp
  refine⟨fun h=> ?_,fun h=>by simp[h]⟩
  have w1:IntKind.i64.wrap ((n:Int) - 1)=((n - 1:Nat):Int):=by rw[i64_in (by omega) (by omega)];omega
  have h2:n - 1<ns.length:=by omega
  simp[w1,h2,h,hb,xQ]
  omega
 simp
 refine⟨fun h1 h2=> ?_,fun h1=> ?_⟩
 ·have w1:IntKind.i64.wrap ((n:Int) - 1)=((n - 1:Nat):Int):=by rw[i64_in (by omega) (by omega)];omega
  simp[w1,sliV,hg0,aB]
  refine⟨n - 1,⟨by omega,fun i hi h3=> ?_⟩,by omega,rfl,?_,Sub.refl _⟩
  ·rcases Nat.lt_or_ge i n with h4 | h4
   ·obtain rfl:i=n - 1:=by omega
    simpa [hi] using h2
   ·exact hz i hi h4
  ·simp
 ·have hz2: ∀i (hi:i<ns.length),n=i+1→ns[i]≠0:=by
   intro i hi e
   subst e
   have:=h1 (by omega)
   simpa [hi] using this
  have:=H9 hd hl hz hz2
  rw[cE]
  exact⟨[_],by simp,hK n hl this⟩
theorem Xh {bl bl':Int→Option Blk} {g:Int} {ns:List Int} {n:Nat} (hg0:0≤g) (hg:bl g=none) (hb:bl' g=some ⟨1,iv ns⟩) (hn:n≤ns.length):frz (dropB bl' bl) 1 (.lsl g 1 0 n)=some (.sl (iv (ns.take n))):=by
 unfold frz
 rw[if_neg (by omega)]
 unfold dropB
 rw[hg]
 simp only[hb]
 rw[if_pos (by simp;exact hn),List.drop_zero,zY,if_pos (qF _)]
structure TL where
 i:Nat
 j:Nat
 O:List Int
 c:Nat
theorem Au {bl:Int→Option Blk} {K:V→(Int→Option Blk)→Prop} (a b:Nat) (ha:(lim a).length≤400000) (hb:(lim b).length≤400000) (ha0:a≠0) (hb0:b≠0)
  (hK: ∀g O,0≤g→bl g=none→(lim (a*b)).length≤O.length→O.take (lim (a*b)).length=lim (a*b)→K (.lsl g 1 0 (lim (a*b)).length) (upd bl g (some ⟨1,iv O⟩))):cH Tryz.prog 228 [.sl (iv (lim a)),.sl (iv (lim b))] bl K:=by
 have la:(lim a).length≠0:=fun h=>ha0 (eV.1 (List.length_eq_zero_iff.1 h))
 have lb:(lim b).length≠0:=fun h=>hb0 (eV.1 (List.length_eq_zero_iff.1 h))
 refine cP Tryz.func228 rfl rfl (by rw[Tryz.ntmps228];simp) ?_
 rw[Tryz.ntmps228,Tryz.results228]
 refine aC ?_
 simp
 refine bN [(0,.sl (iv (lim a))),(1,.sl (iv (lim b)))] _ bl 19 (.bool false) ⟨rfl,by simp,Sub.refl _⟩ rfl ?_ ?_
 ·have na:lim a≠ []:=fun h=>la (by rw[h];rfl)
  have nb:lim b≠ []:=fun h=>lb (by rw[h];rfl)
  simp[na,nb]
 have w0:IntKind.i64.wrap (((lim a).length:Int)+(lim b).length)=(lim a).length+(lim b).length:=i64_in (by omega) (by omega)
 simp[w0]
 refine⟨(lim a).length+(lim b).length,by simp,by simp,by omega,by unfold maxLen;omega,fun g hg0 hg=> ?_⟩
 have er:List.replicate ((lim a).length+(lim b).length) [V.int IntKind.i64 0]=iv (List.replicate ((lim a).length+(lim b).length) 0):=by simp[iv]
 simp[er]
 refine aI (fun p:TL=> [(0,.sl (iv (lim a))),(1,.sl (iv (lim b))),(5,.lsl g 1 0 ((lim a).length+(lim b).length)),(26,.sl (iv (lim a))),(27,.int .i64 (lim a).length),(28,.int .i64 p.i)]) (fun p=>upd bl g (some ⟨1,iv p.O⟩))
  (fun p=>p.i≤(lim a).length∧iP a b p.i 0 p.O 0) (fun p=>(lim a).length - p.i) _ ⟨0,0,_,0⟩ ⟨Nat.zero_le _,iP.start a b⟩ ⟨rfl,by simp,sub_eq (by simp)⟩ ?_
 rintro⟨i,j0,O,c0⟩ ⟨hi,hI⟩
 simp only at hi hI
 refine aC ?_
 simp
 refine⟨fun h1=> ?_,fun h1=> ?_⟩
 ·simp[bE _ _ h1]
  refine aI (fun p:TL=> [(0,.sl (iv (lim a))),(1,.sl (iv (lim b))),(5,.lsl g 1 0 ((lim a).length+(lim b).length)),(6,.int .i64 i),(7,.int .i64 (dg a i:Nat)),(8,.int .i64 p.c),(26,.sl (iv (lim a))),(27,.int .i64 (lim a).length),(28,.int .i64 i),(33,.sl (iv (lim b))),(34,.int .i64 (lim b).length),(35,.int .i64 p.j)]) (fun p=>upd bl g (some ⟨1,iv p.O⟩))
   (fun p=>p.j≤(lim b).length∧iP a b i p.j p.O p.c) (fun p=>(lim b).length - p.j) _ ⟨i,0,O,0⟩ ⟨Nat.zero_le _,hI⟩ ⟨rfl,by simp,sub_eq (by simp)⟩ ?_
  rintro⟨i',j,O,c⟩ ⟨hj,hJ⟩
  simp only at hj hJ
  have hlen:=hJ.len
  refine aC ?_
  simp
  refine⟨fun h2=> ?_,fun h2=> ?_⟩
  ·have hk:i+j<O.length:=by omega
   obtain⟨n1,n2,n3,hN⟩:=hJ.next h1 h2 hk
   have w1:IntKind.i64.wrap ((i:Int)+j)=(i:Int)+j:=i64_in (by omega) (by omega)
   have p1:0≤(i:Int)+j:=by omega
   have p2:(i:Int)+j<(lim a).length+(lim b).length:=by omega
   have p3:((i:Int)+j).toNat=i+j:=by omega
   have w3:IntKind.i64.wrap ((j:Int)+1)=j+1:=i64_in (by omega) (by omega)
   have hm:0≤(dg a i:Int)*dg b j∧(dg a i:Int)*dg b j<1000000000000000000:=by
    have hO:=hJ.dig.at hk
    have e:0≤(dg a i:Int)*dg b j:=by rw[←Int.natCast_mul];omega
    exact⟨e,by omega⟩
   have hO:=hJ.dig.at hk
   have w4:IntKind.i64.wrap ((dg a i:Int)*dg b j)=(dg a i:Int)*dg b j:=i64_in (by omega) (by omega)
   have w5:IntKind.i64.wrap (O[i+j]+(dg a i:Int)*dg b j)=O[i+j]+(dg a i:Int)*dg b j:=i64_in (by omega) (by omega)
   have w6:IntKind.i64.wrap (O[i+j]+(dg a i:Int)*dg b j+c)=O[i+j]+(dg a i:Int)*dg b j+c:=i64_in (by omega) (by omega)
   have w7:=wq (x:=O[i+j]+(dg a i:Int)*dg b j+c) (n:=1000000000) n3 (by omega) (by omega)
   simp[bE _ _ h2,w1,w3,w4,w5,w6,w7,p1,p2,p3,hk]
   rw[aB]
   obtain⟨c',hc'⟩: ∃c':Nat,(O[i+j]+(dg a i:Int)*dg b j+c).tdiv 1000000000=c':=⟨((O[i+j]+(dg a i:Int)*dg b j+c).tdiv 1000000000).toNat,by omega⟩
   refine⟨⟨i,j+1,O.set (i+j) ((O[i+j]+(dg a i:Int)*dg b j+c).tmod 1000000000),c'⟩,⟨by simp only;omega,?_⟩,by simp only;omega,rfl,by simp[hc'],sub_eq ?_⟩
   ·rw[hc'] at hN;exact hN
   ·rw[fI]
  ·have e:j=(lim b).length:=by omega
   have hk:i+(lim b).length<O.length:=by omega
   have hR:=hJ.row h1 (by omega) hj hk
   have w1:IntKind.i64.wrap ((i:Int)+(lim b).length)=(i:Int)+(lim b).length:=i64_in (by omega) (by omega)
   have p1:0≤(i:Int)+(lim b).length:=by omega
   have p2:(i:Int)+(lim b).length<(lim a).length+(lim b).length:=by omega
   have p3:((i:Int)+(lim b).length).toNat=i+(lim b).length:=by omega
   have w3:IntKind.i64.wrap ((i:Int)+1)=i+1:=i64_in (by omega) (by omega)
   simp[w1,w3,p1,p2,p3,hk]
   rw[aB]
   refine⟨⟨i+1,0,O.set (i+(lim b).length) c,0⟩,⟨by simp only;omega,hR⟩,by simp only;omega,rfl,by simp,sub_eq ?_⟩
   rw[fI]
 ·have hv:=hI.done (c:=0) (by omega)
  have hlen:=hI.len
  have hg':bl g=none:=by simpa using hg
  have e:((lim a).length+(lim b).length:Nat)=O.length:=hlen.symm
  rw[e]
  refine Vz O hI.dig (by omega) g hg0 (by simp) fun m hm ht=> ?_
  rw[hv] at ht
  have hml:m=(lim (a*b)).length:=by rw[←ht];simp;omega
  subst hml
  simp
  rw[cE]
  exact⟨[_],by simp,hK g O hg0 hg' hm ht⟩
theorem qR (a b:Nat) (ha:(lim a).length≤400000) (hb:(lim b).length≤400000):RO Tryz.prog 228 [.sl (iv (lim a)),.sl (iv (lim b))] (.sl (iv (lim (a*b)))):=by
 by_cases h0:a=0∨b=0
 ·have hz:a*b=0:=Nat.mul_eq_zero.2 h0
  rw[hz,aW]
  refine aJ Tryz.func228 rfl rfl (by rw[Tryz.ntmps228];simp) fun bl=> ?_
  rw[Tryz.ntmps228,Tryz.results228]
  refine aC ?_
  simp
  refine bN [(0,.sl (iv (lim a))),(1,.sl (iv (lim b)))] _ bl 19 (.bool true) ⟨rfl,by simp,Sub.refl _⟩ rfl ?_ ?_
  ·simp
   rcases h0 with h0 | h0
   ·simp[h0,aW]
   ·simp[h0,aW]
  simp
  exact aK [.nils] 0 (by simp) rfl (Sub.refl _)
 ·intro bl
  refine wD (Au a b ha hb (by omega) (by omega) fun g O hg0 hg hl ht=>⟨1,?_,by simp[hg]⟩) ⟨rfl,rfl⟩
  have:=Xh (bl':=upd bl g (some ⟨1,iv O⟩)) hg0 hg (by simp) hl
  rw[ht] at this
  exact this
structure SL where
 i:Nat
 Q:List Int
 r:Int
theorem uQ (a b:Nat) (ha:(lim a).length≤1048576) (hb0:0<b) (hb:b<1000000000):RO Tryz.prog 235 [.sl (iv (lim a)),.int .i64 b] (.tup [.sl (iv (lim (a / b))),.int .i64 (a % b:Nat)]):=by
 refine aJ Tryz.func235 rfl rfl (by rw[Tryz.ntmps235];simp) fun bl=> ?_
 rw[Tryz.ntmps235,Tryz.results235]
 refine aC ?_
 simp
 refine⟨by omega,by unfold maxLen;omega,fun g hg0 hg=> ?_⟩
 have er:List.replicate ((lim a).length) [V.int IntKind.i64 0]=iv (List.replicate ((lim a).length) 0):=by simp[iv]
 have w0:IntKind.i64.wrap (((lim a).length:Int) - 1)=((lim a).length:Int) - 1:=i64_in (by omega) (by omega)
 simp[er,w0]
 refine aI (fun p:SL=> [(0,.sl (iv (lim a))),(1,.int .i64 b),(6,.lsl g 1 0 (lim a).length),(7,.int .i64 p.r),(8,.int .i64 ((p.i:Int) - 1))]) (fun p=>upd bl g (some ⟨1,iv (List.replicate p.i 0++p.Q)⟩))
  (fun p=>0≤p.r∧qL a b p.i p.Q p.r.toNat) (fun p=>p.i) _ ⟨(lim a).length,[],0⟩ ⟨Int.le_refl _,qL.start a b hb0⟩ ⟨rfl,by simp,sub_eq (by simp)⟩ ?_
 rintro⟨i,Q,r⟩ ⟨hr0,hI⟩
 simp only at hr0 hI
 have hr:=hI.rlt
 have hle:=hI.le
 have hql:=hI.len
 refine aC ?_
 simp[-binV, -intV]
 refine⟨fun h1=> ?_,fun h1=> ?_⟩
 ·obtain⟨m,rfl⟩: ∃m,i=m+1:=⟨i - 1,by omega⟩
  have hm:m<(lim a).length:=by omega
  have hd:=eY a m
  obtain⟨z,hz⟩: ∃z,z=r.toNat*1000000000+dg a m:=⟨_,rfl⟩
  have hN:=hI.next (q:=z / b) (r':=z % b) (by rw[hz]) (by rw[hz])
  have e1:((m+1:Nat):Int) - 1=m:=by omega
  have w1:IntKind.i64.wrap (r*1000000000)=r*1000000000:=i64_in (by omega) (by omega)
  have w2:IntKind.i64.wrap (r*1000000000+dg a m)=z:=by rw[i64_in (by omega) (by omega)];omega
  have hz2:z≤9223372036854775807:=by omega
  simp[-binV, -intV,e1,bE _ _ hm,w1,w2]
  clear w1 w2 hz
  have b0: ¬ b=0:=by omega
  have hg':bl g=none:=by simpa using hg
  have w3:=wq (x:=(z:Int)) (n:=b) (by omega) (by omega) (by omega)
  have w4:(z:Int).tdiv b=(z / b:Nat):=by rw[Int.tdiv_eq_ediv_of_nonneg (by omega)];simp
  have w5:(z:Int).tmod b=(z % b:Nat):=by rw[Int.tmod_eq_emod_of_nonneg (by omega)];simp
  rw[w4] at w3
  have w3':IntKind.i64.wrap ((z:Int) / b)=(z:Int) / b:=by simpa using w3
  refine⟨by omega,aY aL bl (by simp[hg']) [0,1,2,3,4,5,6,7,8] 2 (by kernel_rfl) ?_⟩
  simp[-binV, -intV,w3',w4,w5,hm,b0]
  have q:(iv (List.replicate (m+1) 0++Q))[m]? =some [.int .i64 0]:=by rw[eC _ _ (by simp;omega)];simp
  have w6:IntKind.i64.wrap ((m:Int) - 1)=(m:Int) - 1:=i64_in (by omega) (by omega)
  refine Dz 9 ?_
  simp[-binV, -intV,q,hg']
  refine Dz 10 ?_
  simp[-binV, -intV,hg']
  refine Dy ?_
  simp[-binV, -intV,w6,aB]
  refine⟨⟨m,((z / b:Nat):Int)::Q,(z % b:Nat)⟩,⟨by simp only;omega,by show qL a b m _ (((z % b:Nat):Int)).toNat;rw[Int.toNat_natCast];exact hN⟩,by simp only;omega,rfl,by simp,sub_eq ?_⟩
  rw[←qX m _ 0 Q,←fI]
  simp
 ·have e:i=0:=by omega
  subst e
  obtain⟨h2,h3⟩:=hI.done
  have h4:r=(a % b:Nat):=by omega
  have hg':bl g=none:=by simpa using hg
  simp
  refine iK 1 bl _ (by simp[hg']) (nH (ns:=Q) hg0 hg' (by simp) (by simp[hql])) (uW _ hI.dig (by omega)) ?_
  simp[h2,h4]
  exact aK [.sl (iv (lim (a / b))),.int .i64 (a % b:Nat)] 1 (by simp) rfl (by simp)

structure KL where
 i:Nat
 O:List Int
 c:Int
theorem Xj {bl:Int→Option Blk} {K:V→(Int→Option Blk)→Prop} (u:List Int) (V0 g j n m:Nat) (gu:Int) (hgu:0≤gu) (hb:bl gu=some ⟨1,iv u⟩) (hu:Dig u) (hn:(lim V0).length=n) (hm:j+m=u.length) (hnm:n<m) (hg:g<1000000000) (hul:u.length≤1048576)
  (hK: ∀(O:List Int) (c:Nat) (hk:j+n<O.length),jN u V0 g j n O c→K (.bool (decide (O[j+n] - c<0))) (upd bl gu (some ⟨1,iv (O.set (j+n) (O[j+n] - c))⟩))):
  cH Tryz.prog 236 [.lsl gu 1 j m,.sl (iv (lim V0)),.int .i64 g] bl K:=by
 have hu0:upd bl gu (some ⟨1,iv u⟩)=bl:=by
  funext x;simp only[aA];split
  ·rename_i h;rw[h,hb]
  ·rfl
 refine cP Tryz.func236 rfl rfl (by rw[Tryz.ntmps236];simp) ?_
 rw[Tryz.ntmps236,Tryz.results236]
 refine aC ?_
 simp[hn]
 refine aI (fun p:KL=> [(0,.lsl gu 1 j m),(1,.sl (iv (lim V0))),(2,.int .i64 g),(7,.int .i64 p.c),(11,.sl (iv (lim V0))),(12,.int .i64 n),(13,.int .i64 p.i)]) (fun p=>upd bl gu (some ⟨1,iv p.O⟩))
  (fun p=>p.i≤n∧0≤p.c∧jN u V0 g j p.i p.O p.c.toNat) (fun p=>n - p.i) _ ⟨0,u,0⟩ ⟨Nat.zero_le _,Int.le_refl _,jN.start V0 g j hu⟩ ⟨rfl,by simp,sub_eq (by rw[hu0])⟩ ?_
 rintro⟨i,O,c⟩ ⟨hi,hc0,hI⟩
 simp only at hi hc0 hI
 have hc1:=hI.c1
 have hlen:=hI.len
 refine aC ?_
 simp[-binV, -intV]
 refine⟨fun h1=> ?_,fun h1=> ?_⟩
 ·have hv:i<(lim V0).length:=by omega
  have hk:j+i<O.length:=by omega
  have hO:=hI.dig.at hk
  obtain⟨m0,m1⟩:=hI.x hg hk
  have w3:IntKind.i64.wrap ((i:Int)+1)=i+1:=i64_in (by omega) (by omega)
  have w1:IntKind.i64.wrap ((g:Int)*dg V0 i)=(g:Int)*dg V0 i:=i64_in (by omega) (by omega)
  have w2:IntKind.i64.wrap (O[j+i] - (g:Int)*dg V0 i)=O[j+i] - (g:Int)*dg V0 i:=i64_in (by omega) (by omega)
  have w4:IntKind.i64.wrap (O[j+i] - (g:Int)*dg V0 i - c)=O[j+i] - (g:Int)*dg V0 i - c:=i64_in (by omega) (by omega)
  have him:(i:Int)<m:=by omega
  obtain⟨x,hx⟩: ∃x,x=O[j+i] - (g:Int)*dg V0 i - c:=⟨_,rfl⟩
  have hx':x=O[j+i] - (g:Int)*dg V0 i - (c.toNat:Int):=by rw[hx];omega
  have wx:IntKind.i64.wrap x=x:=i64_in (by omega) (by omega)
  have w5:IntKind.i64.wrap (999999999 - x)=999999999 - x:=i64_in (by omega) (by omega)
  have key:x<0→0≤(999999999 - x).tdiv 1000000000∧(999999999 - x).tdiv 1000000000<1000000000∧jN u V0 g j (i+1) (O.set (j+i) (x+(999999999 - x).tdiv 1000000000*1000000000)) ((999999999 - x).tdiv 1000000000).toNat:=fun h=>hI.Q9 hg hk hx' h (by simp)
  obtain⟨y,hy⟩: ∃y,y=(999999999 - x).tdiv 1000000000:=⟨_,rfl⟩
  rw[←hy] at key
  simp[-binV, -intV,bE _ _ hv,w1,w2,w4,hk,him,←hx,wx,w3,w5,←hy]
  refine⟨fun h3=> ?_,fun h3=> ?_⟩
  ·obtain⟨k1,k2,k3⟩:=key h3
   have w6:IntKind.i64.wrap y=y:=i64_in (by omega) (by omega)
   have w7:IntKind.i64.wrap (y*1000000000)=y*1000000000:=i64_in (by omega) (by omega)
   have w8:IntKind.i64.wrap (x+y*1000000000)=x+y*1000000000:=by
    have:=k3.dig.at (k:=j+i) (by simpa using hk)
    rw[List.getElem_set_self] at this
    exact i64_in (by omega) (by omega)
   simp[-binV, -intV,w6,w7,w8]
   rw[aB]
   refine⟨⟨i+1,O.set (j+i) (x+y*1000000000),y⟩,⟨by simp only;omega,k1,k3⟩,by simp only;omega,rfl,by simp,sub_eq ?_⟩
   rw[fI]
  ·rw[aB]
   refine⟨⟨i+1,O.set (j+i) x,0⟩,⟨by simp only;omega,Int.le_refl _,hI.O6 hg hk hx' (by omega)⟩,by simp only;omega,rfl,by simp,sub_eq ?_⟩
   rw[fI]
 ·have e:i=n:=by omega
  subst e
  have hk:j+i<O.length:=by omega
  have hO:=hI.dig.at hk
  obtain⟨c',rfl⟩: ∃c':Nat,c=c':=⟨c.toNat,by omega⟩
  have w1:IntKind.i64.wrap (O[j+i] - (c':Int))=O[j+i] - (c':Int):=i64_in (by omega) (by omega)
  have him:(i:Int)<m:=by omega
  simp[-binV, -intV,hn,him,hk,w1]
  refine⟨hnm,?_⟩
  rw[cE]
  refine⟨[.bool (decide (O[j+i] - (c':Int)<0))],by simp,?_⟩
  have:=hK O c' hk (by simpa using hI)
  rw[←fI] at this
  exact this
theorem Xr {bl:Int→Option Blk} {K:V→(Int→Option Blk)→Prop} (O:List Int) (t:Int) (V0 j n m:Nat) (gu:Int) (hgu:0≤gu) (hk:j+n<O.length) (hb:bl gu=some ⟨1,iv (O.set (j+n) t)⟩) (hO:Dig O) (hn:(lim V0).length=n) (hm:j+m=O.length) (ht: -1000000000≤t∧t≤1000000000) (hul:O.length≤1048576)
  (hK: ∀(v:V) (W:List Int) (d:Nat) (hk2:j+n<W.length),vD O V0 j n W d→K v (upd bl gu (some ⟨1,iv (W.set (j+n) (t+d))⟩))):
  cH Tryz.prog 237 [.lsl gu 1 j m,.sl (iv (lim V0))] bl K:=by
 have hu0:upd bl gu (some ⟨1,iv (O.set (j+n) t)⟩)=bl:=by
  funext x;simp only[aA];split
  ·rename_i h;rw[h,hb]
  ·rfl
 refine cP Tryz.func237 rfl rfl (by rw[Tryz.ntmps237];simp) ?_
 rw[Tryz.ntmps237,Tryz.results237]
 refine aC ?_
 simp[hn]
 refine aI (fun p:KL=> [(0,.lsl gu 1 j m),(1,.sl (iv (lim V0))),(4,.int .i64 p.c),(8,.sl (iv (lim V0))),(9,.int .i64 n),(10,.int .i64 p.i)]) (fun p=>upd bl gu (some ⟨1,iv (p.O.set (j+n) t)⟩))
  (fun p=>p.i≤n∧0≤p.c∧vD O V0 j p.i p.O p.c.toNat) (fun p=>n - p.i) _ ⟨0,O,0⟩ ⟨Nat.zero_le _,Int.le_refl _,vD.start V0 j hO⟩ ⟨rfl,by simp,sub_eq (by rw[hu0])⟩ ?_
 rintro⟨i,W,c⟩ ⟨hi,hc0,hI⟩
 simp only at hi hc0 hI
 have hc1:=hI.c1
 have hlen:=hI.len
 refine aC ?_
 simp
 refine⟨fun h1=> ?_,fun h1=> ?_⟩
 ·have hv:i<(lim V0).length:=by omega
  have hki:j+i<W.length:=by omega
  have hne:j+n≠j+i:=by omega
  have hd:=eY V0 i
  have hW:=hI.dig.at hki
  obtain⟨n1,n2,n3,hN⟩:=hI.next hki
  have ec:((c.toNat:Nat):Int)=c:=by omega
  rw[ec] at n1 n2 n3 hN
  have q:(iv (W.set (j+n) t))[j+i]? =some [.int .i64 W[j+i]]:=by rw[eC _ _ (by simpa using hki),List.getElem_set_ne hne]
  have w3:IntKind.i64.wrap ((i:Int)+1)=i+1:=i64_in (by omega) (by omega)
  have w1:IntKind.i64.wrap (W[j+i]+(dg V0 i:Int))=W[j+i]+(dg V0 i:Int):=i64_in (by omega) (by omega)
  have w2:IntKind.i64.wrap (W[j+i]+(dg V0 i:Int)+c)=W[j+i]+(dg V0 i:Int)+c:=i64_in (by omega) (by omega)
  have w4:=wq (x:=W[j+i]+(dg V0 i:Int)+c) (n:=1000000000) n1 (by omega) (by omega)
  have him:(i:Int)<m:=by omega
  simp[-eC,bE _ _ hv,q,w1,w2,w3,w4,him]
  rw[aB]
  refine⟨⟨i+1,W.set (j+i) ((W[j+i]+(dg V0 i:Int)+c).tmod 1000000000),(W[j+i]+(dg V0 i:Int)+c).tdiv 1000000000⟩,⟨by simp only;omega,n3,hN⟩,by simp only;omega,rfl,by simp,sub_eq ?_⟩
  rw[fI,List.set_comm _ _ hne]
 ·have e:i=n:=by omega
  subst e
  have hki:j+i<W.length:=by omega
  obtain⟨c',rfl⟩: ∃c':Nat,c=c':=⟨c.toNat,by omega⟩
  have w1:IntKind.i64.wrap (t+(c':Int))=t+(c':Int):=i64_in (by omega) (by omega)
  have him:(i:Int)<m:=by omega
  have q:(iv (W.set (j+i) t))[j+i]? =some [.int .i64 t]:=by rw[eC _ _ (by simpa using hki),List.getElem_set_self]
  simp[-eC,hn,him,hki,q,w1]
  refine⟨by omega,?_⟩
  rw[lE]
  refine⟨[],rfl,?_⟩
  have:=hK (retV []) W c' hki (by simpa using hI)
  rw[fI,List.set_set]
  exact this

theorem Jo {a b:Nat} :jJ a b<0 ↔ a<b:=by unfold jJ;split<;>(try split)<;>omega
theorem Vg {b:Nat} (h:(lim b).length=1):dg b 0=b∧b<1000000000∧0<b:=by
 have h1:=eW b 0
 rw[fZ (by omega)] at h1
 have h2:=eY b 0
 have h3:b≠0:=fun h0=>by rw[h0,aW] at h;simp at h
 simp at h1
 omega
theorem aCA {d:Nat} (h0:0<d) (h1:d<1000000000):1≤1000000000 / (d+1)∧1000000000 / (d+1)<1000000000∧1000000000 / (d+1)*(d+1)≤1000000000:=by
 refine⟨?_,?_,Nat.div_mul_le_self _ _⟩
 ·rw[Nat.le_div_iff_mul_le (by omega)];omega
 ·exact Nat.div_lt_self (by omega) (by omega)
theorem Iu {f:Nat} (h0:0<f) (h1:f<1000000000):lim f= [(f:Int)]:=by
 rw[oV (by omega),show f / LB=0 from Nat.div_eq_of_lt h1,aW,show f % LB=f from Nat.mod_eq_of_lt h1]
theorem aE7 {b f n:Nat} (hn:(lim b).length=n+1) (hf:f*(dg b n+1)≤LB) (hf0:0<f):(lim (b*f)).length=n+1:=by
 have h1:=cJ (a:=b) (b:=b*f) (Nat.le_mul_of_pos_right _ hf0)
 have h2:(lim (b*f)).length≤n+1:=by
  refine aM.2 ?_
  have e:=eW b n
  rw[fZ (by omega)] at e
  have hl:=Cv b n
  have h3:b+1≤LB^n*(dg b n+1):=by rw[Nat.mul_add];omega
  have h4:(b+1)*f≤LB^n*(dg b n+1)*f:=Nat.mul_le_mul_right _ h3
  have h5:LB^n*(dg b n+1)*f≤LB^n*LB:=by
   rw[Nat.mul_assoc,Nat.mul_comm (dg b n+1)];exact Nat.mul_le_mul_left _ hf
  rw[Nat.pow_succ]
  rw[Nat.add_mul,Nat.one_mul] at h4
  omega
 omega
theorem KnI.start {a b f k n:Nat} (hn:(lim b).length=n) (hf:0<f) (hb:0<b) (hL:(lim a).length+1≤(lim (a*f)).length+k) (hnL:n≤(lim a).length):
  KnI (a*f) (b*f) ((lim (a*f)).length+k) n ((lim (a*f)).length+k - n) (lim (a*f)++List.replicate k 0) []:=by
 have hd:Dig (lim (a*f)++List.replicate k 0):=Dig.append.2 ⟨gY _,sP k⟩
 have hv:val (lim (a*f)++List.replicate k 0)=a*f:=by rw[jM,sU,fG];simp
 refine⟨by simp,hd,by omega,by simp,(fun _ h=>by cases h),by rw[hv];simp[val],?_⟩
 generalize hj:(lim (a*f)).length+k - n=j
 have hs:=kM (lim (a*f)++List.replicate k 0) (k:=j) (by simp;omega)
 rw[hv] at hs
 generalize val ((lim (a*f)++List.replicate k 0).drop j)=x at hs ⊢
 rcases Nat.lt_or_ge x (b*f) with h | h
 ·exact h
 exfalso
 have h1:LB^j*(b*f)≤a*f:=by
  have:=Nat.mul_le_mul_left (LB^j) h
  omega
 have h2:LB^j*b≤a:=by
  rw[←Nat.mul_assoc] at h1
  exact Nat.le_of_mul_le_mul_right h1 hf
 have h3:=rE (n:=b) (by omega)
 have h4:LB^j*LB^((lim b).length - 1)≤LB^j*b:=Nat.mul_le_mul_left _ h3
 rw[←Nat.pow_add] at h4
 have h5:a<LB^(lim a).length:=aM.1 (Nat.le_refl _)
 have hb1:(lim b).length≠0:=fun h0=>by have:=eV.1 (List.length_eq_zero_iff.1 h0);omega
 have h6:LB^(lim a).length≤LB^(j+((lim b).length - 1)):=Nat.pow_le_pow_right iQ (by omega)
 omega
theorem Hj {a b f:Nat} (hf:0<f):a*f / (b*f)=a / b∧a*f % (b*f)=a % b*f:=⟨Nat.mul_div_mul_right _ _ hf,Nat.mul_mod_mul_right _ _ _⟩
structure GC (U V top t1 v1 v2 T ul vl : Nat) : Prop where
 hu:U=(top*LB+t1)*T+ul
 hv:V=(v1*LB+v2)*T+vl
 hul:ul<T
 hvl:vl<T
 hv1:0<v1
 hv2:v2<LB
 aN6:v1<LB
 ht1:t1<LB
 vS:top≤v1*LB+(LB - 1)
 hlt:U<LB*V
theorem GC.V0 {U V top t1 v1 v2 T ul vl:Nat} (h:GC U V top t1 v1 v2 T ul vl):0<V:=by
 rw[h.hv]
 have:=h.hvl
 have h0:0<v1*LB+v2:=by have:=Nat.mul_pos h.hv1 iQ;omega
 have h1:=Nat.mul_pos h0 (show 0<T by omega)
 omega
structure GI (U V top v1 g r : Nat) : Prop where
 eq:top=g*v1+r
 lt:r<LB
 le:U / V≤g
theorem GC.start {U V top t1 v1 v2 T ul vl:Nat} (h:GC U V top t1 v1 v2 T ul vl):GI U V top v1 (top / v1) (top % v1):=by
 refine⟨by rw[Nat.mul_comm];exact(Nat.div_add_mod _ _).symm,Nat.lt_trans (Nat.mod_lt _ h.hv1) h.aN6,?_⟩
 have e1:U=top*(LB*T)+(t1*T+ul):=by rw[h.hu,Nat.add_mul,Nat.mul_assoc,Nat.add_assoc]
 have e2:V=v1*(LB*T)+(v2*T+vl):=by rw[h.hv,Nat.add_mul,Nat.mul_assoc,Nat.add_assoc]
 rw[e1,e2]
 refine Bi ?_ h.hv1
 have h1:(t1+1)*T≤LB*T:=Nat.mul_le_mul_right _ h.ht1
 rw[Nat.add_mul] at h1
 have:=h.hul
 omega
theorem GC.dec {U V top t1 v1 v2 T ul vl g r:Nat} (h:GC U V top t1 v1 v2 T ul vl) (hI:GI U V top v1 g r) (hc:LB≤g∨r*LB+t1<g*v2):0<g∧U / V≤g - 1∧top=(g - 1)*v1+(r+v1):=by
 have h1:U / V<g:=by
  rcases hc with hc | hc
  ·exact Gb h.V0 h.hlt hc
  ·have h2:=(F3 (v2:=v2) (u:=t1) hI.eq).1 hc
   rw[h.hu,h.hv]
   exact Jy (by have:=h.hul;omega) h.hul (by have:=Nat.mul_pos h.hv1 iQ;omega) h2
 generalize U / V=q at h1 ⊢
 refine⟨by omega,by omega,?_⟩
 obtain⟨k,rfl⟩: ∃k,g=k+1:=⟨g - 1,by omega⟩
 have:=hI.eq
 rw[Nat.add_mul] at this
 rw[Nat.add_sub_cancel]
 omega
theorem GC.done {U V top t1 v1 v2 T ul vl g r:Nat} (h:GC U V top t1 v1 v2 T ul vl) (hI:GI U V top v1 g r) (h1:g<LB) (h2:g*v2≤r*LB+t1):g=U / V∨g=U / V+1:=by
 have hle:=hI.le
 have h3:g*(v1*LB+v2)≤top*LB+t1:=by
  have:=F3 (v2:=v2) (u:=t1) hI.eq
  omega
 have:=N5 (ul:=ul) h.hvl h.hv1 h1 h3
 rw[←h.hu,←h.hv] at this
 generalize U / V=q at *
 omega
theorem GC.brk {U V top t1 v1 v2 T ul vl g r:Nat} (h:GC U V top t1 v1 v2 T ul vl) (h0:top=g*v1+r) (h1:LB≤r) (h2:U / V≤g):g<LB∧(g=U / V∨g=U / V+1):=by
 obtain⟨h3,h4⟩:=Bh (u:=t1) h0 h1 h.vS h.hv2 h.hv1
 have:=N5 (ul:=ul) h.hvl h.hv1 h3 h4
 rw[←h.hu,←h.hv] at this
 generalize U / V=q at *
 exact⟨h3,by omega⟩

structure OL where
 j:Nat
 u:List Int
 Q:List Int
structure QL where
 g:Int
 r:Int
set_option maxHeartbeats 2000000 in
theorem zZ (a b:Nat) (hb0:0<b) (ha:(lim a).length≤300000) (hbl:(lim b).length≤300000):RO Tryz.prog 176 [.sl (iv (lim a)),.sl (iv (lim b))] (.tup [.sl (iv (lim (a / b))),.sl (iv (lim (a % b)))]):=by
 refine aJ Tryz.func176 rfl rfl (by rw[Tryz.ntmps176];simp) fun bl=> ?_
 rw[Tryz.ntmps176,Tryz.results176]
 refine aE ?_
 simp
 refine aE ?_
 simp
 refine aD (mD a b (by omega) (by omega)) ?_
 simp[Jo]
 refine⟨fun h=> ?_,fun h=> ?_⟩
 ·refine aD (M3 (lim a) (by omega)) ?_
  have e1:a / b=0:=Nat.div_eq_of_lt h
  have e2:a % b=a:=Nat.mod_eq_of_lt h
  simp[e1,e2,aW]
  exact aK [.nils,.sl (iv (lim a))] 1 (by simp) rfl (Sub.refl _)
 refine aE ?_
 simp
 refine⟨fun h1=> ?_,fun h1=> ?_⟩
 ·have h1':(lim b).length=1:=by omega
  obtain⟨b1,b2,b3⟩:=Vg h1'
  simp[bE b 0 (by omega),b1]
  refine aD (uQ a b (by omega) b3 b2) ?_
  have hr:a % b<b:=Nat.mod_lt _ b3
  obtain⟨r,hr2⟩: ∃r,r=a % b:=⟨_,rfl⟩
  rw[←hr2] at hr ⊢
  have w1:IntKind.u64.wrap (r:Int)=r:=IntWalk.u64_in _ ⟨by omega,by omega⟩
  simp[w1]
  refine aD (tH r (by omega)) ?_
  simp
  exact aK [.sl (iv (lim (a / b))),.sl (iv (lim r))] 1 (by simp) rfl (Sub.refl _)
 have hab:b≤a:=by omega
 have hla:=cJ hab
 have hbz:(lim b).length≠0:=fun h0=>by have:=eV.1 (List.length_eq_zero_iff.1 h0);omega
 obtain⟨n,hn⟩: ∃n,(lim b).length=n+2:=⟨(lim b).length - 2,by omega⟩
 have hd0:0<dg b (n+1):=U1 hn
 have hd1:=eY b (n+1)
 obtain⟨f0,f1,f2⟩:=aCA hd0 hd1
 obtain⟨f,hf⟩: ∃f,f=1000000000 / (dg b (n+1)+1):=⟨_,rfl⟩
 rw[←hf] at f0 f1 f2
 have hbf:=aE7 hn (show f*(dg b (n+1)+1)≤LB from f2) f0
 have hlf:=Iu f0 f1
 have hfl:(lim f).length=1:=by rw[hlf];rfl
 refine aE ?_
 have w0:IntKind.i64.wrap (((lim b).length:Int) - 1)=((n+1:Nat):Int):=by rw[i64_in (by omega) (by omega)];omega
 have w1:IntKind.i64.wrap ((dg b (n+1):Int)+1)=(dg b (n+1):Int)+1:=i64_in (by omega) (by omega)
 have w2:IntKind.i64.wrap ((1000000000:Int).tdiv ((dg b (n+1):Int)+1))=f:=by
  rw[Int.tdiv_eq_ediv_of_nonneg (by omega),show(1000000000:Int) / ((dg b (n+1):Int)+1)=((1000000000 / (dg b (n+1)+1):Nat):Int) by simp,←hf]
  exact i64_in (by omega) (by omega)
 have hz1: ¬ (dg b (n+1):Int)+1=0:=by omega
 generalize hdd:dg b (n+1)=d at *
 have lg:=bE b (n+1) (by omega)
 rw[hdd] at lg
 have er1:List.range 1= [0]:=rfl
 simp[-binV, -intV,w0,w1,w2,lg,hz1,er1]
 refine⟨by omega,fun g8 hg8 hb8=> ?_⟩
 refine cW 1 8 (.sl (iv (lim f))) bl (by simp[hb8]) ?_ ?_
 ·rw[hlf]
  exact dH hg8 hb8 (by simp;rfl) rfl rfl
 refine aE ?_
 simp
 refine Au a f (by omega) (by omega) (by omega) (by omega) fun g O hg0 hg hO ht=> ?_
 simp
 intro g2 hg2 h2g hb2
 simp[h2g,Ne.symm h2g,appV,elsV,Int.not_lt.2 hg2,hO,Int.not_lt.2 hg0]
 have aY2:(lim (a*f)).length≤(lim a).length+1:=by
  refine aM.2 ?_
  have h2:a<LB^(lim a).length:=aM.1 (Nat.le_refl _)
  rw[Nat.pow_succ]
  exact Nat.mul_lt_mul_of_lt_of_le h2 (Nat.le_of_lt f1) iQ
 have aXZ:=cJ (a:=a) (b:=a*f) (Nat.le_mul_of_pos_right _ f0)
 refine⟨by omega,fun g3 hg3 hb3=> ?_⟩
 have gL:bl g3=none:=by grind
 refine aD (qR b f (by omega) (by omega)) ?_
 simp
 refine gV (fun p:Int×Nat=> [(0,.sl (iv (lim a))),(8,.sl (iv (lim f))),(9,.lsl p.1 1 0 ((lim (a*f)).length+p.2)),(10,.sl (iv (lim (b*f))))]) (fun p=>upd bl p.1 (some ⟨1,iv (lim (a*f)++List.replicate p.2 0)⟩))
  (fun p=>bl p.1=none∧0≤p.1∧(lim a).length+1≤(lim (a*f)).length+p.2∧1≤p.2∧p.2≤3) 172 ?_ ?_
 ·refine aC ?_
  simp
  refine aI (fun p:Int×Nat=> [(0,.sl (iv (lim a))),(8,.sl (iv (lim f))),(9,.lsl p.1 1 0 ((lim (a*f)).length+p.2)),(10,.sl (iv (lim (b*f))))]) (fun p=>upd bl p.1 (some ⟨1,iv (lim (a*f)++List.replicate p.2 0)⟩))
   (fun p=>bl p.1=none∧0≤p.1∧1≤p.2∧p.2≤3) (fun p=>3 - p.2) _ (g3,1) ⟨gL,hg3,by simp,by simp⟩ ⟨rfl,by simp,dM (by simp[aZ,zY,ht];rfl) (by simp[hg,hb2])⟩ ?_
  rintro⟨g4,k⟩ ⟨hb4,hg4,hk1,hk3⟩
  simp only at hb4 hg4 hk1 hk3
  refine aC ?_
  simp
  refine⟨fun h2=> ?_,fun h2=> ?_⟩
  ·intro g5 hg5 h54 hb5
   simp[h54,Ne.symm h54,appV,elsV,Int.not_lt.2 hg5]
   refine⟨by omega,fun g6 hg6 hb6=> ?_⟩
   have aUI:bl g6=none:=by grind
   rw[aB]
   refine⟨(g6,k+1),⟨aUI,hg6,by simp,by simp only;omega⟩,by simp only;omega,rfl,by simp[Nat.add_assoc],dM ?_ (by simp[hb4,hb5])⟩
   rw[List.take_of_length_le (by simp)]
   simp[iv,List.replicate_succ']
  ·rw[aH]
   exact⟨(g4,k),⟨hb4,hg4,by simp only;omega,hk1,hk3⟩,rfl,by simp,Sub.refl _⟩
 rintro⟨g4,k⟩ ⟨hb4,hg4,hk0,hk1,hk3⟩
 simp only at hb4 hg4 hk0 hk1 hk3
 have hKs:=KnI.start (a:=a) (b:=b) (f:=f) (k:=k) hn f0 hb0 hk0 (by omega)
 generalize hL:(lim (a*f)).length+k=L at *
 obtain⟨N,hN⟩: ∃N,N=n+2:=⟨_,rfl⟩
 have aB5:(lim (b*f)).length=N:=by omega
 rw[←hN] at hKs
 have hLn:N≤L:=by omega
 have w3:IntKind.i64.wrap ((L:Int) - (N:Int))=((L - N:Nat):Int):=by rw[i64_in (by omega) (by omega)];omega
 have w4:IntKind.i64.wrap (((L - N:Nat):Int) - 1)=((L - N:Nat):Int) - 1:=i64_in (by omega) (by omega)
 refine aC ?_
 simp[aB5,w3,w4]
 refine⟨by omega,by unfold maxLen;omega,fun g5 hg5 h54 hb5=> ?_⟩
 have er:List.replicate (L - N) [V.int IntKind.i64 0]=iv (List.replicate (L - N) 0):=by simp[iv]
 simp[er,h54,Ne.symm h54,aB5,w3,w4]
 refine aI (fun p:OL=> [(8,.sl (iv (lim f))),(9,.lsl g4 1 0 L),(10,.sl (iv (lim (b*f)))),(11,.int .i64 N),(12,.lsl g5 1 0 (L - N)),(13,.int .i64 ((p.j:Int) - 1))]) (fun p=>upd (upd bl g4 (some ⟨1,iv p.u⟩)) g5 (some ⟨1,iv (List.replicate p.j 0++p.Q)⟩))
  (fun p=>p.j≤L - N∧KnI (a*f) (b*f) L N p.j p.u p.Q) (fun p=>p.j) _ ⟨L - N,_,[]⟩ ⟨Nat.le_refl _,hKs⟩ ⟨rfl,by simp,sub_eq (by simp)⟩ ?_
 rintro⟨j,u,Q⟩ ⟨hj,hI⟩
 simp only at hj hI
 have hlen:=hI.len
 refine aE ?_
 simp
 refine⟨fun h2=> ?_,fun h2=> ?_⟩
 ·obtain⟨m,rfl⟩: ∃m,j=m+1:=⟨j - 1,by omega⟩
  have hV:=aB5
  generalize hVV:b*f=W at *
  have hUV:=hI.U
  have hz:=hI.zero hV
  have hk3:m+N<u.length:=by omega
  have hk2:m+(n+1)<u.length:=by omega
  have hk1:m+n<u.length:=by omega
  have t3:=hI.dig.at hk3
  have t2:=hI.dig.at hk2
  have t1:=hI.dig.at hk1
  obtain⟨I3,vS⟩: ∃t,t=u[m+N].toNat*LB+u[m+(n+1)].toNat:=⟨_,rfl⟩
  have hGC:GC (val (u.drop m)) W I3 u[m+n].toNat (dg W (n+1)) (dg W n) (LB^n) (val ((u.drop m).take n)) (pv W n):=by
   have hLB:LB=1000000000:=rfl
   subst hN
   have htv:=hI.top hV hk3
   refine⟨?_,aJE hV,?_,Cv _ _,U1 hV,?_,?_,?_,?_,hUV⟩
   ·rw[vS];exact aNP hI.dig hz hk3 hk2 hk1
   ·exact oQ fun d hd=>hI.dig d (List.mem_of_mem_drop hd)
   ·exact eY _ _
   ·exact eY _ _
   ·rw[hLB];omega
   ·rw[vS,hLB];omega
  have hv1:=hGC.hv1
  have aN6:=eY W (n+1)
  have aYB:=eY W n
  refine gV (fun p:OL=> [(8,.sl (iv (lim f))),(9,.lsl g4 1 0 L),(10,.sl (iv (lim W))),(11,.int .i64 N),(12,.lsl g5 1 0 (L - N)),(13,.int .i64 (p.j:Int))]) (fun p=>upd (upd bl g4 (some ⟨1,iv p.u⟩)) g5 (some ⟨1,iv (List.replicate p.j 0++p.Q)⟩))
   (fun p=>p.j=m∧KnI (a*f) W L N m p.u p.Q) 172 ?_ ?_
  ·refine aT ?_
   refine aE ?_
   simp[-binV, -intV]
   have e1:((m+1:Nat):Int) - 1=m:=by omega
   have i1:IntKind.i64.wrap ((m:Int)+N)=(m:Int)+N:=i64_in (by omega) (by omega)
   have i2:IntKind.i64.wrap ((m:Int)+N - 1)=(m:Int)+(n+1):=by rw[i64_in (by omega) (by omega)];omega
   have i3:IntKind.i64.wrap ((N:Int) - 1)=(n:Int)+1:=by rw[i64_in (by omega) (by omega)];omega
   have p1:0≤(m:Int)+N:=by omega
   have p2:0≤(m:Int)+(n+1):=by omega
   have p3:0≤(n:Int)+1:=by omega
   have l1:(m:Int)+N<L:=by omega
   have l2:(m:Int)+(n+1)<L:=by omega
   have c1:((m:Int)+N).toNat=m+N:=by omega
   have c2:((m:Int)+(n+1)).toNat=m+(n+1):=by omega
   have c3:((n:Int)+1).toNat=n+1:=by omega
   have hLB:LB=1000000000:=rfl
   have x1:IntKind.i64.wrap (u[m+N]*1000000000)=u[m+N]*1000000000:=i64_in (by omega) (by omega)
   have x2:IntKind.i64.wrap (u[m+N]*1000000000+u[m+(n+1)])=I3:=by rw[i64_in (by omega) (by omega),vS,hLB];omega
   have hz0: ¬ dg W (n+1)=0:=by omega
   have aXJ:I3≤1000000000000000000:=by rw[vS,hLB];omega
   have lw:=bE W (n+1) (by omega)
   have y1:(I3:Int).tdiv (dg W (n+1):Nat)=(I3 / dg W (n+1):Nat):=by rw[Int.tdiv_eq_ediv_of_nonneg (by omega)];simp
   have y2:(I3:Int).tmod (dg W (n+1):Nat)=(I3 % dg W (n+1):Nat):=by rw[Int.tmod_eq_emod_of_nonneg (by omega)];simp
   have y3:=wq (x:=(I3:Int)) (n:=(dg W (n+1):Nat)) (by omega) (by omega) (by omega)
   rw[y1] at y3
   obtain⟨g0,tQ⟩: ∃g0:Int,g0=(I3 / dg W (n+1):Nat):=⟨_,rfl⟩
   obtain⟨r0,aA9⟩: ∃r0:Int,r0=(I3 % dg W (n+1):Nat):=⟨_,rfl⟩
   rw[←tQ] at y1 y3
   rw[←aA9] at y2
   refine cI aL (by kernel_rfl) ?_
   simp[-binV, -intV,e1,i1,i2,p1,p2,l1,l2,c1,c2,hk3,hk2,x1,x2,h54,Ne.symm h54]
   refine aE ?_
   simp
   refine cI aL (by kernel_rfl) ?_
   simp[-binV, -intV,e1,i3,p3,c3,lw,hz0,y1,y2,y3]
   refine gV (fun p:QL=> [(8,.sl (iv (lim f))),(9,.lsl g4 1 0 L),(10,.sl (iv (lim W))),(11,.int .i64 N),(12,.lsl g5 1 0 (L - N)),(13,.int .i64 m),(15,.int .i64 p.g)]) (fun p=>upd (upd bl g4 (some ⟨1,iv u⟩)) g5 (some ⟨1,iv (List.replicate (m+1) 0++Q)⟩))
    (fun p=>0≤p.g∧p.g<1000000000∧(p.g.toNat=val (u.drop m) / W∨p.g.toNat=val (u.drop m) / W+1)) 172 ?_ ?_
   ·refine aC ?_
    simp[-binV, -intV]
    refine aI (fun p:QL=> [(8,.sl (iv (lim f))),(9,.lsl g4 1 0 L),(10,.sl (iv (lim W))),(11,.int .i64 N),(12,.lsl g5 1 0 (L - N)),(13,.int .i64 m),(15,.int .i64 p.g),(16,.int .i64 p.r)]) (fun p=>upd (upd bl g4 (some ⟨1,iv u⟩)) g5 (some ⟨1,iv (List.replicate (m+1) 0++Q)⟩))
     (fun p=>0≤p.g∧0≤p.r∧GI (val (u.drop m)) W I3 (dg W (n+1)) p.g.toNat p.r.toNat) (fun p=>p.g.toNat) _ ⟨g0,r0⟩ ⟨by simp only[tQ];exact Int.natCast_nonneg _,by simp only[aA9];exact Int.natCast_nonneg _,?_⟩ ⟨rfl,by simp,sub_eq (by simp)⟩ ?_
    ·have:=hGC.start
     simp only[tQ,aA9,Int.toNat_natCast]
     exact this
    rintro⟨gg,rr⟩ ⟨hgg,hrr,hGI⟩
    simp only at hgg hrr hGI
    refine aE ?_
    simp[-binV, -intV]
    have hgN:gg≤1000000000000000000:=by
     have e:=hGI.eq
     have h3:gg.toNat*1≤gg.toNat*dg W (n+1):=Nat.mul_le_mul_left _ hv1
     omega
    have hrl:=hGI.lt
    rw[hLB] at hrl
    have i4:IntKind.i64.wrap ((N:Int) - 2)=(n:Int):=by rw[i64_in (by omega) (by omega)];omega
    have i5:IntKind.i64.wrap ((m:Int)+N - 2)=(m:Int)+n:=by rw[i64_in (by omega) (by omega)];omega
    have p4:0≤(m:Int)+n:=by omega
    have l4:(m:Int)+n<L:=by omega
    have c4:((m:Int)+n).toNat=m+n:=by omega
    have lw2:=bE W n (by omega)
    have z1:IntKind.i64.wrap (rr*1000000000)=rr*1000000000:=i64_in (by omega) (by omega)
    have z2:IntKind.i64.wrap (rr*1000000000+u[m+n])=rr*1000000000+u[m+n]:=i64_in (by omega) (by omega)
    refine vH aL (by kernel_rfl) [(8,.sl (iv (lim f))),(9,.lsl g4 1 0 L),(10,.sl (iv (lim W))),(11,.int .i64 N),(12,.lsl g5 1 0 (L - N)),(13,.int .i64 m),(15,.int .i64 gg),(16,.int .i64 rr)] _ (upd (upd bl g4 (some ⟨1,iv u⟩)) g5 (some ⟨1,iv (List.replicate (m+1) 0++Q)⟩))
     131 (.bool (decide (1000000000≤gg)|| decide (rr*1000000000+u[m+n]<gg*(dg W n:Nat)))) ⟨rfl,by simp,Sub.refl _⟩ rfl ?_ ?_
    ·by_cases hbig:1000000000≤gg
     ·simp[-binV, -intV,hbig]
     ·have z3:IntKind.i64.wrap (gg*(dg W n:Nat))=gg*(dg W n:Nat):=by
       have q1:0≤gg*(dg W n:Nat):=Int.mul_nonneg hgg (by omega)
       have q2:gg*(dg W n:Nat)≤1000000000*1000000000:=Int.mul_le_mul (by omega) (by omega) (by omega) (by omega)
       exact i64_in (by omega) (by omega)
      simp[-binV, -intV,hbig,i1,i4,i5,p4,l4,c4,hk1,lw2,z1,z2,z3,h54,Ne.symm h54]
    have conv:(1000000000≤gg∨rr*1000000000+u[m+n]<gg*(dg W n:Nat)) ↔ (LB≤gg.toNat∨rr.toNat*LB+u[m+n].toNat<gg.toNat*dg W n):=by
     have e:gg*(dg W n:Nat)=((gg.toNat*dg W n:Nat):Int):=by rw[Int.natCast_mul,Int.toNat_of_nonneg hgg]
     rw[e,hLB];omega
    simp[-binV, -intV]
    refine⟨fun hc=> ?_,fun hc1 hc2=> ?_⟩
    ·obtain⟨d1,d2,d3⟩:=hGC.dec hGI (conv.1 hc)
     have q1:IntKind.i64.wrap (gg - 1)=gg - 1:=i64_in (by omega) (by omega)
     have q2:IntKind.i64.wrap (rr+(dg W (n+1):Nat))=rr+(dg W (n+1):Nat):=i64_in (by omega) (by omega)
     have e1:(gg - 1).toNat=gg.toNat - 1:=by omega
     have e2:(rr+(dg W (n+1):Nat)).toNat=rr.toNat+dg W (n+1):=by omega
     refine aC ?_
     simp[-binV, -intV,q1,q2,i3,p3,c3,lw]
     refine⟨fun hb=> ?_,fun hb=> ?_⟩
     ·obtain⟨f3,f4⟩:=hGC.brk d3 (by rw[hLB];omega) d2
      rw[hLB] at f3
      rw[aH]
      exact⟨⟨gg - 1,0⟩,⟨by simp only;omega,by simp only;omega,by rw[e1];exact f4⟩,rfl,by simp,Sub.refl _⟩
     ·rw[aB]
      exact⟨⟨gg - 1,rr+(dg W (n+1):Nat)⟩,⟨by simp only;omega,by simp only;omega,⟨by rw[e1,e2];exact d3,by rw[e2,hLB];omega,by rw[e1];exact d2⟩⟩,by simp only;omega,rfl,by simp,Sub.refl _⟩
    ·have hn: ¬ (LB≤gg.toNat∨rr.toNat*LB+u[m+n].toNat<gg.toNat*dg W n):=fun hh=>(conv.2 hh).elim (fun h=>by omega) (fun h=>by omega)
     have f4:=hGC.done hGI (by rcases Nat.lt_or_ge gg.toNat LB with h | h;exact h;exact(hn (.inl h)).elim) (by rcases Nat.lt_or_ge (rr.toNat*LB+u[m+n].toNat) (gg.toNat*dg W n) with h | h;exact(hn (.inr h)).elim;exact h)
     rw[aH]
     exact⟨⟨gg,0⟩,⟨hgg,by simp only;omega,f4⟩,rfl,by simp,Sub.refl _⟩
   ·rintro⟨gg,rr⟩ ⟨hgg,hg9,hgD⟩
    simp only at hgg hg9 hgD
    obtain⟨gN,rfl⟩: ∃gN:Nat,gg=gN:=⟨gg.toNat,by omega⟩
    rw[Int.toNat_natCast] at hgD
    have hs:sliV Tryz.prog 27 (.lsl g4 1 0 L) (some (.int .i64 (m:Nat))) none=some (.lsl g4 1 m (L - m)):=by
     simp[sliV]
     rcases Nat.eq_zero_or_pos m with h | h
     ·subst h;simp;omega
     ·simp[show ¬ m=0 by omega,show ¬ m=L by omega];omega
    have hW0:=hGC.V0
    have b4:(upd (upd bl g4 (some ⟨1,iv u⟩)) g5 (some ⟨1,iv (List.replicate (m+1) 0++Q)⟩)) g4=some ⟨1,iv u⟩:=by simp[Ne.symm h54]
    have q5:(iv (List.replicate (m+1) 0++Q))[m]? =some [.int .i64 0]:=by rw[eC _ _ (by simp;omega)];simp
    have lm:m<L - N:=by omega
    refine aE ?_
    simp[hs]
    refine Xj u W gN m N (L - m) g4 hg4 b4 hI.dig hV (by omega) (by omega) (by omega) (by omega) fun O c hk hT=> ?_
    have hOl:=hT.len
    simp
    refine⟨fun hc=> ?_,fun hc=> ?_⟩
    ·have hov:=Em hI.dig hT hV hk hz hgD hW0 (by omega)
     have q1:IntKind.i64.wrap ((gN:Int) - 1)=(val (u.drop m) / W:Nat):=by rw[i64_in (by omega) (by omega),hov];simp
     have hO9:=hT.dig.at hk
     have hc9:=hT.c1
     simp[hs,q1]
     refine Xr O (O[m+N] - c) W m N (L - m) g4 hg4 hk (by simp[Ne.symm h54]) hT.dig hV (by omega) (by omega) (by omega) fun v W2 d2 hk2 hG=> ?_
     obtain⟨z0,zD,zv⟩:=Fb hI.dig hT hG hV hk hk2 hz hov hW0
     rw[z0]
     have hN2:=hI.next (O:=W2.set (m+N) 0) (by simp[hG.len,hOl,hlen]) zD zv
     simp
     refine aC ?_
     simp[q5,h54,Ne.symm h54,lm]
     rw[aH]
     refine⟨⟨m,W2.set (m+N) 0,((val (u.drop m) / W:Nat):Int)::Q⟩,⟨rfl,hN2⟩,rfl,by simp,sub_eq ?_⟩
     funext x
     simp only[aA,←qX m _ 0 Q,←fI]
     by_cases x1:x=g5
     ·simp[x1]
     ·by_cases x2:x=g4<;>simp[x1,x2]
    ·obtain⟨zD,zq,zv⟩:=Fp hI.dig hT hV hk hgD hW0 (by omega)
     have hN2:=hI.next (O:=O.set (m+N) (O[m+N] - c)) (by simp[hOl,hlen]) zD zv
     refine aC ?_
     rw[zq]
     simp[q5,h54,Ne.symm h54,lm]
     rw[aH]
     refine⟨⟨m,O.set (m+N) (O[m+N] - c),((val (u.drop m) / W:Nat):Int)::Q⟩,⟨rfl,hN2⟩,rfl,by simp,sub_eq ?_⟩
     funext x
     simp only[aA,←qX m _ 0 Q,←fI]
     by_cases x1:x=g5
     ·simp[x1]
     ·by_cases x2:x=g4<;>simp[x1,x2]
  ·rintro⟨j',u',Q'⟩ ⟨hj',hI'⟩
   simp only at hj' hI'
   subst hj'
   have w5:IntKind.i64.wrap ((j':Int) - 1)=(j':Int) - 1:=i64_in (by omega) (by omega)
   refine aC ?_
   simp[w5]
   rw[aB]
   exact⟨⟨j',u',Q'⟩,⟨by simp only;omega,hI'⟩,by simp only;omega,rfl,by simp,Sub.refl _⟩
 ·have e:j=0:=by omega
  subst e
  obtain⟨v1,v2⟩:=hI.done
  obtain⟨s1,s2⟩:=Hj (a:=a) (b:=b) (f:=f) f0
  rw[s1] at v1
  rw[s2] at v2
  have lf:=bE f 0 (by omega)
  have df:dg f 0=f:=(Vg hfl).1
  have hq2:a % b*f / f=a % b:=Nat.mul_div_cancel _ f0
  have hlu:(lim (a % b*f)).length≤1048576:=by
   have:=cJ (a:=a % b*f) (b:=a*f) (Nat.mul_le_mul_right _ (Nat.mod_le _ _));omega
  refine cW 1 9 (.sl (iv u)) (upd bl g5 (some ⟨1,iv Q⟩)) (by intro x y;simp only[aA];grind) ?_ ?_
  ·exact dH hg4 (by simp[Ne.symm h54,hb4]) (by simp[Ne.symm h54]) (by simp[hlen]) (qF u)
  refine cW 1 12 (.sl (iv Q)) bl (by simp[hb5]) ?_ ?_
  ·exact dH hg5 hb5 (by simp) (by simp[hI.aBD]) (qF Q)
  refine cI aL (by kernel_rfl) ?_
  simp
  refine aN (uW u hI.dig (by omega)) ?_
  simp[v2,lf,df]
  refine aN (uQ _ f hlu f0 f1) ?_
  simp[hq2]
  refine aD (uW Q hI.aLT (by have:=hI.aBD;omega)) ?_
  simp[v1]
  exact aK [.sl (iv (lim (a / b))),.sl (iv (lim (a % b)))] 1 (by simp) rfl (Sub.refl _)
end Go.Proofs.YticmgmemnpcbbaaGreat.Vm

namespace Go.Proofs.YticmgmemnpcbbaaGreat.Vm
set_option linter.unusedSimpArgs false
set_option linter.unusedVariables false
structure RT where
 neg:Bool
 m:List Int
 d:List Int
 deriving DecidableEq
def rq (q:Rat):RT:=⟨decide (q.num<0),lim q.num.natAbs,lim q.den⟩
def rz :RT:=⟨false,[],[]⟩
def fits (q:Rat):Prop:=(lim q.num.natAbs).length≤24∧(lim q.den).length≤24
instance (q : Rat) : Decidable (fits q) := by unfold fits; infer_instance
def fit (q:Rat):Option Rat:=if fits q then some q else none
def RT.ok (r:RT):Prop:=lim (val r.m)=r.m∧lim (val r.d)=r.d∧r.m.length≤24∧r.d.length≤24∧r.d≠ []∧ ¬ (r.neg=true∧r.m= [])∧Nat.gcd (val r.m) (val r.d)=1
instance (r : RT) : Decidable r.ok := by unfold RT.ok; infer_instance
def RT.num (r:RT):Int:=if r.neg then -(val r.m:Int) else val r.m
def rd (r:RT):Option Rat:=if r.ok then some (mkRat r.num (val r.d)) else none
def ro (x:Option Rat):RT:=match x with | some q=>rq q | none=>rz
@[simp] theorem aSW : ro none = rz := rfl
@[simp] theorem oS (q : Rat) : ro (some q) = rq q := rfl
theorem L4 {n:Int} {d:Nat} (hd:d≠0) (h:Nat.gcd n.natAbs d=1):(mkRat n d).num=n∧(mkRat n d).den=d:=by
 rw[←Rat.normalize_eq_mkRat hd,Rat.normalize_eq hd]
 constructor
 ·show n / ((Nat.gcd n.natAbs d:Nat):Int)=n
  rw[h];simp
 ·show d / Nat.gcd n.natAbs d=d
  rw[h];simp
theorem RT.Ei (r:RT):r.num.natAbs=val r.m:=by
 unfold RT.num;split<;>simp
theorem rd_some {r:RT} {q:Rat} (h:rd r=some q):r=rq q∧fits q:=by
 unfold rd at h
 split at h
 ·rename_i hok
  obtain⟨h1,h2,h3,h4,h5,h6,h7⟩:=hok
  have hq:mkRat r.num (val r.d)=q:=Option.some.inj h
  have hd0:val r.d≠0:=fun h0=>by rw[h0,aW] at h2;exact h5 h2.symm
  have ha:=r.Ei
  obtain⟨e1,e2⟩:=L4 (n:=r.num) hd0 (by rw[ha];exact h7)
  rw[hq] at e1 e2
  have f1:lim q.num.natAbs=r.m:=by rw[e1,ha,h1]
  have f2:lim q.den=r.d:=by rw[e2,h2]
  refine⟨?_,by rw[f1];exact h3,by rw[f2];exact h4⟩
  unfold rq
  rw[f1,f2,e1]
  cases r with
  | mk neg m d =>
    congr 1
    unfold RT.num
    simp only at h1 h6 ⊢
    cases neg
    ·simp
    ·simp
     have:m≠ []:=fun hm=>h6 ⟨rfl,hm⟩
     have:val m≠0:=fun h0=>by rw[h0,aW] at h1;exact this h1.symm
     omega
 ·cases h
theorem Hw {q:Rat} (h:fits q):rd (rq q)=some q:=by
 have hok:(rq q).ok:=by
  unfold rq RT.ok
  simp only[fG]
  refine⟨trivial,trivial,h.1,h.2,fun h0=>q.den_nz (eV.1 h0),?_,q.reduced⟩
  rintro⟨h1,h2⟩
  have h3:q.num.natAbs=0:=eV.1 h2
  have:q.num<0:=by simpa using h1
  omega
 unfold rd
 rw[if_pos hok]
 congr 1
 have:(rq q).num=q.num:=by
  unfold rq RT.num
  simp only[fG]
  by_cases h1:q.num<0
  ·simp[h1];omega
  ·simp[h1];omega
 rw[this]
 show mkRat q.num (val (lim q.den))=q
 rw[fG,Rat.mkRat_self]
theorem aOK :rd rz=none:=by
 unfold rd
 rw[if_neg]
 rintro⟨_,_,_,_,h,_⟩
 exact h rfl
theorem Ic {r:RT} :(rd r).isSome=true ↔ r.ok:=by
 unfold rd;split<;>simp_all
theorem Kt :fits 0:=by
 unfold fits
 show(lim 0).length≤24∧(lim 1).length≤24
 rw[aW]
 exact⟨by simp,aM.2 (by decide+kernel)⟩
theorem fits_int {n:Int} (h:n.natAbs≤9223372036854775808):fits (n:Rat):=by
 unfold fits
 refine⟨aM.2 ?_,aM.2 ?_⟩
 ·show n.natAbs<_
  exact Nat.lt_of_le_of_lt h (by decide+kernel)
 ·show 1<_
  decide+kernel
end Go.Proofs.YticmgmemnpcbbaaGreat.Vm

namespace Go.Proofs.YticmgmemnpcbbaaGreat.Vm
open Go Go.Proofs
set_option linter.unusedSimpArgs false
set_option linter.unusedVariables false
theorem Gn (a b:Nat) (ha:(lim a).length≤300000) (hb:(lim b).length≤300000):RO Tryz.prog 101 [.sl (iv (lim a)),.sl (iv (lim b))] (.sl (iv (lim (Nat.gcd a b)))):=by
 refine aJ Tryz.func101 rfl rfl (by rw[Tryz.ntmps101];simp) fun bl=> ?_
 rw[Tryz.ntmps101,Tryz.results101]
 refine aC ?_
 simp
 refine aI (fun p:Nat×Nat=> [(0,.sl (iv (lim p.1))),(1,.sl (iv (lim p.2)))]) (fun _=>bl) (fun p=>Nat.gcd p.1 p.2=Nat.gcd a b∧(lim p.1).length≤300000∧(lim p.2).length≤300000) (fun p=>p.2) _ (a,b) ⟨rfl,ha,hb⟩ ⟨rfl,by simp,Sub.refl _⟩ ?_
 rintro⟨x,y⟩ ⟨hg,hx,hy⟩
 simp only at hg hx hy
 refine aC ?_
 simp
 refine⟨fun h=> ?_,fun h=> ?_⟩
 ·have hy0:0<y:=by
   rcases Nat.eq_zero_or_pos y with h0 | h0
   ·rw[h0,aW] at h;simp at h
   ·exact h0
  refine aD (zZ x y hy0 hx hy) ?_
  simp[aB]
  have hlt:=Nat.mod_lt x hy0
  refine⟨y,x % y,⟨?_,hy,?_⟩,hlt,rfl,by simp,Sub.refl _⟩
  ·rw[←hg,Nat.gcd_comm x y,Nat.gcd_rec y x,Nat.gcd_comm]
  ·exact Nat.le_trans (cJ (Nat.le_of_lt hlt)) hy
 ·have h0:y=0:=eV.1 (by simpa using h)
  subst h0
  rw[Nat.gcd_zero_right] at hg
  rw[←hg]
  exact aS (by simp) rfl rfl
def nY (ns:List Int):Bool:=decide (ns.length≤60)&& decide (lim (val ns)=ns)
theorem Cu {ns:List Int} :lim (val ns)=ns ↔ Dig ns∧(ns.length=0∨ns.getD (ns.length - 1) 1≠0):=by
 have aAN: ∀d,ns.getLast? =some d ↔ ns.length≠0∧ns.getD (ns.length - 1) 1=d:=by
  intro d
  rw[List.getLast?_eq_getElem?]
  rcases Nat.eq_zero_or_pos ns.length with h | h
  ·rw[List.getElem?_eq_none (by omega)];simp[h]
  ·have h1:ns.length - 1<ns.length:=by omega
   have h2:ns≠ []:=fun h0=>by rw[h0] at h;simp at h
   rw[List.getElem?_eq_getElem h1]
   simp[h1,h2]
 constructor
 ·intro h
  refine⟨h▸gY _,?_⟩
  by_cases h0:ns.length=0
  ·exact .inl h0
  ·exact .inr (Bj (val ns) _ (by rw[h];exact(aAN _).2 ⟨h0,rfl⟩))
 ·rintro⟨h1,h2⟩
  refine S9 h1 fun d hd=> ?_
  obtain⟨h3,h4⟩:=(aAN d).1 hd
  rcases h2 with h2 | h2
  ·exact absurd h2 h3
  ·rw[←h4];exact h2
theorem Q5 {ns:List Int} :nY ns=true ↔ ns.length≤60∧Dig ns∧(ns.length=0∨ns.getD (ns.length - 1) 1≠0):=by
 unfold nY
 rw[Bool.and_eq_true,decide_eq_true_eq,decide_eq_true_eq,Cu]
theorem nK (ns:List Int) (hn:ns.length≤140737488351232):RO Tryz.prog 261 [.sl (iv ns)] (.bool (nY ns)):=by
 refine aJ Tryz.func261 rfl rfl (by rw[Tryz.ntmps261];simp) fun bl=> ?_
 rw[Tryz.ntmps261,Tryz.results261]
 refine aC ?_
 simp
 refine aI (fun i:Nat=> [(0,.sl (iv ns)),(5,.sl (iv ns)),(6,.int .i64 ns.length),(7,.int .i64 i)]) (fun _=>bl) (fun i=>i≤ns.length∧ ∀j (h:j<ns.length),j<i→0≤ns[j]∧ns[j]<1000000000) (fun i=>ns.length - i) _ 0 ⟨Nat.zero_le _,fun j h h0=>by omega⟩ ⟨rfl,by simp,Sub.refl _⟩ ?_
 rintro i ⟨hi,hd⟩
 refine aC ?_
 simp
 refine⟨fun h=> ?_,fun h=> ?_⟩
 ·simp[h]
  refine aD (kR _ _ _) ?_
  simp
  refine⟨fun h1=> ?_,fun h1 h2=> ?_⟩
  ·refine aS ?_ rfl rfl
   have:nY ns=false:=by
    rw[Bool.eq_false_iff]
    intro hk
    have:=(Q5.1 hk).2.1.at h
    omega
   simp[this]
  ·have w1:IntKind.i64.wrap ((i:Int)+1)=i+1:=i64_in (by omega) (by omega)
   simp[w1,aB]
   refine⟨i+1,⟨by omega,fun j hj hji=> ?_⟩,by omega,rfl,by simp,Sub.refl _⟩
   rcases Nat.lt_or_ge j i with hlt | hge
   ·exact hd j hj hlt
   ·obtain rfl:j=i:=by omega
    exact⟨h1,by omega⟩
 ·have hD:Dig ns:=by
   intro d hm
   obtain⟨j,hj,rfl⟩:=List.mem_iff_getElem.1 hm
   exact hd j hj (by omega)
  have hk:nY ns=(decide (ns.length≤60)&& (decide (ns.length=0)|| decide (ns.getD (ns.length - 1) 1≠0))):=by
   rw[Bool.eq_iff_iff,Q5]
   simp[hD]
  refine bN [(0,.sl (iv ns))] _ bl 2 (.bool (nY ns)) ⟨rfl,by simp,Sub.refl _⟩ rfl ?_ ?_
  ·have w1:0<ns.length→IntKind.i64.wrap ((ns.length:Int) - 1)=((ns.length - 1:Nat):Int):=fun h=>by rw[i64_in (by omega) (by omega)];omega
   have q1: ∀h:0<ns.length,(iv ns)[ns.length - 1]? =some [.int .i64 (ns[ns.length - 1]'(by omega))]:=fun h=>eC _ _ (by omega)
   rw[hk]
   simp
   refine⟨fun h1=>⟨fun h2=>⟨by omega,.inl h2⟩,fun h2=> ?_⟩,fun h1 h2=>by omega⟩
   have h3:0<ns.length:=List.length_pos_iff.2 h2
   have h4:ns.length - 1<ns.length:=by omega
   have h5:ns.length≤60:=by omega
   simp[w1 h3,q1 h3,h2,h4,h5]
   rfl
  simp
  exact aS (by simp) rfl rfl
def RT.c (r:RT):List V:= [.bool r.neg,.sl (iv r.m),.sl (iv r.d)]
def P7 (neg:Bool) (m:List Int):Bool:=nY m && !(neg && decide (m= []))
theorem Xs (m:List Int):((m.length:Int)==0)=decide (m= []):=by
 rw[xQ];cases m<;>simp;omega
theorem Oz (m:List Int):decide (0<m.length)= !decide (m= []):=by cases m<;>simp
theorem wQ (neg:Bool) (m:List Int) (hm:m.length≤140737488351232):RO Tryz.prog 260 [.agg [.bool neg,.sl (iv m)]] (.bool (P7 neg m)):=by
 refine aJ Tryz.func260 rfl rfl (by rw[Tryz.ntmps260];simp) fun bl=> ?_
 rw[Tryz.ntmps260,Tryz.results260]
 refine aC ?_
 simp
 intro g hg0 hg
 refine cM [(1,.loc g 2 0 0)] _ (upd bl g (some ⟨2,[[.bool neg,.sl (iv m)]]⟩)) 2 (.bool (P7 neg m)) (upd bl g (some ⟨2,[[.bool neg,.sl (iv m)]]⟩)) ⟨rfl,by simp,Sub.refl _⟩ rfl ?_ ?_
 ·simp
  refine aD (nK m hm) ?_
  simp[P7,Oz]
  cases nY m<;>cases neg<;>simp
 simp
 exact aK [_] 0 rfl rfl (by simp[hg])
def RT.bad (r:RT):Bool:=(((!(P7 r.neg r.m)|| !(nY r.d))|| decide (r.d= []))|| decide (24<r.m.length))|| decide (24<r.d.length)
theorem RT.Pz {r:RT} :r.ok ↔ r.bad=false∧Nat.gcd (val r.m) (val r.d)=1:=by
 unfold RT.ok RT.bad P7 nY
 simp
 constructor
 ·rintro⟨h1,h2,h3,h4,h5,h6,h7⟩
  exact⟨⟨⟨⟨⟨⟨⟨by omega,h1⟩,h6⟩,by omega,h2⟩,h5⟩,h3⟩,h4⟩,h7⟩
 ·rintro⟨⟨⟨⟨⟨⟨⟨_,h1⟩,h6⟩,_,h2⟩,h5⟩,h3⟩,h4⟩,h7⟩
  exact⟨h1,h2,h3,h4,h5,h6,h7⟩
theorem RT.aVU {r:RT} (h:r.bad=false):r.m=lim (val r.m)∧r.d=lim (val r.d)∧r.m.length≤24∧r.d.length≤24:=by
 unfold RT.bad P7 nY at h
 simp at h
 obtain⟨⟨⟨⟨⟨⟨_,h1⟩,_⟩,_,h2⟩,_⟩,h3⟩,h4⟩:=h
 exact⟨h1.symm,h2.symm,h3,h4⟩
theorem Ej :lim 1= [1]:=Iu (f:=1) (by decide) (by decide)
theorem Mv {a b:Nat} :jJ a b=0 ↔ a=b:=by unfold jJ;split<;>(try split)<;>omega
theorem Js {a b:Nat} {k:Nat} (ha:(lim a).length≤k) (hb:(lim b).length≤k):(lim (Nat.gcd a b)).length≤k:=by
 rcases Nat.eq_zero_or_pos a with h | h
 ·rw[h,Nat.gcd_zero_left];exact hb
 ·exact Nat.le_trans (cJ (Nat.gcd_le_left _ h)) ha

def biC (n:Int):List V:= [.bool (decide (n<0)),.sl (iv (lim n.natAbs))]
def sg (neg:Bool) (m:Nat):Int:=if neg then -(m:Int) else m
@[simp] theorem qO (neg : Bool) (m : Nat) : (sg neg m).natAbs = m := by unfold sg; split <;> simp
theorem Fi (neg:Bool) (m:Nat):decide (sg neg m<0)=(neg && decide (0<m)):=by
 unfold sg;cases neg<;>simp
theorem It (n:Int):sg (decide (n<0)) n.natAbs=n:=by
 unfold sg
 by_cases h:n<0
 ·simp[h];omega
 ·simp[h];omega
theorem qY (m:Nat):0<(lim m).length ↔ 0<m:=by
 rw[List.length_pos_iff]
 constructor
 ·intro h;rcases Nat.eq_zero_or_pos m with h0 | h0
  ·rw[h0,aW] at h;exact absurd rfl h
  ·exact h0
 ·intro h h0;have:=eV.1 h0;omega
@[simp] theorem aTP (n : Int) : (biC n).length = 2 := rfl
@[simp] theorem aQ8 (n : Int) : (biC n).all V.one = true := by simp [biC]
theorem Pw (n:Int):(biC n).all V.cl=true:=by simp[biC,V.cl]
@[simp] theorem aIQ (a b : V) (n : Int) : splice [a, b] 0 (biC n) = biC n := by simp [splice, biC]
theorem Y2 (neg:Bool) (m:Nat):biC (sg neg m)= [.bool (neg && decide (0<(lim m).length)),.sl (iv (lim m))]:=by
 unfold biC
 rw[Fi,qO,decide_eq_decide.2 (qY m)]
theorem lG {bl bl':Int→Option Blk} {n:Int} :frz (dropB bl' bl) 1 (.agg (biC n))=some (.agg (biC n)):=by
 unfold frz;rw[if_pos (Pw n)]
theorem Nq (x:Int):sg (!decide (x<0)) x.natAbs= -x:=by
 unfold sg
 by_cases h:x<0
 ·simp[h];omega
 ·simp[h];omega
theorem gS (neg:Bool) (m:Nat):RO Tryz.prog 229 [.bool neg,.sl (iv (lim m))] (.agg (biC (sg neg m))):=by
 refine aJ Tryz.func229 rfl rfl (by rw[Tryz.ntmps229];simp) fun bl=> ?_
 rw[Tryz.ntmps229,Tryz.results229]
 refine aC ?_
 simp
 intro g hg0 hg
 refine cM [(0,.bool neg),(1,.sl (iv (lim m))),(4,.loc g 2 0 0)] _ (upd bl g (some ⟨2,[[.bool false,.nils]]⟩)) 4 (.loc g 2 0 0) (upd bl g (some ⟨2,[biC (sg neg m)]⟩)) ⟨rfl,by simp,Sub.refl _⟩ rfl ?_ ?_
 ·simp
  rw[Y2]
  cases neg<;>simp
 simp
 exact aK [.agg (biC (sg neg m))] 1 (by simp[biC]) lG (by simp[hg])
theorem mZ (x:Int):RO Tryz.prog 177 [.agg (biC x)] (.agg (biC (-x))):=by
 refine aJ Tryz.func177 rfl rfl (by rw[Tryz.ntmps177];simp) fun bl=> ?_
 rw[Tryz.ntmps177,Tryz.results177]
 refine aC ?_
 rw[show biC x= [.bool (decide (x<0)),.sl (iv (lim x.natAbs))] from rfl]
 simp
 intro g hg0 hg g2 hg2 h2g hb2
 simp[h2g,Ne.symm h2g]
 refine aD (gS _ _) ?_
 rw[Nq]
 simp[h2g,Ne.symm h2g]
 exact aK [.agg (biC (-x))] 1 (by simp[biC]) lG (by simp[hg,hb2])
theorem mV (x:Int):RO Tryz.prog 153 [.agg (biC x)] (.int .i64 x.sign):=by
 refine aJ Tryz.func153 rfl rfl (by rw[Tryz.ntmps153];simp) fun bl=> ?_
 rw[Tryz.ntmps153,Tryz.results153]
 refine aC ?_
 rw[show biC x= [.bool (decide (x<0)),.sl (iv (lim x.natAbs))] from rfl]
 simp
 intro g hg0 hg
 refine⟨fun h=> ?_,fun h=> ?_⟩
 ·have h0:=eV.1 h
  have:x=0:=by omega
  exact aK [.int .i64 0] 0 (by simp) (by simp[frz,this]) (by simp[hg])
 ·have h0:x≠0:=fun h1=>h (by rw[h1];exact aW)
  refine⟨fun h2=> ?_,fun h2=> ?_⟩
  ·exact aK [.int .i64 (-1)] 0 (by simp) (by simp[frz,Int.sign_eq_neg_one_of_neg h2]) (by simp[hg])
  ·exact aK [.int .i64 1] 0 (by simp) (by simp[frz,Int.sign_eq_one_of_pos (show 0<x by omega)]) (by simp[hg])
theorem xZ {x y:Int} (h:x<0 ↔ y<0):sg (decide (x<0)) (x.natAbs+y.natAbs)=x+y:=by
 unfold sg
 by_cases hx:x<0
 ·have:=h.1 hx;simp[hx];omega
 ·have: ¬ y<0:=fun hh=>hx (h.2 hh);simp[hx];omega
theorem nF {x y:Int} (h: ¬ (x<0 ↔ y<0)) (hle:y.natAbs≤x.natAbs):sg (decide (x<0)) (x.natAbs - y.natAbs)=x+y:=by
 unfold sg
 by_cases hx:x<0
 ·have: ¬ y<0:=fun hh=>h ⟨fun _=>hh,fun _=>hx⟩;simp[hx];omega
 ·have:y<0:=by
   by_cases hy:y<0
   ·exact hy
   ·exact absurd ⟨fun hh=>absurd hh hx,fun hh=>absurd hh hy⟩ h
  simp[hx];omega
theorem tJ (x y:Int):sg (decide (x<0) !=decide (y<0)) (x.natAbs*y.natAbs)=x*y:=by
 have e:(x.natAbs:Int)*y.natAbs=(x*y).natAbs:=by rw[Int.natAbs_mul];simp
 unfold sg
 by_cases hx:x<0<;>by_cases hy:y<0<;>simp only[hx,hy,decide_true,decide_false,bne_self_eq_false,Bool.bne_true,Bool.bne_false,Bool.not_false,if_true,if_false,Bool.false_eq_true,Int.natCast_mul]
 ·rw[Int.ofNat_natAbs_of_nonpos (by omega),Int.ofNat_natAbs_of_nonpos (by omega),Int.neg_mul_neg]
 ·rw[Int.ofNat_natAbs_of_nonpos (by omega),Int.natAbs_of_nonneg (by omega),Int.neg_mul,Int.neg_neg]
 ·rw[Int.natAbs_of_nonneg (by omega),Int.ofNat_natAbs_of_nonpos (by omega),Int.mul_neg,Int.neg_neg]
 ·rw[Int.natAbs_of_nonneg (by omega),Int.natAbs_of_nonneg (by omega)]
def jA (x y:Int):Int:=if x<y then -1 else if x=y then 0 else 1
theorem Ir {a b:Nat} :0≤jJ a b ↔ b≤a:=by unfold jJ;split<;>(try split)<;>omega
theorem Cd (x y:Int) (hx:(lim x.natAbs).length≤1048576) (hy:(lim y.natAbs).length≤1048576):RO Tryz.prog 276 [.agg (biC x),.agg (biC y)] (.int .i64 (jA x y)):=by
 refine aJ Tryz.func276 rfl rfl (by rw[Tryz.ntmps276];simp) fun bl=> ?_
 rw[Tryz.ntmps276,Tryz.results276]
 refine aE ?_
 rw[show biC x= [.bool (decide (x<0)),.sl (iv (lim x.natAbs))] from rfl,show biC y= [.bool (decide (y<0)),.sl (iv (lim y.natAbs))] from rfl]
 simp
 intro g hg0 hg g2 hg2 h2g hb2
 refine aC ?_
 simp[h2g,Ne.symm h2g]
 refine cM [(2,.loc g 2 0 0),(3,.loc g2 2 0 0)] _ _ 5 (.bool ((decide (x<0) !=decide (y<0))&& decide (x<0))) (upd (upd bl g (some ⟨2,[[.bool (decide (x<0)),.sl (iv (lim x.natAbs))]]⟩)) g2 (some ⟨2,[[.bool (decide (y<0)),.sl (iv (lim y.natAbs))]]⟩)) ⟨rfl,by simp,Sub.refl _⟩ rfl ?_ ?_
 ·simp[h2g,Ne.symm h2g]
  by_cases h1:x<0<;>by_cases h2:y<0<;>simp[h1,h2,h2g,Ne.symm h2g]
 by_cases h1:x<0<;>by_cases h2:y<0<;>simp[h1,h2,h2g,Ne.symm h2g]
 ·refine aD (mD _ _ hy hx) ?_
  simp
  refine aK [.int .i64 (jA x y)] 0 ?_ (by simp[frz]) (by simp[hg,hb2])
  have:jJ y.natAbs x.natAbs=jA x y:=by unfold jJ jA;split<;>split<;>(try split)<;>(try split)<;>omega
  simp[this]
 ·have:jA x y= -1:=by unfold jA;rw[if_pos (by omega)]
  exact aK [.int .i64 (-1)] 0 (by simp) (by simp[frz,this]) (by simp[hg,hb2])
 ·have:jA x y=1:=by unfold jA;rw[if_neg (by omega),if_neg (by omega)]
  exact aK [.int .i64 1] 0 (by simp) (by simp[frz,this]) (by simp[hg,hb2])
 ·refine aD (mD _ _ hx hy) ?_
  simp
  refine aK [.int .i64 (jA x y)] 0 ?_ (by simp[frz]) (by simp[hg,hb2])
  have:jJ x.natAbs y.natAbs=jA x y:=by unfold jJ jA;split<;>split<;>(try split)<;>(try split)<;>omega
  simp[this]
theorem Cn (x y:Int) (hx:(lim x.natAbs).length≤1048575) (hy:(lim y.natAbs).length≤1048575):RO Tryz.prog 227 [.agg (biC x),.agg (biC y)] (.agg (biC (x+y))):=by
 refine aJ Tryz.func227 rfl rfl (by rw[Tryz.ntmps227];simp) fun bl=> ?_
 rw[Tryz.ntmps227,Tryz.results227]
 refine aE ?_
 rw[show biC x= [.bool (decide (x<0)),.sl (iv (lim x.natAbs))] from rfl,show biC y= [.bool (decide (y<0)),.sl (iv (lim y.natAbs))] from rfl]
 simp
 intro g hg0 hg g2 hg2 h2g hb2 g3 hg3 h32 h3g hb3
 refine aC ?_
 simp[h2g,Ne.symm h2g,h32,Ne.symm h32,h3g,Ne.symm h3g]
 refine aD (mD _ _ (by omega) (by omega)) ?_
 simp[h2g,Ne.symm h2g,h32,Ne.symm h32,h3g,Ne.symm h3g,Ir]
 refine⟨fun hs=> ?_,fun hs=>⟨fun hle=> ?_,fun hle=> ?_⟩⟩
 ·refine aY aL (upd (upd bl g (some ⟨2,[[.bool (decide (x<0)),.sl (iv (lim x.natAbs))]]⟩)) g2 (some ⟨2,[[.bool (decide (y<0)),.sl (iv (lim y.natAbs))]]⟩)) (by simp[h32,h3g,hb3]) [0,1,2,3,4,5,6,7] 1 (by kernel_rfl) ?_
  simp[h2g,Ne.symm h2g,h32,Ne.symm h32,h3g,Ne.symm h3g]
  refine aN (Wx _ _ hx hy) ?_
  simp[h2g,Ne.symm h2g,h32,Ne.symm h32,h3g,Ne.symm h3g]
  refine aN (gS _ _) ?_
  simp[h2g,Ne.symm h2g,h32,Ne.symm h32,h3g,Ne.symm h3g]
  refine Dz 8 ?_
  simp[h2g,Ne.symm h2g,h32,Ne.symm h32,h3g,Ne.symm h3g]
  refine⟨by simp[h32,h3g,hb3],Dy ?_⟩
  rw[xZ hs]
  simp[h2g,Ne.symm h2g,h32,Ne.symm h32,h3g,Ne.symm h3g]
  exact aK [.agg (biC (x+y))] 1 (by simp[biC,h2g,Ne.symm h2g,h32,Ne.symm h32,h3g,Ne.symm h3g]) lG (by simp[hg,hb2,hb3])
 ·refine aY aL (upd (upd bl g (some ⟨2,[[.bool (decide (x<0)),.sl (iv (lim x.natAbs))]]⟩)) g2 (some ⟨2,[[.bool (decide (y<0)),.sl (iv (lim y.natAbs))]]⟩)) (by simp[h32,h3g,hb3]) [0,1,2,3,4,5,6,7] 1 (by kernel_rfl) ?_
  simp[h2g,Ne.symm h2g,h32,Ne.symm h32,h3g,Ne.symm h3g]
  refine aN (Ab _ _ hle hx) ?_
  simp[h2g,Ne.symm h2g,h32,Ne.symm h32,h3g,Ne.symm h3g]
  refine aN (gS _ _) ?_
  simp[h2g,Ne.symm h2g,h32,Ne.symm h32,h3g,Ne.symm h3g]
  refine Dz 8 ?_
  simp[h2g,Ne.symm h2g,h32,Ne.symm h32,h3g,Ne.symm h3g]
  refine⟨by simp[h32,h3g,hb3],Dy ?_⟩
  rw[nF hs hle]
  simp[h2g,Ne.symm h2g,h32,Ne.symm h32,h3g,Ne.symm h3g]
  exact aK [.agg (biC (x+y))] 1 (by simp[biC,h2g,Ne.symm h2g,h32,Ne.symm h32,h3g,Ne.symm h3g]) lG (by simp[hg,hb2,hb3])
 ·refine aY aL (upd (upd bl g (some ⟨2,[[.bool (decide (x<0)),.sl (iv (lim x.natAbs))]]⟩)) g2 (some ⟨2,[[.bool (decide (y<0)),.sl (iv (lim y.natAbs))]]⟩)) (by simp[h32,h3g,hb3]) [0,1,2,3,4,5,6,7] 1 (by kernel_rfl) ?_
  simp[h2g,Ne.symm h2g,h32,Ne.symm h32,h3g,Ne.symm h3g]
  refine aN (Ab _ _ (by omega) hy) ?_
  simp[h2g,Ne.symm h2g,h32,Ne.symm h32,h3g,Ne.symm h3g]
  refine aN (gS _ _) ?_
  simp[h2g,Ne.symm h2g,h32,Ne.symm h32,h3g,Ne.symm h3g]
  refine Dz 8 ?_
  simp[h2g,Ne.symm h2g,h32,Ne.symm h32,h3g,Ne.symm h3g]
  refine⟨by simp[h32,h3g,hb3],Dy ?_⟩
  rw[nF (x:=y) (y:=x) (fun hh=>hs ⟨hh.2,hh.1⟩) (by omega),Int.add_comm y x]
  simp[h2g,Ne.symm h2g,h32,Ne.symm h32,h3g,Ne.symm h3g]
  exact aK [.agg (biC (x+y))] 1 (by simp[biC,h2g,Ne.symm h2g,h32,Ne.symm h32,h3g,Ne.symm h3g]) lG (by simp[hg,hb2,hb3])
theorem lW (x y:Int) (hx:(lim x.natAbs).length≤400000) (hy:(lim y.natAbs).length≤400000):RO Tryz.prog 231 [.agg (biC x),.agg (biC y)] (.agg (biC (x*y))):=by
 refine aJ Tryz.func231 rfl rfl (by rw[Tryz.ntmps231];simp) fun bl=> ?_
 rw[Tryz.ntmps231,Tryz.results231]
 refine aE ?_
 rw[show biC x= [.bool (decide (x<0)),.sl (iv (lim x.natAbs))] from rfl,show biC y= [.bool (decide (y<0)),.sl (iv (lim y.natAbs))] from rfl]
 simp
 intro g hg0 hg g2 hg2 h2g hb2 g3 hg3 h32 h3g hb3
 refine aC ?_
 simp
 refine aY aL (upd (upd bl g (some ⟨2,[[.bool (decide (x<0)),.sl (iv (lim x.natAbs))]]⟩)) g2 (some ⟨2,[[.bool (decide (y<0)),.sl (iv (lim y.natAbs))]]⟩)) (by simp[h32,h3g,hb3]) [0,1,2,3,4,5,6,7,8,9,10] 1 (by kernel_rfl) ?_
 simp[h2g,Ne.symm h2g,h32,Ne.symm h32,h3g,Ne.symm h3g]
 refine aN (qR _ _ hx hy) ?_
 simp[h2g,Ne.symm h2g,h32,Ne.symm h32,h3g,Ne.symm h3g]
 refine aN (gS _ _) ?_
 simp[h2g,Ne.symm h2g,h32,Ne.symm h32,h3g,Ne.symm h3g]
 refine Dz 11 ?_
 simp[h2g,Ne.symm h2g,h32,Ne.symm h32,h3g,Ne.symm h3g]
 refine⟨by simp[h32,h3g,hb3],Dy ?_⟩
 rw[tJ]
 simp[h2g,Ne.symm h2g,h32,Ne.symm h32,h3g,Ne.symm h3g]
 exact aK [.agg (biC (x*y))] 1 (by simp[biC,h2g,Ne.symm h2g,h32,Ne.symm h32,h3g,Ne.symm h3g]) lG (by simp[hg,hb2,hb3])

theorem bW (x:Int):biC x= [.bool (decide (x<0)),.sl (iv (lim x.natAbs))]:=rfl
theorem iJ (q:Rat):(rq q).c= [.bool (decide (q.num<0)),.sl (iv (lim q.num.natAbs)),.sl (iv (lim q.den))]:=rfl
theorem Jn (n:Int) {d:Nat} (hd:d≠0):rq (mkRat n d)=⟨decide (n<0),lim (n.natAbs / Nat.gcd n.natAbs d),lim (d / Nat.gcd n.natAbs d)⟩:=by
 obtain⟨h1,h2,h3⟩:=Lq n hd
 unfold rq
 rw[h1,h2,decide_eq_decide.2 h3]
theorem O8 (x y:Int) (hx:(lim x.natAbs).length≤1048575) (hy:(lim y.natAbs).length≤1048575):RO Tryz.prog 239 [.agg (biC x),.agg (biC y)] (.agg (biC (x - y))):=by
 refine aJ Tryz.func239 rfl rfl (by rw[Tryz.ntmps239];simp) fun bl=> ?_
 rw[Tryz.ntmps239,Tryz.results239]
 refine aE ?_
 simp
 intro g hg0 hg g2 hg2 h2g hb2 g3 hg3 h32 h3g hb3
 refine aC ?_
 simp
 refine aY aL (upd (upd bl g (some ⟨2,[biC x]⟩)) g2 (some ⟨2,[biC y]⟩)) (by simp[h32,h3g,hb3]) [0,1,2,3] 1 (by kernel_rfl) ?_
 simp[h2g,Ne.symm h2g,h32,Ne.symm h32,h3g,Ne.symm h3g]
 refine aN (mZ y) ?_
 simp[h2g,Ne.symm h2g,h32,Ne.symm h32,h3g,Ne.symm h3g]
 refine aN (Cn x (-y) hx (by simpa using hy)) ?_
 rw[show x+ -y=x - y by omega]
 simp[h2g,Ne.symm h2g,h32,Ne.symm h32,h3g,Ne.symm h3g]
 refine Dz 4 ?_
 simp[h2g,Ne.symm h2g,h32,Ne.symm h32,h3g,Ne.symm h3g]
 refine⟨by simp[h32,h3g,hb3],Dy ?_⟩
 simp
 exact aK [.agg (biC (x - y))] 1 (by simp[biC,h2g,Ne.symm h2g,h32,Ne.symm h32,h3g,Ne.symm h3g]) lG (by simp[hg,hb2,hb3])
theorem P9 (q:Rat) (m:Nat) (hq:(lim q.num.natAbs).length≤400000) (hm:(lim m).length≤400000):RO Tryz.prog 226 [.ptr (rq q).c,.sl (iv (lim m))] (.agg (biC (q.num*m))):=by
 refine aJ Tryz.func226 rfl rfl (by rw[Tryz.ntmps226];simp) fun bl=> ?_
 rw[Tryz.ntmps226,Tryz.results226]
 refine aC ?_
 rw[iJ]
 simp
 intro g hg0 hg
 refine aY aL bl (by simp[hg]) [0,1,2,3,4,5,6,7,8,9,10,11,12] 1 (by kernel_rfl) ?_
 simp
 refine aN (qR _ _ hq hm) ?_
 simp
 refine aN (gS _ _) ?_
 simp
 refine Dz 13 ?_
 simp
 refine⟨by simp[hg],Dy ?_⟩
 have e:sg (decide (q.num<0)) (q.num.natAbs*m)=q.num*m:=by
  have:=tJ q.num m
  have h0:decide ((m:Int)<0)=false:=decide_eq_false (by omega)
  rw[h0,Bool.bne_false,Int.natAbs_natCast] at this
  exact this
 rw[e]
 simp
 exact aK [.agg (biC (q.num*m))] 1 (by simp[biC]) lG (by simp[hg])
theorem xI (n:Int) (d:Nat) (hd:d≠0) (hn:(lim n.natAbs).length≤300000) (hdl:(lim d).length≤300000):RO Tryz.prog 221 [.agg (biC n),.sl (iv (lim d))] (.ptr (rq (mkRat n d)).c):=by
 refine aJ Tryz.func221 rfl rfl (by rw[Tryz.ntmps221];simp) fun bl=> ?_
 rw[Tryz.ntmps221,Tryz.results221]
 refine aC ?_
 rw[bW]
 simp
 intro g hg0 hg
 refine⟨fun h=> ?_,fun h=> ?_⟩
 ·intro g1 hg1 h1g hb1 g2 hg2 h21 h2g hb2
  have h0:n=0:=by have:=eV.1 h;omega
  subst h0
  rw[Rat.zero_mkRat]
  refine aK [.loc g2 3 0 0] 2 (by simp) ?_ (by simp[hg,hb1,hb2])
  simp[frz,dropB,V.cl,hb1,hb2,h1g,Ne.symm h1g,h21,Ne.symm h21,h2g,Ne.symm h2g,Int.not_lt.2 hg1,iJ,aW]
  exact⟨rfl,by rw[Ej];rfl⟩
 ·have hz:n.natAbs≠0:=fun h0=>h (by rw[h0];exact aW)
  refine aD (Gn _ _ hn hdl) ?_
  simp
  intro g1 hg1 h1g hb1
  have hgl:=Js hn hdl
  refine aX 1 (ys:= [.sl (iv (lim (Nat.gcd n.natAbs d))),.sl (iv (lim 1))]) ?_ (mD _ 1 (by omega) (by rw[Ej];simp)) rfl ?_
  ·simp[frzL,frz,Ej,iv,V.cl,Int.not_lt.2 hg1]
  simp[xQ,Mv]
  refine⟨fun h1=> ?_,fun h1=> ?_⟩
  ·simp[h1g,Ne.symm h1g]
   intro g2 hg2 h21 h2g hb2
   refine aK [.loc g2 3 0 0] 2 (by simp) ?_ (by simp[hg,hb1,hb2])
   have e:rq (mkRat n d)=⟨decide (n<0),lim n.natAbs,lim d⟩:=by rw[Jn n hd,h1,Nat.div_one,Nat.div_one]
   rw[e]
   simp[frz,dropB,V.cl,hb1,hb2,h1g,Ne.symm h1g,h21,Ne.symm h21,h2g,Ne.symm h2g,RT.c]
  ·have aB4:0<Nat.gcd n.natAbs d:=Nat.gcd_pos_of_pos_right _ (by omega)
   simp[h1g,Ne.symm h1g]
   refine aD (zZ _ _ aB4 hn hgl) ?_
   simp
   refine aD (zZ _ _ aB4 hdl hgl) ?_
   simp[h1g,Ne.symm h1g]
   refine aD (gS _ _) ?_
   simp[h1g,Ne.symm h1g]
   rw[Y2]
   simp[h1g,Ne.symm h1g]
   intro g2 hg2 h21 h2g hb2
   refine aK [.loc g2 3 0 0] 2 (by simp) ?_ (by simp[hg,hb1,hb2])
   have e3:0<n.natAbs / Nat.gcd n.natAbs d:=Nat.div_pos (Nat.gcd_le_left _ (by omega)) aB4
   rw[Jn n hd]
   simp[frz,dropB,V.cl,hb1,hb2,h1g,Ne.symm h1g,h21,Ne.symm h21,h2g,Ne.symm h2g,RT.c,qY,e3]
theorem gD {a b k l:Nat} (ha:(lim a).length≤k) (hb:(lim b).length≤l):(lim (a*b)).length≤k+l:=by
 refine aM.2 ?_
 have h1:=aM.1 ha
 have h2:=aM.1 hb
 rw[Nat.pow_add]
 exact Nat.mul_lt_mul'' h1 h2
theorem uH {a b k:Nat} (ha:(lim a).length≤k) (hb:(lim b).length≤k):(lim (a+b)).length≤k+1:=by
 refine aM.2 ?_
 have h1:=aM.1 ha
 have h2:=aM.1 hb
 have:LB^(k+1)=LB^k*1000000000:=Nat.pow_succ ..
 omega
theorem kZ {a b k:Nat} (h:a≤b) (hb:(lim b).length≤k):(lim a).length≤k:=Nat.le_trans (cJ h) hb
def few (k:Nat) (q:Rat):Prop:=(lim q.num.natAbs).length≤k∧(lim q.den).length≤k
theorem vE {k l:Nat} {q:Rat} (h:few k q) (hkl:k≤l):few l q:=⟨by have:=h.1;omega,by have:=h.2;omega⟩
def L3 (a b:Rat):Int:=jA (a.num*b.den) (b.num*a.den)
theorem Bk (a b:Rat) (ha:few 100000 a) (hb:few 100000 b):RO Tryz.prog 159 [.ptr (rq a).c,.ptr (rq b).c] (.ptr (rq (a+b)).c):=by
 obtain⟨a1,a2⟩:=ha
 obtain⟨b1,b2⟩:=hb
 have n1:(lim (a.num*b.den).natAbs).length≤200000:=by rw[Int.natAbs_mul,Int.natAbs_natCast];have:=gD a1 b2;omega
 have n2:(lim (b.num*a.den).natAbs).length≤200000:=by rw[Int.natAbs_mul,Int.natAbs_natCast];have:=gD b1 a2;omega
 refine aJ Tryz.func159 rfl rfl (by rw[Tryz.ntmps159];simp) fun bl=> ?_
 rw[Tryz.ntmps159,Tryz.results159]
 refine aC ?_
 simp
 refine cI aL (by kernel_rfl) ?_
 rw[iJ a,iJ b]
 simp
 refine aN (P9 a b.den (by omega) (by omega)) ?_
 simp
 refine aN (P9 b a.den (by omega) (by omega)) ?_
 simp
 refine aN (Cn _ _ (by omega) (by omega)) ?_
 simp
 refine aN (qR _ _ (by omega) (by omega)) ?_
 simp
 refine aN (xI _ _ (Nat.mul_ne_zero a.den_nz b.den_nz) ?_ ?_) ?_
 ·exact kZ (Int.natAbs_add_le _ _) (by have:=uH n1 n2;omega)
 ·have:=gD a2 b2;omega
 rw[←Rat.add_def']
 simp
 exact aS (by simp) rfl rfl
theorem Jz (a b:Rat) (ha:few 100000 a) (hb:few 100000 b):RO Tryz.prog 163 [.ptr (rq a).c,.ptr (rq b).c] (.ptr (rq (a*b)).c):=by
 obtain⟨a1,a2⟩:=ha
 obtain⟨b1,b2⟩:=hb
 refine aJ Tryz.func163 rfl rfl (by rw[Tryz.ntmps163];simp) fun bl=> ?_
 rw[Tryz.ntmps163,Tryz.results163]
 refine aC ?_
 simp
 refine cI aL (by kernel_rfl) ?_
 rw[iJ a,iJ b]
 simp
 refine aN (lW a.num b.num (by omega) (by omega)) ?_
 simp
 refine aN (qR _ _ (by omega) (by omega)) ?_
 simp
 refine aN (xI _ _ (Nat.mul_ne_zero a.den_nz b.den_nz) ?_ ?_) ?_
 ·rw[Int.natAbs_mul];have:=gD a1 b1;omega
 ·have:=gD a2 b2;omega
 rw[←Rat.mul_def']
 simp
 exact aS (by simp) rfl rfl
def fv :Option Rat→V
 | none => .nilp
 | some q => .ptr (rq q).c
theorem U6 {b:Int→Option Blk} {n:Nat} {x:Option Rat} :frz b n (fv x)=some (fv x):=by cases x<;>simp[fv,frz]
theorem aBI (q:Rat):RO Tryz.prog 158 [.ptr (rq q).c] (fv (fit q)):=by
 refine aJ Tryz.func158 rfl rfl (by rw[Tryz.ntmps158];simp) fun bl=> ?_
 rw[Tryz.ntmps158,Tryz.results158]
 refine aC ?_
 simp
 refine bN [(0,.ptr (rq q).c)] _ bl 17 (.bool (!decide (fits q))) ⟨rfl,by simp,Sub.refl _⟩ rfl ?_ ?_
 ·rw[iJ]
  simp
  have hf:fits q ↔ (lim q.num.natAbs).length≤24∧(lim q.den).length≤24:=Iff.rfl
  refine⟨fun h hh=>by have:=hf.1 hh;omega,fun h=> ?_⟩
  rw[Bool.eq_iff_iff]
  simp[hf]
  omega
 simp
 refine⟨fun h=> ?_,fun h=> ?_⟩
 ·exact aS (by simp[fit,h,fv]) rfl U6
 ·exact aS (by simp[fit,h,fv]) rfl U6
def okQ (x:Option Rat):Prop:= ∀q,x=some q→fits q
theorem Yj (q:Rat):okQ (fit q):=by
 intro p h
 unfold fit at h
 split at h
 ·cases h;assumption
 ·cases h
theorem aD5 (r:RT):okQ (rd r):=fun q h=>(rd_some h).2
def op2 (f:Rat→Rat→Rat) (x y:Option Rat):Option Rat:=match x,y with | some a,some b=>fit (f a b)| _,_=>none
theorem zV (f:Rat→Rat→Rat) (x y:Option Rat):okQ (op2 f x y):=by
 unfold op2;split
 ·exact Yj _
 ·intro q h;cases h
theorem Fw (x y:Option Rat) (hx:okQ x) (hy:okQ y):RO Tryz.prog 82 [fv x,fv y] (fv (op2 (· + ·) x y)):=by
 refine aJ Tryz.func82 rfl rfl (by rw[Tryz.ntmps82];simp) fun bl=> ?_
 rw[Tryz.ntmps82,Tryz.results82]
 refine aC ?_
 simp
 rcases x with _ | a
 ·refine bN [(0,fv none),(1,fv y)] _ bl 10 (.bool true) ⟨rfl,by simp,Sub.refl _⟩ rfl ?_ ?_
  ·simp[fv]
  simp
  exact aS (by simp[op2,fv]) rfl rfl
 rcases y with _ | b
 ·refine bN [(0,fv (some a)),(1,fv none)] _ bl 10 (.bool true) ⟨rfl,by simp,Sub.refl _⟩ rfl ?_ ?_
  ·simp[fv]
  simp
  exact aS (by simp[op2,fv]) rfl rfl
 refine bN [(0,fv (some a)),(1,fv (some b))] _ bl 10 (.bool false) ⟨rfl,by simp,Sub.refl _⟩ rfl ?_ ?_
 ·simp[fv]
 simp[fv]
 refine aD (Bk a b (vE (hx a rfl) (by decide)) (vE (hy b rfl) (by decide))) ?_
 simp
 refine aD (aBI _) ?_
 simp
 exact aS (by simp[op2];rfl) rfl U6

theorem lY (a b:Nat) (ha:(lim a).length≤1048576) (hb:(lim b).length≤1048576):RO Tryz.prog 288 [.sl (iv (lim a)),.sl (iv (lim b))] (.int .i64 (jJ a b)):=by
 refine aJ Tryz.func288 rfl rfl (by rw[Tryz.ntmps288];simp) fun bl=> ?_
 rw[Tryz.ntmps288,Tryz.results288]
 refine aC ?_
 simp
 refine⟨fun h=>⟨fun h1=> ?_,fun h1=> ?_⟩,fun h=> ?_⟩
 ·exact aS (by simp[I1 h1]) rfl rfl
 ·exact aS (by simp[D9 (show(lim b).length<(lim a).length by omega)]) rfl rfl
 have h:(lim a).length=(lim b).length:=by omega
 have w0:IntKind.i64.wrap (((lim a).length:Int) - 1)=((lim a).length:Int) - 1:=i64_in (by omega) (by omega)
 simp[w0]
 refine aI (fun k:Nat=> [(0,.sl (iv (lim a))),(1,.sl (iv (lim b))),(5,.int .i64 ((k:Int) - 1))]) (fun _=>bl) (fun k=>k≤(lim a).length∧ ∀j,k≤j→dg a j=dg b j) (fun k=>k) _ (lim a).length ⟨Nat.le_refl _,fun j hj=>by rw[kE hj,kE (by omega)]⟩ ⟨rfl,by simp,Sub.refl _⟩ ?_
 intro k ⟨hk,hc⟩
 refine aC ?_
 simp
 refine⟨fun h1=> ?_,fun h1=> ?_⟩
 ·obtain⟨m,rfl⟩: ∃m,k=m+1:=⟨k - 1,by omega⟩
  have hm:m<(lim a).length:=by omega
  have hm2:m<(lim b).length:=by omega
  have e1:((m+1:Nat):Int) - 1=m:=by omega
  refine cI aL (by kernel_rfl) ?_
  simp[e1,bE _ _ hm,bE _ _ hm2]
  refine⟨fun h2=> ?_,fun h2=> ?_⟩
  ·exact aS (by simp[Og h hm (fun j hj=>hc j (by omega)) h2]) rfl rfl
  refine cI aL (by kernel_rfl) ?_
  simp[e1,bE _ _ hm,bE _ _ hm2]
  refine⟨fun h3=> ?_,fun h3=> ?_⟩
  ·exact aS (by simp[Sh h hm (fun j hj=>hc j (by omega)) h3]) rfl rfl
  have w1:IntKind.i64.wrap ((m:Int) - 1)=(m:Int) - 1:=i64_in (by omega) (by omega)
  simp[w1,aB]
  refine⟨m,⟨by omega,fun j hj=> ?_⟩,by omega,rfl,by simp,Sub.refl _⟩
  rcases Nat.lt_or_ge m j with hlt | hge
  ·exact hc j (by omega)
  ·obtain rfl:j=m:=by omega
   omega
 ·have:k=0:=by omega
  subst this
  exact aS (by simp[Qq h fun j=>hc j (Nat.zero_le _)]) rfl rfl
theorem iH (ns:List Int) (hd:Dig ns) (hn:ns.length≤1048576):RO Tryz.prog 290 [.sl (iv ns)] (.sl (iv (lim (val ns)))):=by
 refine aJ Tryz.func290 rfl rfl (by rw[Tryz.ntmps290];simp) fun bl=> ?_
 rw[Tryz.ntmps290,Tryz.results290]
 refine aC ?_
 simp
 refine aI (fun n:Nat=> [(0,.sl (iv ns)),(3,.int .i64 n)]) (fun _=>bl) (fun n=>n≤ns.length∧ ∀i (hi:i<ns.length),n≤i→ns[i]=0) (fun n=>n) _ ns.length ⟨Nat.le_refl _,fun i hi h=>by omega⟩ ⟨rfl,by simp,Sub.refl _⟩ ?_
 intro n ⟨hl,hz⟩
 refine aC ?_
 simp
 refine bN [(0,.sl (iv ns)),(3,.int .i64 n)] _ bl 15 (.bool (decide (0<n)&& decide (ns.getD (n - 1) 1=0))) ⟨rfl,by simp,Sub.refl _⟩ rfl ?_ ?_
 ·simp
  refine⟨fun h=> ?_,fun h=>by simp[h]⟩
  have w1:IntKind.i64.wrap ((n:Int) - 1)=((n - 1:Nat):Int):=by rw[i64_in (by omega) (by omega)];omega
  have h2:n - 1<ns.length:=by omega
  simp[w1,h2,h,xQ]
 simp
 refine⟨fun h1 h2=> ?_,fun h1=> ?_⟩
 ·have w1:IntKind.i64.wrap ((n:Int) - 1)=((n - 1:Nat):Int):=by rw[i64_in (by omega) (by omega)];omega
  simp[w1,aB]
  refine⟨n - 1,⟨by omega,fun i hi h3=> ?_⟩,by omega,rfl,by simp,Sub.refl _⟩
  rcases Nat.lt_or_ge i n with h4 | h4
  ·obtain rfl:i=n - 1:=by omega
   simpa [hi] using h2
  ·exact hz i hi h4
 ·have hz2: ∀i (hi:i<ns.length),n=i+1→ns[i]≠0:=by
   intro i hi e
   subst e
   have:=h1 (by omega)
   simpa [hi] using this
  have:=H9 hd hl hz hz2
  rw[←this]
  simp[sliV,Jf,hl]
  exact aS (by simp[zY]) rfl rfl
theorem Mf (ns:List Int) (hd:Dig ns) (hn:ns.length≤1048576):RO Tryz.prog 280 [.sl (iv ns)] (.sl (iv (if(lim (val ns)).length≤60 then lim (val ns) else []))):=by
 refine aJ Tryz.func280 rfl rfl (by rw[Tryz.ntmps280];simp) fun bl=> ?_
 rw[Tryz.ntmps280,Tryz.results280]
 refine aC ?_
 simp
 refine aD (iH ns hd hn) ?_
 simp
 refine⟨fun h=> ?_,fun h=> ?_⟩
 ·rw[if_neg (by omega)]
  exact aK [.nils] 0 (by simp) rfl (Sub.refl _)
 ·rw[if_pos (by omega)]
  exact aS (by simp) rfl rfl
theorem Lr (a b:Nat) (ha:(lim a).length≤1000000) (hb:(lim b).length≤1000000):RO Tryz.prog 287 [.sl (iv (lim a)),.sl (iv (lim b))] (.sl (iv (lim (a+b)))):=by
 refine aJ Tryz.func287 rfl rfl (by rw[Tryz.ntmps287];simp) fun bl=> ?_
 rw[Tryz.ntmps287,Tryz.results287]
 refine aC ?_
 simp
 intro g0 hg0 hb0
 refine aI (fun p:Int×PL=> [(0,.sl (iv (lim a))),(1,.sl (iv (lim b))),(5,.lsl p.1 1 0 p.2.i),(6,.int .i64 p.2.c),(7,.int .i64 p.2.i)]) (fun p=>upd bl p.1 (some ⟨1,iv p.2.o⟩))
  (fun p=>0≤p.1∧bl p.1=none∧lC a b p.2.i p.2.o p.2.c∧p.2.i≤1000002∧(p.2.i=0∨LB^(p.2.i - 1)≤a+b)) (fun p=>1000003 - p.2.i) _ (g0,⟨0,[],0⟩) ⟨hg0,hb0,lC.start a b,by simp,.inl rfl⟩ ⟨rfl,by simp,sub_eq (by simp[iv])⟩ ?_
 rintro⟨g,i,o,c⟩ ⟨hg,hbg,hI,hi,hm⟩
 simp only at hg hbg hI hi hm
 have hb1:=hI.x
 have hd1:=eY a i
 have hd2:=eY b i
 have hc0:=hI.c0
 have hc1:=hI.c1
 have hol:=hI.len
 refine aC ?_
 simp
 refine bN [(0,.sl (iv (lim a))),(1,.sl (iv (lim b))),(5,.lsl g 1 0 i),(6,.int .i64 c),(7,.int .i64 i)] _ _ 23 (.bool ((decide (i<(lim a).length)|| decide (i<(lim b).length))|| decide (0<c))) ⟨rfl,by simp,Sub.refl _⟩ rfl ?_ ?_
 ·simp
  exact⟨fun h=> .inl (.inl h),fun h=>⟨fun h2=> .inl (.inr h2),fun h2 h3=>by omega⟩⟩
 simp
 refine⟨fun h=> ?_,fun h1 h2 h3=> ?_⟩
 ·have Jp:=hI.more (by omega)
  have hlen:i<(lim (a+b)).length:=by
   rcases Nat.lt_or_ge i (lim (a+b)).length with hh | hh
   ·exact hh
   ·have:=aM.1 hh;omega
  have aY4:=uH (k:=1000000) ha hb
  have w3:IntKind.i64.wrap ((i:Int)+1)=i+1:=i64_in (by omega) (by omega)
  refine⟨fun h1=> ?_,fun h1=> ?_⟩
  ·simp[bE _ _ h1]
   have wa0:IntKind.i64.wrap (c+(dg a i:Nat))=c+(dg a i:Nat):=i64_in (by omega) (by omega)
   simp[wa0]
   refine⟨fun h2=> ?_,fun h2=> ?_⟩
   ·have wa:IntKind.i64.wrap (c+(dg a i:Nat))=c+(dg a i:Nat):=i64_in (by omega) (by omega)
    have wb:IntKind.i64.wrap (c+(dg a i:Nat)+(dg b i:Nat))=c+(dg a i:Nat)+(dg b i:Nat):=i64_in (by omega) (by omega)
    have wq1:=wq (x:=c+(dg a i:Nat)+(dg b i:Nat)) (n:=1000000000) (by omega) (by omega) (by omega)
    try simp[wq1,w3,wa,wb,bE _ _ h1,bE _ _ h2]
    intro g2 hg2 h2g hb2
    try simp[wq1,w3,wa,wb,bE _ _ h1,bE _ _ h2,h2g,Ne.symm h2g,appV,elsV,Int.not_lt.2 hg2,hol]
    refine⟨by omega,fun g3 hg3 hb3=> ?_⟩
    have gL:bl g3=none:=by grind
    try simp[wq1,w3,wa,wb,bE _ _ h1,bE _ _ h2]
    rw[aB]
    refine⟨(g3,⟨i+1,o++ [(c+(dg a i:Nat)+(dg b i:Nat)).tmod 1000000000],(c+(dg a i:Nat)+(dg b i:Nat)).tdiv 1000000000⟩),⟨hg3,gL,hI.next (by omega),by simp only;omega,.inr (by simpa using Jp)⟩,by simp only;omega,rfl,by simp,?_⟩
    rw[aZ]
    exact dM (by rw[←hol,dZ];simp[iv]) (by simp[hbg,hb2,h2g])
   ·have wa:IntKind.i64.wrap (c+(dg a i:Nat))=c+(dg a i:Nat):=i64_in (by omega) (by omega)
    have zb:dg b i=0:=kE (by omega)
    have wq1:=wq (x:=c+(dg a i:Nat)) (n:=1000000000) (by omega) (by omega) (by omega)
    try simp[wq1,w3,wa,bE _ _ h1]
    intro g2 hg2 h2g hb2
    try simp[wq1,w3,wa,bE _ _ h1,h2g,Ne.symm h2g,appV,elsV,Int.not_lt.2 hg2,hol]
    refine⟨by omega,fun g3 hg3 hb3=> ?_⟩
    have gL:bl g3=none:=by grind
    try simp[wq1,w3,wa,bE _ _ h1]
    rw[aB]
    refine⟨(g3,⟨i+1,o++ [(c+(dg a i:Nat)).tmod 1000000000],(c+(dg a i:Nat)).tdiv 1000000000⟩),⟨hg3,gL,hI.next (by omega),by simp only;omega,.inr (by simpa using Jp)⟩,by simp only;omega,rfl,by simp,?_⟩
    rw[aZ]
    exact dM (by rw[←hol,dZ];simp[iv]) (by simp[hbg,hb2,h2g])
  ·refine⟨fun h2=> ?_,fun h2=> ?_⟩
   ·have wb:IntKind.i64.wrap (c+(dg b i:Nat))=c+(dg b i:Nat):=i64_in (by omega) (by omega)
    have za:dg a i=0:=kE (by omega)
    have wq1:=wq (x:=c+(dg b i:Nat)) (n:=1000000000) (by omega) (by omega) (by omega)
    try simp[wq1,w3,wb,bE _ _ h2]
    intro g2 hg2 h2g hb2
    try simp[wq1,w3,wb,bE _ _ h2,h2g,Ne.symm h2g,appV,elsV,Int.not_lt.2 hg2,hol]
    refine⟨by omega,fun g3 hg3 hb3=> ?_⟩
    have gL:bl g3=none:=by grind
    try simp[wq1,w3,wb,bE _ _ h2]
    rw[aB]
    refine⟨(g3,⟨i+1,o++ [(c+(dg b i:Nat)).tmod 1000000000],(c+(dg b i:Nat)).tdiv 1000000000⟩),⟨hg3,gL,hI.next (by omega),by simp only;omega,.inr (by simpa using Jp)⟩,by simp only;omega,rfl,by simp,?_⟩
    rw[aZ]
    exact dM (by rw[←hol,dZ];simp[iv]) (by simp[hbg,hb2,h2g])
   ·have za:dg a i=0:=kE (by omega)
    have zb:dg b i=0:=kE (by omega)
    have wq1:=wq (x:=c) (n:=1000000000) (by omega) (by omega) (by omega)
    try simp[wq1,w3]
    intro g2 hg2 h2g hb2
    try simp[wq1,w3,h2g,Ne.symm h2g,appV,elsV,Int.not_lt.2 hg2,hol]
    refine⟨by omega,fun g3 hg3 hb3=> ?_⟩
    have gL:bl g3=none:=by grind
    try simp[wq1,w3]
    rw[aB]
    refine⟨(g3,⟨i+1,o++ [(c).tmod 1000000000],(c).tdiv 1000000000⟩),⟨hg3,gL,hI.next (by omega),by simp only;omega,.inr (by simpa using Jp)⟩,by simp only;omega,rfl,by simp,?_⟩
    rw[aZ]
    exact dM (by rw[←hol,dZ];simp[iv]) (by simp[hbg,hb2,h2g])
 ·have hc:c=0:=by omega
  subst hc
  rw[←hI.spec (by omega) (by omega) hm]
  exact aK [.lsl g 1 0 i] 1 (by simp) (dH hg hbg (by simp) (by simp[hol]) (qF o)) (by simp[hbg])

theorem fR (a b:Nat) (ha:(lim a).length≤400000) (hb:(lim b).length≤400000):RO Tryz.prog 266 [.sl (iv (lim a)),.sl (iv (lim b))] (.sl (iv (lim (a*b)))):=by
 by_cases h0:a=0∨b=0
 ·have hz:a*b=0:=Nat.mul_eq_zero.2 h0
  rw[hz,aW]
  refine aJ Tryz.func266 rfl rfl (by rw[Tryz.ntmps266];simp) fun bl=> ?_
  rw[Tryz.ntmps266,Tryz.results266]
  refine aC ?_
  simp
  refine bN [(0,.sl (iv (lim a))),(1,.sl (iv (lim b)))] _ bl 19 (.bool true) ⟨rfl,by simp,Sub.refl _⟩ rfl ?_ ?_
  ·simp
   rcases h0 with h0 | h0
   ·simp[h0,aW]
   ·simp[h0,aW]
  simp
  exact aK [.nils] 0 (by simp) rfl (Sub.refl _)
 have ha0:a≠0:=by omega
 have hb0:b≠0:=by omega
 have la:(lim a).length≠0:=fun h=>ha0 (eV.1 (List.length_eq_zero_iff.1 h))
 have lb:(lim b).length≠0:=fun h=>hb0 (eV.1 (List.length_eq_zero_iff.1 h))
 refine aJ Tryz.func266 rfl rfl (by rw[Tryz.ntmps266];simp) fun bl=> ?_
 rw[Tryz.ntmps266,Tryz.results266]
 refine aC ?_
 simp
 refine bN [(0,.sl (iv (lim a))),(1,.sl (iv (lim b)))] _ bl 19 (.bool false) ⟨rfl,by simp,Sub.refl _⟩ rfl ?_ ?_
 ·have na:lim a≠ []:=fun h=>la (by rw[h];rfl)
  have nb:lim b≠ []:=fun h=>lb (by rw[h];rfl)
  simp[na,nb]
 have w0:IntKind.i64.wrap (((lim a).length:Int)+(lim b).length)=(lim a).length+(lim b).length:=i64_in (by omega) (by omega)
 simp[w0]
 refine⟨(lim a).length+(lim b).length,by simp,by simp,by omega,by unfold maxLen;omega,fun g hg0 hg=> ?_⟩
 have er:List.replicate ((lim a).length+(lim b).length) [V.int IntKind.i64 0]=iv (List.replicate ((lim a).length+(lim b).length) 0):=by simp[iv]
 simp[er]
 refine aI (fun p:TL=> [(0,.sl (iv (lim a))),(1,.sl (iv (lim b))),(5,.lsl g 1 0 ((lim a).length+(lim b).length)),(26,.sl (iv (lim a))),(27,.int .i64 (lim a).length),(28,.int .i64 p.i)]) (fun p=>upd bl g (some ⟨1,iv p.O⟩))
  (fun p=>p.i≤(lim a).length∧iP a b p.i 0 p.O 0) (fun p=>(lim a).length - p.i) _ ⟨0,0,_,0⟩ ⟨Nat.zero_le _,iP.start a b⟩ ⟨rfl,by simp,sub_eq (by simp)⟩ ?_
 rintro⟨i,j0,O,c0⟩ ⟨hi,hI⟩
 simp only at hi hI
 refine aC ?_
 simp
 refine⟨fun h1=> ?_,fun h1=> ?_⟩
 ·simp[bE _ _ h1]
  refine aI (fun p:TL=> [(0,.sl (iv (lim a))),(1,.sl (iv (lim b))),(5,.lsl g 1 0 ((lim a).length+(lim b).length)),(6,.int .i64 i),(7,.int .i64 (dg a i:Nat)),(8,.int .i64 p.c),(26,.sl (iv (lim a))),(27,.int .i64 (lim a).length),(28,.int .i64 i),(33,.sl (iv (lim b))),(34,.int .i64 (lim b).length),(35,.int .i64 p.j)]) (fun p=>upd bl g (some ⟨1,iv p.O⟩))
   (fun p=>p.j≤(lim b).length∧iP a b i p.j p.O p.c) (fun p=>(lim b).length - p.j) _ ⟨i,0,O,0⟩ ⟨Nat.zero_le _,hI⟩ ⟨rfl,by simp,sub_eq (by simp)⟩ ?_
  rintro⟨i',j,O,c⟩ ⟨hj,hJ⟩
  simp only at hj hJ
  have hlen:=hJ.len
  refine aC ?_
  simp
  refine⟨fun h2=> ?_,fun h2=> ?_⟩
  ·have hk:i+j<O.length:=by omega
   obtain⟨n1,n2,n3,hN⟩:=hJ.next h1 h2 hk
   have w1:IntKind.i64.wrap ((i:Int)+j)=(i:Int)+j:=i64_in (by omega) (by omega)
   have p1:0≤(i:Int)+j:=by omega
   have p2:(i:Int)+j<(lim a).length+(lim b).length:=by omega
   have p3:((i:Int)+j).toNat=i+j:=by omega
   have w3:IntKind.i64.wrap ((j:Int)+1)=j+1:=i64_in (by omega) (by omega)
   have hm:0≤(dg a i:Int)*dg b j∧(dg a i:Int)*dg b j<1000000000000000000:=by
    have hO:=hJ.dig.at hk
    have e:0≤(dg a i:Int)*dg b j:=by rw[←Int.natCast_mul];omega
    exact⟨e,by omega⟩
   have hO:=hJ.dig.at hk
   have w4:IntKind.i64.wrap ((dg a i:Int)*dg b j)=(dg a i:Int)*dg b j:=i64_in (by omega) (by omega)
   have w5:IntKind.i64.wrap (O[i+j]+(dg a i:Int)*dg b j)=O[i+j]+(dg a i:Int)*dg b j:=i64_in (by omega) (by omega)
   have w6:IntKind.i64.wrap (O[i+j]+(dg a i:Int)*dg b j+c)=O[i+j]+(dg a i:Int)*dg b j+c:=i64_in (by omega) (by omega)
   have w7:=wq (x:=O[i+j]+(dg a i:Int)*dg b j+c) (n:=1000000000) n3 (by omega) (by omega)
   simp[bE _ _ h2,w1,w3,w4,w5,w6,w7,p1,p2,p3,hk]
   rw[aB]
   obtain⟨c',hc'⟩: ∃c':Nat,(O[i+j]+(dg a i:Int)*dg b j+c).tdiv 1000000000=c':=⟨((O[i+j]+(dg a i:Int)*dg b j+c).tdiv 1000000000).toNat,by omega⟩
   refine⟨⟨i,j+1,O.set (i+j) ((O[i+j]+(dg a i:Int)*dg b j+c).tmod 1000000000),c'⟩,⟨by simp only;omega,?_⟩,by simp only;omega,rfl,by simp[hc'],sub_eq ?_⟩
   ·rw[hc'] at hN;exact hN
   ·rw[fI]
  ·have e:j=(lim b).length:=by omega
   have hk:i+(lim b).length<O.length:=by omega
   have hR:=hJ.row h1 (by omega) hj hk
   have w1:IntKind.i64.wrap ((i:Int)+(lim b).length)=(i:Int)+(lim b).length:=i64_in (by omega) (by omega)
   have p1:0≤(i:Int)+(lim b).length:=by omega
   have p2:(i:Int)+(lim b).length<(lim a).length+(lim b).length:=by omega
   have p3:((i:Int)+(lim b).length).toNat=i+(lim b).length:=by omega
   have w3:IntKind.i64.wrap ((i:Int)+1)=i+1:=i64_in (by omega) (by omega)
   simp[w1,w3,p1,p2,p3,hk]
   rw[aB]
   refine⟨⟨i+1,0,O.set (i+(lim b).length) c,0⟩,⟨by simp only;omega,hR⟩,by simp only;omega,rfl,by simp,sub_eq ?_⟩
   rw[fI]
 ·have hv:=hI.done (c:=0) (by omega)
  have hlen:=hI.len
  have hg':bl g=none:=by simpa using hg
  try simp
  refine iK 1 bl _ (by simp[hg']) (nH hg0 hg' (by simp) hlen) (iH _ hI.dig (by omega)) ?_
  rw[hv]
  simp
  exact aS (by simp) rfl rfl
theorem Af (a b:Nat) (ha:(lim a).length≤1048576) (hb0:0<b) (hb:b<1000000000):RO Tryz.prog 295 [.sl (iv (lim a)),.int .i64 b] (.tup [.sl (iv (lim (a / b))),.int .i64 (a % b:Nat)]):=by
 refine aJ Tryz.func295 rfl rfl (by rw[Tryz.ntmps295];simp) fun bl=> ?_
 rw[Tryz.ntmps295,Tryz.results295]
 refine aC ?_
 simp
 refine⟨by omega,by unfold maxLen;omega,fun g hg0 hg=> ?_⟩
 have er:List.replicate ((lim a).length) [V.int IntKind.i64 0]=iv (List.replicate ((lim a).length) 0):=by simp[iv]
 have w0:IntKind.i64.wrap (((lim a).length:Int) - 1)=((lim a).length:Int) - 1:=i64_in (by omega) (by omega)
 simp[er,w0]
 refine aI (fun p:SL=> [(0,.sl (iv (lim a))),(1,.int .i64 b),(6,.lsl g 1 0 (lim a).length),(7,.int .i64 p.r),(8,.int .i64 ((p.i:Int) - 1))]) (fun p=>upd bl g (some ⟨1,iv (List.replicate p.i 0++p.Q)⟩))
  (fun p=>0≤p.r∧qL a b p.i p.Q p.r.toNat) (fun p=>p.i) _ ⟨(lim a).length,[],0⟩ ⟨Int.le_refl _,qL.start a b hb0⟩ ⟨rfl,by simp,sub_eq (by simp)⟩ ?_
 rintro⟨i,Q,r⟩ ⟨hr0,hI⟩
 simp only at hr0 hI
 have hr:=hI.rlt
 have hle:=hI.le
 have hql:=hI.len
 refine aC ?_
 simp[-binV, -intV]
 refine⟨fun h1=> ?_,fun h1=> ?_⟩
 ·obtain⟨m,rfl⟩: ∃m,i=m+1:=⟨i - 1,by omega⟩
  have hm:m<(lim a).length:=by omega
  have hd:=eY a m
  obtain⟨z,hz⟩: ∃z,z=r.toNat*1000000000+dg a m:=⟨_,rfl⟩
  have hN:=hI.next (q:=z / b) (r':=z % b) (by rw[hz]) (by rw[hz])
  have e1:((m+1:Nat):Int) - 1=m:=by omega
  have w1:IntKind.i64.wrap (r*1000000000)=r*1000000000:=i64_in (by omega) (by omega)
  have w2:IntKind.i64.wrap (r*1000000000+dg a m)=z:=by rw[i64_in (by omega) (by omega)];omega
  have hz2:z≤9223372036854775807:=by omega
  simp[-binV, -intV,e1,bE _ _ hm,w1,w2]
  clear w1 w2 hz
  have b0: ¬ b=0:=by omega
  have hg':bl g=none:=by simpa using hg
  have w3:=wq (x:=(z:Int)) (n:=b) (by omega) (by omega) (by omega)
  have w4:(z:Int).tdiv b=(z / b:Nat):=by rw[Int.tdiv_eq_ediv_of_nonneg (by omega)];simp
  have w5:(z:Int).tmod b=(z % b:Nat):=by rw[Int.tmod_eq_emod_of_nonneg (by omega)];simp
  rw[w4] at w3
  have w3':IntKind.i64.wrap ((z:Int) / b)=(z:Int) / b:=by simpa using w3
  have q:(iv (List.replicate (m+1) 0++Q))[m]? =some [.int .i64 0]:=by rw[eC _ _ (by simp;omega)];simp
  have w6:IntKind.i64.wrap ((m:Int) - 1)=(m:Int) - 1:=i64_in (by omega) (by omega)
  refine⟨by omega,?_⟩
  simp[-binV, -intV,w3',w4,w5,hm,b0,q,w6]
  rw[aB]
  refine⟨⟨m,((z / b:Nat):Int)::Q,(z % b:Nat)⟩,⟨by simp only;omega,by show qL a b m _ (((z % b:Nat):Int)).toNat;rw[Int.toNat_natCast];exact hN⟩,by simp only;omega,rfl,by simp,sub_eq ?_⟩
  rw[←qX m _ 0 Q,←fI]
  simp
 ·have e:i=0:=by omega
  subst e
  obtain⟨h2,h3⟩:=hI.done
  have h4:r=(a % b:Nat):=by omega
  have hg':bl g=none:=by simpa using hg
  try simp
  refine iK 1 bl _ (by simp[hg']) (nH (ns:=Q) hg0 hg' (by simp) (by simp[hql])) (iH _ hI.dig (by omega)) ?_
  simp[h2,h4]
  exact aK [.sl (iv (lim (a / b))),.int .i64 (a % b:Nat)] 1 (by simp) rfl (by simp)
theorem vZ (a b:Nat) (hab:b≤a) (ha:(lim a).length≤1000000):RO Tryz.prog 289 [.sl (iv (lim a)),.sl (iv (lim b))] (.sl (iv (lim (a - b)))):=by
 refine aJ Tryz.func289 rfl rfl (by rw[Tryz.ntmps289];simp) fun bl=> ?_
 rw[Tryz.ntmps289,Tryz.results289]
 refine aC ?_
 simp
 intro g0 hg0 hb0
 refine aI (fun p:Int×ML=> [(0,.sl (iv (lim a))),(1,.sl (iv (lim b))),(5,.lsl p.1 1 0 p.2.i),(6,.int .i64 p.2.br),(10,.sl (iv (lim a))),(11,.int .i64 (lim a).length),(12,.int .i64 p.2.i)]) (fun p=>upd bl p.1 (some ⟨1,iv p.2.o⟩))
  (fun p=>0≤p.1∧bl p.1=none∧iW a b p.2.i p.2.o p.2.br∧p.2.i≤(lim a).length) (fun p=>(lim a).length - p.2.i) _ (g0,⟨0,[],0⟩) ⟨hg0,hb0,iW.start a b,by simp⟩ ⟨rfl,by simp,sub_eq (by simp[iv])⟩ ?_
 rintro⟨g,i,o,br⟩ ⟨hg,hbg,hI,hi⟩
 simp only at hg hbg hI hi
 have hb1:=hI.x
 have hd1:=eY a i
 have hd2:=eY b i
 have hc1:=hI.c1
 have hol:=hI.len
 refine aC ?_
 simp
 refine⟨fun h1=> ?_,fun h1=> ?_⟩
 ·have w1:IntKind.i64.wrap ((dg a i:Int) - br)=dg a i - br:=i64_in (by omega) (by omega)
  have w2:IntKind.i64.wrap ((dg a i:Int) - br - dg b i)=dg a i - br - dg b i:=i64_in (by omega) (by omega)
  have w3:IntKind.i64.wrap ((i:Int)+1)=i+1:=i64_in (by omega) (by omega)
  simp[bE _ _ h1,w1]
  refine⟨fun h2=> ?_,fun h2=> ?_⟩
  ·simp[bE _ _ h2,w2]
   refine⟨fun h3=> ?_,fun h3=> ?_⟩
   ·have w4:IntKind.i64.wrap ((dg a i:Int) - br - dg b i+1000000000)=dg a i - br - dg b i+1000000000:=i64_in (by omega) (by omega)
    try simp[w4,w3]
    intro g2 hg2 h2g hb2
    simp[w4,w3,h2g,Ne.symm h2g,appV,elsV,Int.not_lt.2 hg2,hol]
    refine⟨by omega,fun g3 hg3 hb3=> ?_⟩
    have gL:bl g3=none:=by grind
    try simp[w4,w3]
    rw[aB]
    refine⟨(g3,⟨i+1,o++ [((dg a i:Int) - br - dg b i+1000000000:Int)],1⟩),⟨hg3,gL,hI.Q9 (x:=(dg a i:Int) - br - dg b i) rfl (by omega),by simp only;omega⟩,by simp only;omega,rfl,by simp,?_⟩
    rw[aZ]
    exact dM (by rw[←hol,dZ];simp[iv]) (by simp[hbg,hb2,h2g])
   ·try simp[w3]
    intro g2 hg2 h2g hb2
    simp[w3,h2g,Ne.symm h2g,appV,elsV,Int.not_lt.2 hg2,hol]
    refine⟨by omega,fun g3 hg3 hb3=> ?_⟩
    have gL:bl g3=none:=by grind
    try simp[w3]
    rw[aB]
    refine⟨(g3,⟨i+1,o++ [((dg a i:Int) - br - dg b i:Int)],0⟩),⟨hg3,gL,hI.O6 (x:=(dg a i:Int) - br - dg b i) rfl (by omega),by simp only;omega⟩,by simp only;omega,rfl,by simp,?_⟩
    rw[aZ]
    exact dM (by rw[←hol,dZ];simp[iv]) (by simp[hbg,hb2,h2g])
  ·have d0:dg b i=0:=kE (by omega)
   refine⟨fun h3=> ?_,fun h3=> ?_⟩
   ·have w4:IntKind.i64.wrap ((dg a i:Int) - br+1000000000)=dg a i - br+1000000000:=i64_in (by omega) (by omega)
    try simp[w4,w3]
    intro g2 hg2 h2g hb2
    simp[w4,w3,h2g,Ne.symm h2g,appV,elsV,Int.not_lt.2 hg2,hol]
    refine⟨by omega,fun g3 hg3 hb3=> ?_⟩
    have gL:bl g3=none:=by grind
    try simp[w4,w3]
    rw[aB]
    refine⟨(g3,⟨i+1,o++ [((dg a i:Int) - br+1000000000:Int)],1⟩),⟨hg3,gL,hI.Q9 (x:=(dg a i:Int) - br) (by omega) (by omega),by simp only;omega⟩,by simp only;omega,rfl,by simp,?_⟩
    rw[aZ]
    exact dM (by rw[←hol,dZ];simp[iv]) (by simp[hbg,hb2,h2g])
   ·try simp[w3]
    intro g2 hg2 h2g hb2
    simp[w3,h2g,Ne.symm h2g,appV,elsV,Int.not_lt.2 hg2,hol]
    refine⟨by omega,fun g3 hg3 hb3=> ?_⟩
    have gL:bl g3=none:=by grind
    try simp[w3]
    rw[aB]
    refine⟨(g3,⟨i+1,o++ [((dg a i:Int) - br:Int)],0⟩),⟨hg3,gL,hI.O6 (x:=(dg a i:Int) - br) (by omega) (by omega),by simp only;omega⟩,by simp only;omega,rfl,by simp,?_⟩
    rw[aZ]
    exact dM (by rw[←hol,dZ];simp[iv]) (by simp[hbg,hb2,h2g])
 ·have e:i=(lim a).length:=by omega
  subst e
  have hv:=hI.done hab (Nat.le_refl _)
  refine iK 1 bl _ (by simp[hbg]) (nH (ns:=o) hg hbg (by simp) hol) (iH _ hI.dig (by omega)) ?_
  simp[hv]
  exact aS (by simp) rfl rfl
theorem gP (N:Nat) (hN:N≤9223372036854775807):RO Tryz.prog 267 [.int .i64 N] (.sl (iv (lim N))):=by
 have hL:=uZ (show N≤18446744073709551615 by omega)
 refine aJ Tryz.func267 rfl rfl (by rw[Tryz.ntmps267];simp) fun bl=> ?_
 rw[Tryz.ntmps267,Tryz.results267]
 refine aC ?_
 simp
 intro g0 hg0 hb0
 refine aI (fun p:Int×List Int×Nat=> [(0,.int .i64 p.2.2),(3,.lsl p.1 1 0 p.2.1.length)]) (fun p=>upd bl p.1 (some ⟨1,iv p.2.1⟩)) (fun p=>lim N=p.2.1++lim p.2.2∧p.2.2≤9223372036854775807∧bl p.1=none∧0≤p.1) (fun p=>p.2.2) _ (g0,[],N) ⟨by simp,hN,hb0,hg0⟩ ⟨rfl,by simp,sub_eq (by simp[iv])⟩ ?_
 rintro⟨g,o,n⟩ ⟨hl,hn,hg,h0⟩
 simp only at hl hn hg h0
 have hlo:o.length≤3:=by have:=congrArg List.length hl;simp at this;omega
 refine aC ?_
 simp
 refine⟨fun h=> ?_,fun h=> ?_⟩
 ·have m0:(n:Int).tmod 1000000000=((n % 1000000000:Nat):Int):=by rw[Int.tmod_eq_emod_of_nonneg (by omega)];omega
  have q0:(n:Int).tdiv 1000000000=((n / 1000000000:Nat):Int):=by rw[Int.tdiv_eq_ediv_of_nonneg (by omega)];omega
  have w2:IntKind.i64.wrap ((n:Int) / 1000000000)=(n:Int) / 1000000000:=i64_in (by omega) (by omega)
  intro g2 hg2 h2g hb2
  simp[h2g,Ne.symm h2g,appV,elsV,Int.not_lt.2 hg2,m0,q0,w2]
  refine⟨by omega,fun g3 hg3 hb3=> ?_⟩
  have gL:bl g3=none:=by grind
  try simp[m0,q0,w2]
  rw[aB]
  refine⟨(g3,o++ [((n % 1000000000:Nat):Int)],n / 1000000000),⟨by rw[hl,Dk h];simp,by simp only;omega,gL,hg3⟩,by simp only;omega,rfl,by simp,?_⟩
  rw[aZ]
  exact dM (by rw[dZ];simp[iv,m0]) (by simp[hg,hb2,h2g])
 ·have e:n=0:=by omega
  subst e
  rw[aW,List.append_nil] at hl
  rw[hl]
  exact aK [.lsl g 1 0 o.length] 1 (by simp) (dH h0 hg (by simp) (by simp) (qF o)) (by simp[hg])
theorem Br (a b:Nat) (ha:a≤9223372036854775807) (hb:b≤9223372036854775807):RO Tryz.prog 285 [.int .i64 a,.int .i64 b] (.sl (iv (lim (Nat.gcd a b)))):=by
 refine aJ Tryz.func285 rfl rfl (by rw[Tryz.ntmps285];simp) fun bl=> ?_
 rw[Tryz.ntmps285,Tryz.results285]
 refine aC ?_
 simp
 refine aI (fun p:Nat×Nat=> [(0,.int .i64 p.1),(1,.int .i64 p.2)]) (fun _=>bl) (fun p=>Nat.gcd p.1 p.2=Nat.gcd a b∧p.1≤9223372036854775807∧p.2≤9223372036854775807) (fun p=>p.2) _ (a,b) ⟨rfl,ha,hb⟩ ⟨rfl,by simp,Sub.refl _⟩ ?_
 rintro⟨x,y⟩ ⟨hg,hx,hy⟩
 simp only at hg hx hy
 refine aC ?_
 simp
 refine⟨fun h=> ?_,fun h=> ?_⟩
 ·have hy0: ¬ y=0:=by omega
  have hlt:=Nat.mod_lt x h
  have m0:(x:Int).tmod y=((x % y:Nat):Int):=by rw[Int.tmod_eq_emod_of_nonneg (by omega)];simp
  simp[hy0,m0,aB]
  refine⟨y,x % y,⟨?_,hy,by omega⟩,hlt,rfl,by simp,Sub.refl _⟩
  rw[←hg,Nat.gcd_comm x y,Nat.gcd_rec y x,Nat.gcd_comm]
 ·have h0:y=0:=by omega
  subst h0
  rw[Nat.gcd_zero_right] at hg
  refine aD (gP x hx) ?_
  rw[←hg]
  simp
  exact aS (by simp) rfl rfl
end Go.Proofs.YticmgmemnpcbbaaGreat.Vm
