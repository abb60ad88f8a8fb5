import Derived.Test.YticmgmemnpcbbaaGreatQCFnExactCanPretension4

namespace Go.Proofs.YticmgmemnpcbbaaGreat.Vm
set_option linter.unusedSimpArgs false
set_option linter.unusedVariables false
structure gI (a b i j : Nat) (O : List Int) (c : Nat) : Prop where
 len:O.length=(lim a).length+(lim b).length
 dig:Dig O
 c1:c<1000000000
 z: ∀k (hk:k<O.length),i+(lim b).length≤k→O[k]=0
 v:val O+c*LB^(i+j)=pv a i*b+LB^i*(dg a i*pv b j)
theorem gI.start (a b:Nat):gI a b 0 0 (List.replicate ((lim a).length+(lim b).length) 0) 0:=by
 refine⟨by simp,pN _,by decide,fun k hk _=>by simp,?_⟩
 rw[pM];simp
theorem gI.next {a b i j:Nat} {O:List Int} {c:Nat} (h:gI a b i j O c) (hi:i<(lim a).length) (hj:j<(lim b).length) (hk:i+j<O.length):
  0≤(O[i+j]+dg a i*dg b j+c).tdiv 1000000000∧O[i+j]+dg a i*dg b j+c<1000000000000000000∧0≤O[i+j]+dg a i*dg b j+c∧
  gI a b i (j+1) (O.set (i+j) ((O[i+j]+dg a i*dg b j+c).tmod 1000000000)) ((O[i+j]+dg a i*dg b j+c).tdiv 1000000000).toNat:=by
 have h0:=h.dig.at hk
 have hx:=eC a i
 have hy:=eC b j
 have hc:=h.c1
 obtain⟨b1,b2,b3,b4⟩:=R0 (o:=O[i+j]) (n:=dg a i) (m:=dg b j) (c:=c) h0 (by omega) (by omega) (by omega)
 have hs:=yL hk h.dig h.v (n:=dg a i) (m:=dg b j)
 refine⟨b3,b2,b1,by simp[h.len],h.dig.set ?_,by omega,fun k hk2 hz=> ?_,?_⟩
 ·rw[Int.tmod_eq_emod_of_nonneg b1];omega
 ·rw[List.getElem_set_ne (by omega)]
  exact h.z k (by simpa using hk2) hz
 ·rw[←Nat.add_assoc,hs,dW,Nat.pow_add]
  have e:LB^i*(dg a i*(pv b j+LB^j*dg b j))=LB^i*(dg a i*pv b j)+LB^i*LB^j*(dg a i*dg b j):=by
   rw[Nat.mul_add,Nat.mul_add]
   congr 1
   rw[←Nat.mul_assoc,←Nat.mul_assoc,←Nat.mul_assoc,Nat.mul_assoc (LB^i) (dg a i),Nat.mul_comm (dg a i) (LB^j),←Nat.mul_assoc]
  omega
theorem gI.row {a b i j:Nat} {O:List Int} {c:Nat} (h:gI a b i j O c) (hi:i<(lim a).length) (hj:(lim b).length≤j) (hj2:j≤(lim b).length) (hk:i+(lim b).length<O.length):gI a b (i+1) 0 (O.set (i+(lim b).length) c) 0:=by
 have e:j=(lim b).length:=by omega
 subst e
 have hc:=h.c1
 have hv:=oO hk c
 have hz:=h.z _ hk (Nat.le_refl _)
 refine⟨by simp[h.len],h.dig.set (by omega),by decide,fun k hk2 hz=> ?_,?_⟩
 ·rw[List.getElem_set_ne (by omega)]
  exact h.z k (by simpa using hk2) (by omega)
 ·rw[hz] at hv
  have:=h.v
  rw[eY (Nat.le_refl _)] at this
  simp at hv ⊢
  rw[hv,dW,Nat.add_mul,Nat.mul_assoc]
  rw[Nat.mul_comm c] at this
  omega
theorem gI.done {a b i:Nat} {O:List Int} {c:Nat} (h:gI a b i 0 O 0) (hi:(lim a).length≤i):val O=a*b:=by
 have:=h.v
 rw[eY hi] at this
 simpa using this
structure oE (a b i : Nat) (Q : List Int) (r : Nat) : Prop where
 le:i≤(lim a).length
 len:Q.length=(lim a).length - i
 dig:Dig Q
 rlt:r<b
 v:val ((lim a).drop i)=val Q*b+r
theorem oE.start (a b:Nat) (hb:0<b):oE a b (lim a).length [] 0:=⟨Nat.le_refl _,by simp,(fun _ h=>by cases h),hb,by simp[val]⟩
theorem oE.quot {b r d:Nat} (hr:r<b) (hd:d<1000000000):(r*1000000000+d) / b<1000000000:=by
 rw[Nat.div_lt_iff_lt_mul (by omega)]
 have:(r+1)*1000000000≤b*1000000000:=Nat.mul_le_mul_right _ hr
 omega
theorem oE.next {a b i:Nat} {Q:List Int} {r:Nat} (h:oE a b (i+1) Q r) {q r':Nat} (hq:q=(r*1000000000+dg a i) / b) (hr:r'=(r*1000000000+dg a i) % b):oE a b i ((q:Int)::Q) r':=by
 have hl:=h.le
 have hb:0<b:=by have:=h.rlt;omega
 have hd:=eC a i
 have hlt:=oE.quot h.rlt hd
 refine⟨by omega,by simp[h.len];omega,fun d hd=> ?_,?_,?_⟩
 ·rcases List.mem_cons.1 hd with rfl | hd
  ·omega
  ·exact h.dig d hd
 ·subst hr;exact Nat.mod_lt _ hb
 ·rw[List.drop_eq_getElem_cons (by omega),val,val,fP (by omega),h.v]
  simp only[Int.toNat_natCast]
  have:=Au (Q:=val Q) (A:=val Q*b+r) (r:=r) (b:=b) (a:=dg a i) (L:=LB) rfl hb
  rw[this,hq,hr]
  rfl
theorem oE.done {a b:Nat} {Q:List Int} {r:Nat} (h:oE a b 0 Q r):val Q=a / b∧r=a % b:=by
 have hv:=h.v
 have hr:=h.rlt
 simp at hv
 rw[hv]
 rw[Nat.mul_comm,Nat.mul_add_div (by omega),Nat.div_eq_of_lt hr,Nat.mul_add_mod,Nat.mod_eq_of_lt hr]
 exact⟨rfl,rfl⟩
theorem nK (i:Nat) (q z:Int) (Q:List Int):(List.replicate (i+1) z++Q).set i q=List.replicate i z++q::Q:=by
 rw[List.replicate_succ',List.append_assoc,List.set_append_right _ _ (by simp)]
 simp
theorem Fa (i:Nat) (z:Int) (Q:List Int):List.replicate (i+1) z++Q=List.replicate i z++z::Q:=by
 rw[List.replicate_succ',List.append_assoc];rfl

theorem iS (l:List Int) {k:Nat} (h:k≤l.length):val l=val (l.take k)+LB^k*val (l.drop k):=by
 have:=hH (l.take k) (l.drop k)
 rw[List.take_append_drop,List.length_take,Nat.min_eq_left h] at this
 exact this
theorem mG {l:List Int} (h:Dig l) {k:Nat} :val (l.take k)<LB^k:=by
 refine Nat.lt_of_lt_of_le (xE (yO h k)) (Nat.pow_le_pow_right gZ ?_)
 simp;omega
theorem qA : ∀ {l:List Int} {n:Nat} (h:Dig l) (hv:val l<LB^n) (k:Nat) (hk:k<l.length),n≤k→l[k]=0
 | [], n, _, _, k, hk, _ => by simp at hk
 | d :: l, 0, h, hv, 0, hk, _ => by
   have:=h d List.mem_cons_self
   simp[val] at hv ⊢;omega
 | d :: l, 0, h, hv, k + 1, hk, _ => by
   have h0:val l<LB^0:=by
    simp only[val,Nat.pow_zero] at hv ⊢
    rcases Nat.eq_zero_or_pos (val l) with h | h
    ·omega
    ·have:=Nat.mul_le_mul (Nat.le_of_eq (rfl:LB=LB)) h
     have:LB=1000000000:=rfl
     omega
   simpa using qA h.tail h0 k (by simpa using hk) (Nat.zero_le _)
 | d :: l, n + 1, h, hv, 0, hk, hn => by omega
 | d :: l, n + 1, h, hv, k + 1, hk, hn => by
   have h0:val l<LB^n:=by
    simp only[val,Nat.pow_succ] at hv
    rcases Nat.lt_or_ge (val l) (LB^n) with h | h
    ·exact h
    ·have:=Nat.mul_le_mul_left LB h
     rw[Nat.mul_comm LB (LB^n)] at this
     omega
   simpa using qA h.tail h0 k (by simpa using hk) (by omega)
theorem H3 {l:List Int} {n:Nat} (hz: ∀k (hk:k<l.length),n<k→l[k]=0) (hn:n<l.length):val l=val (l.take n)+LB^n*l[n].toNat:=by
 rw[←jC hn,pL fun i hi h=>hz i hi (by omega)]
structure iF (u : List Int) (V g j i : Nat) (O : List Int) (c : Nat) : Prop where
 len:O.length=u.length
 dig:Dig O
 c1:c<1000000000
 v:val O+LB^j*(g*pv V i)=val u+c*LB^(j+i)
 same: ∀k (h:k<O.length) (h2:k<u.length),k<j∨j+i≤k→O[k]=u[k]
theorem iF.start {u:List Int} (V g j:Nat) (h:Dig u):iF u V g j 0 u 0:=⟨rfl,h,by decide,by simp,fun _ _ _ _=>rfl⟩
theorem iF.acc (V g j i:Nat):LB^j*(g*pv V (i+1))=LB^j*(g*pv V i)+LB^(j+i)*(g*dg V i):=by
 rw[dW,Nat.mul_add,Nat.mul_add,Nat.pow_add]
 congr 1
 rw[←Nat.mul_assoc,←Nat.mul_assoc,←Nat.mul_assoc,Nat.mul_assoc (LB^j) g,Nat.mul_comm g (LB^i),←Nat.mul_assoc]
theorem iF.x {u:List Int} {V g j i:Nat} {O:List Int} {c:Nat} (h:iF u V g j i O c) (hg:g<1000000000) (hk:j+i<O.length):
  0≤(g:Int)*dg V i∧(g:Int)*dg V i≤999999998000000001:=by
 have h2:=eC V i
 refine⟨by rw[←Int.natCast_mul];omega,?_⟩
 have:(g:Int)*dg V i≤999999999*999999999:=Int.mul_le_mul (by omega) (by omega) (by omega) (by omega)
 omega
theorem iF.A8 {u:List Int} {V g j i:Nat} {O:List Int} {c:Nat} (h:iF u V g j i O c) (hg:g<1000000000) (hk:j+i<O.length) {x:Int} (hx:x=O[j+i] - g*dg V i - c) (h0:0≤x):
  iF u V g j (i+1) (O.set (j+i) x) 0:=by
 have ho:=h.dig.at hk
 obtain⟨m0,m1⟩:=h.x hg hk
 refine⟨by simp[h.len],h.dig.set (by omega),by decide,?_,fun k h1 h2 h3=> ?_⟩
 ·rw[iF.acc,←Nat.add_assoc j i 1]
  have:=take_set hk h.dig h.v (m:=g*dg V i) (c':=0) (x:=x) (by rw[hx];simp) h0
  omega
 ·rw[List.getElem_set_ne (by omega)]
  exact h.same k _ h2 (by omega)
theorem iF.zY {u:List Int} {V g j i:Nat} {O:List Int} {c:Nat} (h:iF u V g j i O c) (hg:g<1000000000) (hk:j+i<O.length) {x y:Int} (hx:x=O[j+i] - g*dg V i - c) (h0:x<0) (hy:y=(1000000000 - 1 - x).tdiv 1000000000):
  0≤y∧y<1000000000∧iF u V g j (i+1) (O.set (j+i) (x+y*1000000000)) y.toNat:=by
 have ho:=h.dig.at hk
 have hc:=h.c1
 obtain⟨m0,m1⟩:=h.x hg hk
 obtain⟨c1,c2,c3⟩:=X6 (o:=0) h0 hy
 have c4:y<1000000000:=by
  rw[Int.tdiv_eq_ediv_of_nonneg (by omega)] at hy
  omega
 refine⟨c3,c4,by simp[h.len],h.dig.set ⟨c1,c2⟩,by omega,?_,fun k h1 h2 h3=> ?_⟩
 ·rw[iF.acc,←Nat.add_assoc j i 1]
  have:=take_set hk h.dig h.v (m:=g*dg V i) (c':=y.toNat) (x:=x+y*1000000000) (by rw[hx];simp;omega) c1
  omega
 ·rw[List.getElem_set_ne (by omega)]
  exact h.same k _ h2 (by omega)
structure rZ (O : List Int) (V j i : Nat) (W : List Int) (c : Nat) : Prop where
 len:W.length=O.length
 dig:Dig W
 c1:c≤1
 v:val W+c*LB^(j+i)=val O+LB^j*pv V i
 same: ∀k (h:k<W.length) (h2:k<O.length),k<j∨j+i≤k→W[k]=O[k]
theorem rZ.start {O:List Int} (V j:Nat) (h:Dig O):rZ O V j 0 O 0:=⟨rfl,h,by decide,by simp,fun _ _ _ _=>rfl⟩
theorem rZ.next {O:List Int} {V j i:Nat} {W:List Int} {c:Nat} (h:rZ O V j i W c) (hk:j+i<W.length):
  0≤W[j+i]+dg V i+c∧W[j+i]+dg V i+c<2000000000∧0≤(W[j+i]+dg V i+c).tdiv 1000000000∧
  rZ O V j (i+1) (W.set (j+i) ((W[j+i]+dg V i+c).tmod 1000000000)) ((W[j+i]+dg V i+c).tdiv 1000000000).toNat:=by
 have ho:=h.dig.at hk
 have hd:=eC V i
 have hc:=h.c1
 have b1:0≤W[j+i]+dg V i+c:=by omega
 have e2:(W[j+i]+dg V i+c).tdiv 1000000000=(W[j+i]+dg V i+c) / 1000000000:=Int.tdiv_eq_ediv_of_nonneg b1
 have e1:(W[j+i]+dg V i+c).tmod 1000000000=(W[j+i]+dg V i+c) % 1000000000:=Int.tmod_eq_emod_of_nonneg b1
 refine⟨b1,by omega,by omega,by simp[h.len],h.dig.set (by omega),by omega,?_,fun k h1 h2 h3=> ?_⟩
 ·have:=Hj hk h.dig h.v (m:=dg V i)
  rw[←Nat.add_assoc j i 1,this,dW,Nat.mul_add,Nat.pow_add]
  have:LB^j*(LB^i*dg V i)=LB^j*LB^i*dg V i:=(Nat.mul_assoc _ _ _).symm
  omega
 ·rw[List.getElem_set_ne (by omega)]
  exact h.same k _ h2 (by omega)
theorem X5 {u O:List Int} {V g j n c:Nat} (hu:Dig u) (h:iF u V g j n O c) (hn:(lim V).length=n) (hk:j+n<O.length) (hg:g=val (u.drop j) / V∨g=val (u.drop j) / V+1) (hV:0<V) (hc:(c:Int)≤O[j+n]):
  Dig (O.set (j+n) (O[j+n] - c))∧g=val (u.drop j) / V∧val (O.set (j+n) (O[j+n] - c))+LB^j*(val (u.drop j) / V*V)=val u:=by
 have ho:=h.dig.at hk
 have hv:=oO hk (O[j+n] - c)
 have h1:=h.v
 rw[eY (by omega)] at h1
 have hl:=h.len
 have h2:=iS u (k:=j) (by omega)
 have h3:=mG hu (k:=j)
 obtain⟨o,ho2⟩: ∃o:Nat,O[j+n]=o:=⟨O[j+n].toNat,by omega⟩
 rw[ho2] at hv hc ⊢
 have e:((o:Int) - c).toNat=o - c:=by omega
 rw[e] at hv
 simp only[Int.toNat_natCast] at hv
 have e2:LB^(j+n)*(o - c)+LB^(j+n)*c=LB^(j+n)*o:=by rw[←Nat.mul_add];congr 1;omega
 have e3:c*LB^(j+n)=LB^(j+n)*c:=Nat.mul_comm _ _
 have h4:val (O.set (j+n) ((o:Int) - c))+LB^j*(g*V)=val u:=by omega
 have h5:g*V≤val (u.drop j):=by
  rcases Nat.lt_or_ge (val (u.drop j)) (g*V) with hh | hh
  ·have:=Nat.mul_le_mul_left (LB^j) (Nat.succ_le_of_lt hh)
   rw[Nat.mul_succ] at this
   omega
  ·exact hh
 have h6:g=val (u.drop j) / V:=by
  have:=(Nat.le_div_iff_mul_le hV).2 h5
  omega
 refine⟨h.dig.set (by rw[ho2] at ho;omega),h6,?_⟩
 rw[←h6];exact h4
theorem Z2 {u O:List Int} {V g j n c:Nat} (hu:Dig u) (h:iF u V g j n O c) (hn:(lim V).length=n) (hk:j+n<O.length) (hz: ∀k (hk:k<u.length),j+n<k→u[k]=0) (hg:g=val (u.drop j) / V∨g=val (u.drop j) / V+1) (hV:0<V) (hc:O[j+n]<c):
  g=val (u.drop j) / V+1:=by
 have ho:=h.dig.at hk
 have h1:=h.v
 rw[eY (by omega)] at h1
 have hl:=h.len
 have h2:=iS u (k:=j) (by omega)
 have h3:=H3 (l:=O) (n:=j+n) (fun k hk2 hjk=>by rw[h.same k hk2 (by omega) (by omega)];exact hz k (by omega) hjk) hk
 obtain⟨o,ho2⟩: ∃o:Nat,O[j+n]=o:=⟨O[j+n].toNat,by omega⟩
 rw[ho2] at h3 hc
 simp only[Int.toNat_natCast] at h3
 have h4:=mG h.dig (k:=j+n)
 rcases hg with hg | hg
 ·exfalso
  have h5:g*V≤val (u.drop j):=by rw[hg];exact Nat.div_mul_le_self _ _
  have h6:=Nat.mul_le_mul_left (LB^j) h5
  have h7:LB^(j+n)*(o+1)≤LB^(j+n)*c:=Nat.mul_le_mul_left _ (by omega)
  rw[Nat.mul_add] at h7
  have e3:c*LB^(j+n)=LB^(j+n)*c:=Nat.mul_comm _ _
  omega
 ·exact hg
theorem Z6 {u O W:List Int} {V g j n c d:Nat} (hu:Dig u) (h:iF u V g j n O c) (hw:rZ O V j n W d) (hn:(lim V).length=n) (hk:j+n<O.length) (hk2:j+n<W.length) (hz: ∀k (hk:k<u.length),j+n<k→u[k]=0) (hg:g=val (u.drop j) / V+1) (hV:0<V):
  O[j+n] - c+d=0∧Dig (W.set (j+n) 0)∧val (W.set (j+n) 0)+LB^j*(val (u.drop j) / V*V)=val u:=by
 have h1:=h.v
 have h1w:=hw.v
 rw[eY (by omega)] at h1 h1w
 have hl:=h.len
 have hlw:=hw.len
 have e0:W[j+n]=O[j+n]:=hw.same _ hk2 hk (by omega)
 have ho:=h.dig.at hk
 have h2:=iS u (k:=j) (by omega)
 have h3:=H3 (l:=W) (n:=j+n) (fun k hk2 hjk=>by rw[hw.same k hk2 (by omega) (by omega),h.same k (by omega) (by omega) (by omega)];exact hz k (by omega) hjk) hk2
 have hs:=oO hk2 0
 rw[e0] at h3 hs
 obtain⟨o,ho2⟩: ∃o:Nat,O[j+n]=o:=⟨O[j+n].toNat,by omega⟩
 rw[ho2] at h3 hs ⊢
 simp only[Int.toNat_natCast,Int.toNat_zero,Nat.mul_zero,Nat.add_zero] at h3 hs
 have h4:=mG hw.dig (k:=j+n)
 have h5:=mG hu (k:=j)
 have hVn:V<LB^n:=aL.1 (by omega)
 generalize hU:val (u.drop j)=U at *
 have hm:=Nat.div_add_mod U V
 have hlt:=Nat.mod_lt U hV
 have hR:val (u.take j)+LB^j*(U % V)<LB^(j+n):=by
  rw[Nat.pow_add]
  have:LB^j*(U % V+1)≤LB^j*LB^n:=Nat.mul_le_mul_left _ (by omega)
  rw[Nat.mul_add] at this
  omega
 have eU:LB^j*U=LB^j*(U / V*V)+LB^j*(U % V):=by
  rw[←Nat.mul_add,Nat.mul_comm (U / V) V,hm]
 have eg:LB^j*(g*V)=LB^j*(U / V*V)+LB^j*V:=by rw[hg,Nat.add_mul,Nat.one_mul,Nat.mul_add]
 have Cl:val (W.take (j+n))+LB^(j+n)*(o+d)=(val (u.take j)+LB^j*(U % V))+LB^(j+n)*c:=by
  rw[Nat.mul_add,Nat.mul_comm (LB^(j+n)) d,Nat.mul_comm (LB^(j+n)) c]
  omega
 generalize LB^(j+n)=P at *
 have hod:o+d=c:=by
  have a1:=congrArg (fun x=>x / P) Cl
  try simp only at a1
  rw[Nat.add_mul_div_left _ _ (by omega),Nat.add_mul_div_left _ _ (by omega),Nat.div_eq_of_lt h4,Nat.div_eq_of_lt hR] at a1
  omega
 refine⟨by omega,hw.dig.set (by decide),?_⟩
 rw[hod] at Cl
 omega
structure KnI (A V L n j : Nat) (u Q : List Int) : Prop where
 len:u.length=L
 dig:Dig u
 le:j+n≤L
 Wc:Q.length=L - n - j
 aIL:Dig Q
 v:val u+LB^j*(val Q*V)=A
 r:val (u.drop j)<V
theorem KnI.U {A V L n j:Nat} {u Q:List Int} (h:KnI A V L n (j+1) u Q):val (u.drop j)<LB*V:=by
 have hj:j<u.length:=by have:=h.len;have:=h.le;omega
 rw[List.drop_eq_getElem_cons hj,val]
 have:=h.dig.at hj
 have h2:=Nat.mul_le_mul_left LB (Nat.succ_le_of_lt h.r)
 have:LB=1000000000:=rfl
 rw[Nat.mul_succ] at h2
 omega
theorem KnI.zero {A V L n j:Nat} {u Q:List Int} (h:KnI A V L n (j+1) u Q) (hn:(lim V).length=n): ∀k (hk:k<u.length),j+n<k→u[k]=0:=by
 intro k hk hjk
 have hV:V<LB^n:=aL.1 (by omega)
 have:=qA (l:=u.drop (j+1)) (n:=n) (fun d hd=>h.dig d (List.mem_of_mem_drop hd)) (Nat.lt_trans h.r hV) (k - (j+1)) (by simp;omega) (by omega)
 rw[List.getElem_drop] at this
 have e:j+1+(k - (j+1))=k:=by omega
 simpa [e] using this
theorem KnI.next {A V L n j:Nat} {u Q O:List Int} (h:KnI A V L n (j+1) u Q) (hl:O.length=L) (hd:Dig O) (hv:val O+LB^j*(val (u.drop j) / V*V)=val u):KnI A V L n j O ((val (u.drop j) / V:Nat)::Q):=by
 have hU:=h.U
 have hV:0<V:=by have:=h.r;omega
 have hq:val (u.drop j) / V<LB:=by rw[Nat.div_lt_iff_lt_mul hV];exact hU
 have hLB:LB=1000000000:=rfl
 have hle:=h.le
 have hlen:=h.len
 refine⟨hl,hd,by omega,by simp[h.Wc];omega,fun d hd=> ?_,?_,?_⟩
 ·rcases List.mem_cons.1 hd with rfl | hd
  ·rw[hLB] at hq
   generalize val (u.drop j) / V=q at hq ⊢
   omega
  ·exact h.aIL d hd
 ·have:=h.v
  rw[val,Int.toNat_natCast,Nat.add_mul,Nat.mul_add]
  rw[Nat.pow_succ] at this
  have e:LB^j*(LB*val Q*V)=LB^j*LB*(val Q*V):=by rw[Nat.mul_assoc LB,←Nat.mul_assoc]
  omega
 ·have h1:=iS u (k:=j) (by omega)
  have h2:=iS O (k:=j) (by omega)
  have h3:=mG h.dig (k:=j)
  have h4:=mG hd (k:=j)
  have hm:=Nat.div_add_mod (val (u.drop j)) V
  have hlt:=Nat.mod_lt (val (u.drop j)) hV
  have eU:LB^j*val (u.drop j)=LB^j*(val (u.drop j) / V*V)+LB^j*(val (u.drop j) % V):=by
   rw[←Nat.mul_add,Nat.mul_comm (val (u.drop j) / V) V,hm]
  have Cl:val (O.take j)+LB^j*val (O.drop j)=val (u.take j)+LB^j*(val (u.drop j) % V):=by omega
  have a1:=congrArg (fun x=>x / LB^j) Cl
  try simp only at a1
  have hP:0<LB^j:=Nat.pow_pos gZ
  rw[Nat.add_mul_div_left _ _ hP,Nat.add_mul_div_left _ _ hP,Nat.div_eq_of_lt h4,Nat.div_eq_of_lt h3] at a1
  omega
theorem KnI.done {A V L n:Nat} {u Q:List Int} (h:KnI A V L n 0 u Q):val Q=A / V∧val u=A % V:=by
 have hv:=h.v
 have hr:=h.r
 simp at hv hr
 rw[←hv,Nat.mul_comm (val Q),Nat.add_comm,Nat.mul_add_div (by omega),Nat.div_eq_of_lt hr,Nat.mul_add_mod,Nat.mod_eq_of_lt hr]
 exact⟨rfl,rfl⟩
theorem aES {V n:Nat} (hn:(lim V).length=n+2):V=(dg V (n+1)*LB+dg V n)*LB^n+pv V n:=by
 have h1:=dW V n
 have h2:=dW V (n+1)
 have e0:pv V (n+1+1)=V:=eY (by omega)
 rw[h2,h1,Nat.pow_succ] at e0
 have e1:dg V (n+1)*LB*LB^n=LB^n*LB*dg V (n+1):=by ac_rfl
 have e2:dg V n*LB^n=LB^n*dg V n:=Nat.mul_comm _ _
 rw[Nat.add_mul]
 omega
theorem H0 {V n:Nat} (hn:(lim V).length=n+1):0<dg V n:=by
 have h:n<(lim V).length:=by omega
 have h1:=fP h
 have h2:=J9 V ((lim V)[n]) (by rw[List.getLast?_eq_getElem?,hn];simp[h])
 omega
theorem Mf (x y z T L:Nat):((x*L+y)*L+z)*T=T*L*L*x+T*L*y+T*z:=by
 rw[Nat.add_mul,Nat.add_mul,Nat.add_mul]
 have e1:x*L*L*T=T*L*L*x:=by ac_rfl
 have e2:y*L*T=T*L*y:=by ac_rfl
 rw[e1,e2,Nat.mul_comm z T]
theorem aD4 {u:List Int} {n j:Nat} (hu:Dig u) (hz: ∀k (hk:k<u.length),j+(n+2)<k→u[k]=0) (h2:j+(n+2)<u.length) (h1:j+(n+1)<u.length) (h0:j+n<u.length):
  val (u.drop j)=((u[j+(n+2)].toNat*LB+u[j+(n+1)].toNat)*LB+u[j+n].toNat)*LB^n+val ((u.drop j).take n):=by
 have hd:Dig (u.drop j):=fun d hd=>hu d (List.mem_of_mem_drop hd)
 have e:=H3 (l:=u.drop j) (n:=n+2) (fun k hk hlt=>by rw[List.getElem_drop];exact hz _ (by simp at hk;omega) (by omega)) (by simp;omega)
 have e1:=jC (l:=u.drop j) (i:=n+1) (by simp;omega)
 have e0:=jC (l:=u.drop j) (i:=n) (by simp;omega)
 simp only[List.getElem_drop] at e e1 e0
 have p1:LB^(n+1)=LB^n*LB:=Nat.pow_succ ..
 have p2:LB^(n+2)=LB^n*LB*LB:=by rw[Nat.pow_succ,Nat.pow_succ]
 rw[Mf,e,e1,e0,p1,p2]
 omega
theorem KnI.top {A V L n j:Nat} {u Q:List Int} (h:KnI A V L (n+2) (j+1) u Q) (hn:(lim V).length=n+2) (hk:j+(n+2)<u.length):u[j+(n+2)]≤dg V (n+1):=by
 have hz:=h.zero hn
 have hd:Dig (u.drop (j+1)):=fun d hd=>h.dig d (List.mem_of_mem_drop hd)
 have e:=H3 (l:=u.drop (j+1)) (n:=n+1) (fun k hk hlt=>by rw[List.getElem_drop];exact hz _ (by simp at hk;omega) (by omega)) (by simp;omega)
 simp only[List.getElem_drop] at e
 have e9:j+1+(n+1)=j+(n+2):=by omega
 simp only[e9] at e
 have hr:=h.r
 have hV:=dW V (n+1)
 rw[eY (by omega)] at hV
 have hlt:=N3 V (n+1)
 have ho:=h.dig.at hk
 have h1:LB^(n+1)*u[j+(n+2)].toNat<LB^(n+1)*(dg V (n+1)+1):=by rw[Nat.mul_add];omega
 have:=Nat.lt_of_mul_lt_mul_left h1
 omega
end Go.Proofs.YticmgmemnpcbbaaGreat.Vm

namespace Go.Proofs.YticmgmemnpcbbaaGreat.Vm
open Go Go.Proofs
set_option linter.unusedSimpArgs false
set_option linter.unusedVariables false
theorem aX (a i:Nat) (h:i<(lim a).length):(iv (lim a))[i]? =some [.int .i64 (dg a i:Nat)]:=by rw[dC _ _ h,fP h]
theorem xI (a b:Int):(a==b)=decide (a=b):=by rw[Bool.eq_iff_iff];simp
theorem Bp (ns:List Int):(iv ns).all (fun c=>1==c.length)=true:=by simp[iv]
theorem uT (ns:List Int) (n:Nat):(iv ns).take n=iv (ns.take n):=by simp[iv,List.map_take]
@[simp high] theorem Yp (P : Program) (t : TypeId) (a b : Int) : binV P .add t (.int .i64 a) (.int .i64 b) = some (.int .i64 (IntKind.i64.wrap (a + b))) := (rfl)
@[simp high] theorem aAT (P : Program) (t : TypeId) (a b : Int) : binV P .sub t (.int .i64 a) (.int .i64 b) = some (.int .i64 (IntKind.i64.wrap (a - b))) := (rfl)
@[simp high] theorem aAQ (P : Program) (t : TypeId) (a b : Int) : binV P .mul t (.int .i64 a) (.int .i64 b) = some (.int .i64 (IntKind.i64.wrap (a * b))) := (rfl)
@[simp high] theorem Zk (P : Program) (t : TypeId) (a b : Int) : binV P .quo t (.int .i64 a) (.int .i64 b) = if b = 0 then none else some (.int .i64 (IntKind.i64.wrap (a.tdiv b))) := (rfl)
@[simp high] theorem Yj (P : Program) (t : TypeId) (a b : Int) : binV P .rem t (.int .i64 a) (.int .i64 b) = if b = 0 then none else some (.int .i64 (a.tmod b)) := (rfl)
@[simp high] theorem aA4 (P : Program) (t : TypeId) (a b : Int) : binV P .eql t (.int .i64 a) (.int .i64 b) = some (.bool (a == b)) := (rfl)
@[simp high] theorem Yn (P : Program) (t : TypeId) (a b : Int) : binV P .neq t (.int .i64 a) (.int .i64 b) = some (.bool (a != b)) := (rfl)
@[simp high] theorem Zg (P : Program) (t : TypeId) (a b : Int) : binV P .lss t (.int .i64 a) (.int .i64 b) = some (.bool (decide (a < b))) := (rfl)
@[simp high] theorem Yc (P : Program) (t : TypeId) (a b : Int) : binV P .leq t (.int .i64 a) (.int .i64 b) = some (.bool (decide (a ≤ b))) := (rfl)
@[simp high] theorem aAC (P : Program) (t : TypeId) (a b : Int) : binV P .gtr t (.int .i64 a) (.int .i64 b) = some (.bool (decide (b < a))) := (rfl)
@[simp high] theorem Zi (P : Program) (t : TypeId) (a b : Int) : binV P .geq t (.int .i64 a) (.int .i64 b) = some (.bool (decide (b ≤ a))) := (rfl)
theorem mM (a b:Nat) (ha:(lim a).length≤1048576) (hb:(lim b).length≤1048576):RO Tryz.prog 100 [.sl (iv (lim a)),.sl (iv (lim b))] (.int .i64 (iK a b)):=by
 refine aJ Tryz.func100 rfl rfl (by rw[Tryz.ntmps100];simp) fun bl=> ?_
 rw[Tryz.ntmps100,Tryz.results100]
 refine aC ?_
 simp
 refine⟨fun h=>⟨fun h1=> ?_,fun h1=> ?_⟩,fun h=> ?_⟩
 ·exact aS (by simp[vE h1]) rfl rfl
 ·exact aS (by simp[yM (show(lim b).length<(lim a).length by omega)]) rfl rfl
 have h:(lim a).length=(lim b).length:=by omega
 have w0:IntKind.i64.wrap (((lim a).length:Int) - 1)=((lim a).length:Int) - 1:=i64_in (by omega) (by omega)
 simp[w0]
 refine aI (fun k:Nat=> [(0,.sl (iv (lim a))),(1,.sl (iv (lim b))),(5,.int .i64 ((k:Int) - 1))]) (fun _=>bl) (fun k=>k≤(lim a).length∧ ∀j,k≤j→dg a j=dg b j) (fun k=>k) _ (lim a).length ⟨Nat.le_refl _,fun j hj=>by rw[jB hj,jB (by omega)]⟩ ⟨rfl,by simp,Sub.refl _⟩ ?_
 intro k ⟨hk,hc⟩
 refine aC ?_
 simp
 refine⟨fun h1=> ?_,fun h1=> ?_⟩
 ·obtain⟨m,rfl⟩: ∃m,k=m+1:=⟨k - 1,by omega⟩
  have hm:m<(lim a).length:=by omega
  have hm2:m<(lim b).length:=by omega
  have e1:((m+1:Nat):Int) - 1=m:=by omega
  refine cN aN (by kernel_rfl) ?_
  simp[e1,aX _ _ hm,aX _ _ hm2]
  refine⟨fun h2=> ?_,fun h2=> ?_⟩
  ·exact aS (by simp[Ga h hm (fun j hj=>hc j (by omega)) h2]) rfl rfl
  refine cN aN (by kernel_rfl) ?_
  simp[e1,aX _ _ hm,aX _ _ hm2]
  refine⟨fun h3=> ?_,fun h3=> ?_⟩
  ·exact aS (by simp[Jx h hm (fun j hj=>hc j (by omega)) h3]) rfl rfl
  have w1:IntKind.i64.wrap ((m:Int) - 1)=(m:Int) - 1:=i64_in (by omega) (by omega)
  simp[w1,aB]
  refine⟨m,⟨by omega,fun j hj=> ?_⟩,by omega,rfl,by simp,Sub.refl _⟩
  rcases Nat.lt_or_ge m j with hlt | hge
  ·exact hc j (by omega)
  ·obtain rfl:j=m:=by omega
   omega
 ·have:k=0:=by omega
  subst this
  exact aS (by simp[Lh h fun j=>hc j (Nat.zero_le _)]) rfl rfl
theorem rU (ns:List Int) (hd:Dig ns) (hn:ns.length≤1048576):RO Tryz.prog 238 [.sl (iv ns)] (.sl (iv (lim (val ns)))):=by
 refine aJ Tryz.func238 rfl rfl (by rw[Tryz.ntmps238];simp) fun bl=> ?_
 rw[Tryz.ntmps238,Tryz.results238]
 refine aC ?_
 simp
 refine aI (fun n:Nat=> [(0,.sl (iv (ns.take n)))]) (fun _=>bl) (fun n=>n≤ns.length∧ ∀i (hi:i<ns.length),n≤i→ns[i]=0) (fun n=>n) _ ns.length ⟨Nat.le_refl _,fun i hi h=>by omega⟩ ⟨rfl,by simp,Sub.refl _⟩ ?_
 intro n ⟨hl,hz⟩
 have hlen:(ns.take n).length=n:=by simp;omega
 refine aC ?_
 simp
 refine bP [(0,.sl (iv (ns.take n)))] _ bl 14 (.bool (decide (0<n)&& decide (ns.getD (n - 1) 1=0))) ⟨rfl,by simp,Sub.refl _⟩ rfl ?_ ?_
 ·simp[hlen]
  refine⟨fun h=> ?_,fun h=>by simp[h]⟩
  have w1:IntKind.i64.wrap ((n:Int) - 1)=((n - 1:Nat):Int):=by rw[i64_in (by omega) (by omega)];omega
  have h2:n - 1<ns.length:=by omega
  have q:(iv (ns.take n))[n - 1]? =some [.int .i64 ns[n - 1]]:=by rw[dC _ _ (by omega)];simp
  simp[w1,h2,h,q,xI]
 simp
 refine⟨fun h1 h2=> ?_,fun h1=> ?_⟩
 ·have w1:IntKind.i64.wrap ((n:Int) - 1)=((n - 1:Nat):Int):=by rw[i64_in (by omega) (by omega)];omega
  simp[Nat.min_eq_left hl,w1,sliV,Bp,aB]
  refine⟨n - 1,⟨by omega,fun i hi h3=> ?_⟩,by omega,rfl,?_,Sub.refl _⟩
  ·rcases Nat.lt_or_ge i n with h4 | h4
   ·obtain rfl:i=n - 1:=by omega
    simpa [hi] using h2
   ·exact hz i hi h4
  ·simp[uT,List.take_take]
   try (congr 2;omega)
 ·have hz2: ∀i (hi:i<ns.length),n=i+1→ns[i]≠0:=by
   intro i hi e
   subst e
   have:=h1 (by omega)
   simpa [hi] using this
  have:=xF hd hl hz hz2
  rw[this]
  exact aS (by simp) rfl rfl
theorem mQ {o:List Int} {i k:Nat} (h:o.length=i) (x z:Int):(o++List.replicate (k+1) z).set i x=(o++ [x])++List.replicate k z:=by
 subst h
 rw[List.set_append_right _ _ (Nat.le_refl _),Nat.sub_self,List.replicate_succ,List.set_cons_zero,List.append_assoc];rfl
theorem jQ {o:List Int} {i k:Nat} (h:o.length=i) (z:Int):(iv (o++List.replicate (k+1) z))[i]? =some [.int .i64 z]:=by
 subst h
 rw[dC _ _ (by simp)]
 simp
theorem eH (ns:List Int) (i:Nat) (x:Int):(iv ns).set i [.int .i64 x]=iv (ns.set i x):=by simp[iv,List.map_set]
theorem wq {x n:Int} (h0:0≤x) (h1:x≤9223372036854775807) (hn:0<n):IntKind.i64.wrap (x.tdiv n)=x.tdiv n:=by
 rw[Int.tdiv_eq_ediv_of_nonneg h0]
 have a1:=Int.ediv_nonneg h0 (by omega:0≤n)
 have a2:=Int.ediv_le_self n h0
 exact i64_in (by omega) (by omega)
theorem kV {bl bl':Int→Option Blk} {g:Int} {ns:List Int} {n:Nat} (hg0:0≤g) (hg:bl g=none) (hb:bl' g=some ⟨1,iv ns⟩) (hn:ns.length=n):frzL (dropB bl' bl) 1 [.lsl g 1 0 n]=some [.sl (iv ns)]:=by
 unfold frzL frzL
 rw[dM hg0 hg hb (by simp[hn]) (nE ns)]
theorem Fx {o:List Int} {i:Nat} (h:o.length=i) (x z:Int):(o++ [z]).set i x=o++ [x]:=by
 have:=mQ (k:=0) h x z
 simpa using this
structure PL where
 i:Nat
 o:List Int
 c:Int
theorem Nd (a b:Nat) (ha:(lim a).length≤1048575) (hb:(lim b).length≤1048575):RO Tryz.prog 271 [.sl (iv (lim a)),.sl (iv (lim b))] (.sl (iv (lim (a+b)))):=by
 refine aJ Tryz.func271 rfl rfl (by rw[Tryz.ntmps271];simp) fun bl=> ?_
 rw[Tryz.ntmps271,Tryz.results271]
 refine aD ?_
 simp
 refine fH (fun p:Nat×Nat=> [(0,.sl (iv (lim p.1))),(1,.sl (iv (lim p.2)))]) (fun _=>bl) (fun p=>p.1+p.2=a+b∧(lim p.2).length≤(lim p.1).length∧(lim p.1).length≤1048575) 55 ?_ ?_
 ·refine aC ?_
  simp
  refine⟨fun h=> ?_,fun h=> ?_⟩
  ·rw[aH]
   exact⟨(b,a),⟨Nat.add_comm _ _,by simp only;omega,hb⟩,rfl,by simp,Sub.refl _⟩
  ·rw[aH]
   exact⟨(a,b),⟨rfl,by simp only;omega,ha⟩,rfl,by simp,Sub.refl _⟩
 rintro⟨x,y⟩ ⟨hxy,hle,hx⟩
 simp only at hxy hle hx
 rw[←hxy]
 refine aC ?_
 have w0:IntKind.i64.wrap (((lim x).length:Int)+1)=(lim x).length+1:=i64_in (by omega) (by omega)
 simp[w0]
 refine⟨(lim x).length+1,by simp,by simp,by omega,by unfold maxLen;omega,fun g hg0 hg=> ?_⟩
 have er:List.replicate ((lim x).length+1) [V.int IntKind.i64 0]=iv (List.replicate ((lim x).length+1) 0):=by simp[iv]
 simp[er]
 refine aI (fun p:PL=> [(0,.sl (iv (lim x))),(1,.sl (iv (lim y))),(5,.lsl g 1 0 ((lim x).length+1)),(6,.int .i64 p.c),(20,.sl (iv (lim x))),(21,.int .i64 (lim x).length),(22,.int .i64 p.i)]) (fun p=>upd bl g (some ⟨1,iv (p.o++List.replicate ((lim x).length+1 - p.i) 0)⟩))
  (fun p=>p.i≤(lim x).length∧jL x y p.i p.o p.c) (fun p=>(lim x).length - p.i) _ ⟨0,[],0⟩ ⟨Nat.zero_le _,jL.start x y⟩ ⟨rfl,by simp,sub_eq (by simp)⟩ ?_
 rintro⟨i,o,c⟩ ⟨hi,hI⟩
 simp only at hi hI
 have hb1:=hI.x
 have hd1:=eC x i
 have hd2:=eC y i
 have hc0:=hI.c0
 have hc1:=hI.c1
 obtain⟨k,hk⟩: ∃k,(lim x).length+1 - i=k+1:=⟨(lim x).length - i,by omega⟩
 refine aC ?_
 simp
 refine⟨fun h1=> ?_,fun h1=> ?_⟩
 ·have w1:IntKind.i64.wrap ((dg x i:Int)+c)=dg x i+c:=i64_in (by omega) (by omega)
  have w2:IntKind.i64.wrap ((dg x i:Int)+c+dg y i)=dg x i+c+dg y i:=i64_in (by omega) (by omega)
  have w3:IntKind.i64.wrap ((i:Int)+1)=i+1:=i64_in (by omega) (by omega)
  simp[aX _ _ h1,w1]
  refine⟨fun h2=> ?_,fun h2=> ?_⟩
  ·have w4:=wq (x:=(dg x i:Int)+c+dg y i) (n:=1000000000) (by omega) (by omega) (by omega)
   simp[aX _ _ h2,w2,w3,w4,hk,jQ hI.len]
   refine⟨by omega,?_⟩
   rw[aB]
   refine⟨⟨i+1,o++ [((dg x i:Int)+c+dg y i).tmod 1000000000],((dg x i:Int)+c+dg y i).tdiv 1000000000⟩,⟨by simp only;omega,hI.next (by omega)⟩,by simp only;omega,rfl,by simp,sub_eq ?_⟩
   rw[eH,mQ hI.len]
   have e:(lim x).length+1 - (i+1)=k:=by omega
   simp[e]
  ·have d0:dg y i=0:=jB (by omega)
   have w4:=wq (x:=(dg x i:Int)+c) (n:=1000000000) (by omega) (by omega) (by omega)
   simp[w3,w4,hk,jQ hI.len]
   refine⟨by omega,?_⟩
   rw[aB]
   refine⟨⟨i+1,o++ [((dg x i:Int)+c).tmod 1000000000],((dg x i:Int)+c).tdiv 1000000000⟩,⟨by simp only;omega,hI.next (by omega)⟩,by simp only;omega,rfl,by simp,sub_eq ?_⟩
   rw[eH,mQ hI.len]
   have e:(lim x).length+1 - (i+1)=k:=by omega
   simp[e]
 ·have e:i=(lim x).length:=by omega
  subst e
  obtain⟨hD,hv⟩:=hI.impl (Nat.le_refl _) hle
  simp[hk,jQ hI.len]
  have k0:k=0:=by omega
  subst k0
  have hg':bl g=none:=hg
  simp[eH,Fx hI.len]
  refine⟨by omega,fV 1 bl _ (by simp[hg']) (kV hg0 hg' (by simp) (by simp[hI.len])) (rU _ hD (by simp[hI.len];omega)) ?_⟩
  rw[hv]
  simp
  exact aS (by simp) rfl rfl

theorem L1 {n:Nat} (h:0<n):lim n=((n % 1000000000:Nat):Int)::lim (n / 1000000000):=mT (by omega)
theorem qU {N:Nat} (h:N≤18446744073709551615):(lim N).length≤3:=aL.2 (Nat.lt_of_le_of_lt h (by decide+kernel))
theorem Ax (N:Nat) (hN:N≤18446744073709551615):NW Tryz.prog 230 [.int .u64 N] (fl 1 (iv (lim N))):=by
 have hL:=qU hN
 refine lR Tryz.func230 rfl rfl (by rw[Tryz.ntmps230];simp) fun bl=> ?_
 rw[Tryz.ntmps230,Tryz.results230]
 refine aC ?_
 simp
 refine rJ 3 1 (by simp) fun g00 sA=> ?_
 refine aI (fun p:Int×List Int×Nat=> [(0,.int .u64 p.2.2),(3,.lsl p.1 1 0 p.2.1.length)]) (fun p=>upd bl p.1 (some ⟨1,iv p.2.1⟩)) (fun p=>lim N=p.2.1++lim p.2.2∧p.2.2≤18446744073709551615∧bl p.1=none∧(p.1<0→p.2.1= [])) (fun p=>p.2.2) _ (g00,[],N) ⟨by simp,hN,sA,fun _=>rfl⟩ ⟨rfl,by simp,sub_eq (by simp[iv])⟩ ?_
 rintro⟨g,o,n⟩ ⟨hl,hn,hg,h0⟩
 simp only at hl hn hg h0
 have hlo:o.length≤3:=by have:=congrArg List.length hl;simp at this;omega
 refine aC ?_
 simp
 refine⟨fun h=> ?_,fun h=> ?_⟩
 ·intro g2 hg2 h2g hb2
  simp[h2g,Ne.symm h2g,appV,elsV,Int.not_lt.2 hg2]
  refine⟨by omega,fun g3 hg3 hb3=> ?_⟩
  have fK:bl g3=none:=by grind
  have m0:(n:Int).tmod 1000000000=((n % 1000000000:Nat):Int):=by rw[Int.tmod_eq_emod_of_nonneg (by omega)];omega
  have q0:(n:Int).tdiv 1000000000=((n / 1000000000:Nat):Int):=by rw[Int.tdiv_eq_ediv_of_nonneg (by omega)];omega
  have w1:IntKind.i64.wrap ((n:Int) % 1000000000)=(n:Int) % 1000000000:=i64_in (by omega) (by omega)
  have w2:IntKind.u64.wrap ((n:Int) / 1000000000)=(n:Int) / 1000000000:=IntWalk.u64_in _ ⟨by omega,by omega⟩
  simp[m0,q0,w1,w2]
  rw[aB]
  refine⟨(g3,o++ [((n % 1000000000:Nat):Int)],n / 1000000000),⟨by rw[hl,L1 h];simp,by simp only;omega,fK,by simp only;omega⟩,by simp only;omega,rfl,by simp,?_⟩
  rw[aT]
  exact cX (by rw[dA];simp[iv]) (by simp[hg,hb2,h2g])
 ·have e:n=0:=by omega
  subst e
  rw[aW,List.append_nil] at hl
  refine kJ [.lsl g 1 0 o.length] [g] (by simp) ?_ (by simpa using hg) (by simp[hg])
  rw[hl]
  exact eJ.2 (.inr ⟨g,rfl,rfl,by simp,h0⟩)
theorem qF (N:Nat) (hN:N≤18446744073709551615):RO Tryz.prog 230 [.int .u64 N] (.sl (iv (lim N))):=by
 have:=gU 1 (Ax N hN) (mX _ _ 0)
 simpa using this
structure ML where
 i:Nat
 o:List Int
 br:Nat
theorem O9 (a b:Nat) (hab:b≤a) (ha:(lim a).length≤1048575):RO Tryz.prog 272 [.sl (iv (lim a)),.sl (iv (lim b))] (.sl (iv (lim (a - b)))):=by
 refine aJ Tryz.func272 rfl rfl (by rw[Tryz.ntmps272];simp) fun bl=> ?_
 rw[Tryz.ntmps272,Tryz.results272]
 refine aC ?_
 simp
 refine⟨by omega,by unfold maxLen;omega,fun g hg0 hg=> ?_⟩
 have er:List.replicate ((lim a).length) [V.int IntKind.i64 0]=iv (List.replicate ((lim a).length) 0):=by simp[iv]
 simp[er]
 refine aI (fun p:ML=> [(0,.sl (iv (lim a))),(1,.sl (iv (lim b))),(5,.lsl g 1 0 (lim a).length),(6,.int .i64 p.br),(12,.sl (iv (lim a))),(13,.int .i64 (lim a).length),(14,.int .i64 p.i)]) (fun p=>upd bl g (some ⟨1,iv (p.o++List.replicate ((lim a).length - p.i) 0)⟩))
  (fun p=>p.i≤(lim a).length∧gH a b p.i p.o p.br) (fun p=>(lim a).length - p.i) _ ⟨0,[],0⟩ ⟨Nat.zero_le _,gH.start a b⟩ ⟨rfl,by simp,sub_eq (by simp)⟩ ?_
 rintro⟨i,o,br⟩ ⟨hi,hI⟩
 simp only at hi hI
 have hb1:=hI.x
 have hd1:=eC a i
 have hd2:=eC b i
 have hc1:=hI.c1
 refine aC ?_
 simp
 refine⟨fun h1=> ?_,fun h1=> ?_⟩
 ·obtain⟨k,hk⟩: ∃k,(lim a).length - i=k+1:=⟨(lim a).length - i - 1,by omega⟩
  have e:(lim a).length - (i+1)=k:=by omega
  have w1:IntKind.i64.wrap ((dg a i:Int) - br)=dg a i - br:=i64_in (by omega) (by omega)
  have w2:IntKind.i64.wrap ((dg a i:Int) - br - dg b i)=dg a i - br - dg b i:=i64_in (by omega) (by omega)
  have w3:IntKind.i64.wrap ((i:Int)+1)=i+1:=i64_in (by omega) (by omega)
  simp[aX _ _ h1,w1]
  refine⟨fun h2=> ?_,fun h2=> ?_⟩
  ·simp[aX _ _ h2,w2,w3,hk,jQ hI.len]
   refine⟨fun h3=> ?_,fun h3=> ?_⟩
   ·have w4:IntKind.i64.wrap ((dg a i:Int) - br - dg b i+1000000000)=dg a i - br - dg b i+1000000000:=i64_in (by omega) (by omega)
    simp[w4,w3,h1,hk,jQ hI.len]
    rw[aB]
    refine⟨⟨i+1,o++ [(dg a i:Int) - br - dg b i+1000000000],1⟩,⟨by simp only;omega,hI.zY rfl (by omega)⟩,by simp only;omega,rfl,by simp,sub_eq ?_⟩
    rw[eH,mQ hI.len]
    simp[e]
   ·simp[w3,h1,hk,jQ hI.len]
    rw[aB]
    refine⟨⟨i+1,o++ [(dg a i:Int) - br - dg b i],0⟩,⟨by simp only;omega,hI.A8 rfl (by omega)⟩,by simp only;omega,rfl,by simp,sub_eq ?_⟩
    rw[eH,mQ hI.len]
    simp[e]
  ·have d0:dg b i=0:=jB (by omega)
   simp[w3,hk,jQ hI.len]
   refine⟨fun h3=> ?_,fun h3=> ?_⟩
   ·have w4:IntKind.i64.wrap ((dg a i:Int) - br+1000000000)=dg a i - br+1000000000:=i64_in (by omega) (by omega)
    simp[w4,w3,h1,hk,jQ hI.len]
    rw[aB]
    refine⟨⟨i+1,o++ [(dg a i:Int) - br+1000000000],1⟩,⟨by simp only;omega,hI.zY (x:=(dg a i:Int) - br) (by omega) (by omega)⟩,by simp only;omega,rfl,by simp,sub_eq ?_⟩
    rw[eH,mQ hI.len]
    simp[e]
   ·simp[w3,h1,hk,jQ hI.len]
    rw[aB]
    refine⟨⟨i+1,o++ [(dg a i:Int) - br],0⟩,⟨by simp only;omega,hI.A8 (x:=(dg a i:Int) - br) (by omega) (by omega)⟩,by simp only;omega,rfl,by simp,sub_eq ?_⟩
    rw[eH,mQ hI.len]
    simp[e]
 ·have e:i=(lim a).length:=by omega
  subst e
  have hv:=hI.done hab (Nat.le_refl _)
  have hg':bl g=none:=hg
  simp
  refine fV 1 bl _ (by simp[hg']) (kV (ns:=o) hg0 hg' (by simp) (by simp[hI.len])) (rU _ hI.dig (by simp[hI.len];omega)) ?_
  simp[hv]
  exact aS (by simp) rfl rfl

theorem Nb {bl:Int→Option Blk} {K:V→(Int→Option Blk)→Prop} (ns:List Int) (hd:Dig ns) (hn:ns.length≤1048576) (g:Int) (hg0:0≤g) (hb:bl g=some ⟨1,iv ns⟩)
  (hK: ∀m,m≤ns.length→ns.take m=lim (val ns)→K (.lsl g 1 0 m) bl):cO Tryz.prog 238 [.lsl g 1 0 ns.length] bl K:=by
 refine cV Tryz.func238 rfl rfl (by rw[Tryz.ntmps238];simp) ?_
 rw[Tryz.ntmps238,Tryz.results238]
 refine aC ?_
 simp
 refine aI (fun n:Nat=> [(0,.lsl g 1 0 n)]) (fun _=>bl) (fun n=>n≤ns.length∧ ∀i (hi:i<ns.length),n≤i→ns[i]=0) (fun n=>n) _ ns.length ⟨Nat.le_refl _,fun i hi h=>by omega⟩ ⟨rfl,by simp,Sub.refl _⟩ ?_
 intro n ⟨hl,hz⟩
 refine aC ?_
 simp
 refine bP [(0,.lsl g 1 0 n)] _ bl 14 (.bool (decide (0<n)&& decide (ns.getD (n - 1) 1=0))) ⟨rfl,by simp,Sub.refl _⟩ rfl ?_ ?_
 ·simp
  refine⟨fun h=> ?_,fun h=>by simp[h]⟩
  have w1:IntKind.i64.wrap ((n:Int) - 1)=((n - 1:Nat):Int):=by rw[i64_in (by omega) (by omega)];omega
  have h2:n - 1<ns.length:=by omega
  simp[w1,h2,h,hb,xI]
  omega
 simp
 refine⟨fun h1 h2=> ?_,fun h1=> ?_⟩
 ·have w1:IntKind.i64.wrap ((n:Int) - 1)=((n - 1:Nat):Int):=by rw[i64_in (by omega) (by omega)];omega
  simp[w1,sliV,hg0,aB]
  refine⟨n - 1,⟨by omega,fun i hi h3=> ?_⟩,by omega,rfl,?_,Sub.refl _⟩
  ·rcases Nat.lt_or_ge i n with h4 | h4
   ·obtain rfl:i=n - 1:=by omega
    simpa [hi] using h2
   ·exact hz i hi h4
  ·simp
 ·have hz2: ∀i (hi:i<ns.length),n=i+1→ns[i]≠0:=by
   intro i hi e
   subst e
   have:=h1 (by omega)
   simpa [hi] using this
  have:=xF hd hl hz hz2
  rw[dQ]
  exact⟨[_],by simp,hK n hl this⟩
theorem Pm {bl bl':Int→Option Blk} {g:Int} {ns:List Int} {n:Nat} (hg0:0≤g) (hg:bl g=none) (hb:bl' g=some ⟨1,iv ns⟩) (hn:n≤ns.length):frz (dropB bl' bl) 1 (.lsl g 1 0 n)=some (.sl (iv (ns.take n))):=by
 unfold frz
 rw[if_neg (by omega)]
 unfold dropB
 rw[hg]
 simp only[hb]
 rw[if_pos (by simp;exact hn),List.drop_zero,uT,if_pos (nE _)]
structure TL where
 i:Nat
 j:Nat
 O:List Int
 c:Nat
theorem O0 {bl:Int→Option Blk} {K:V→(Int→Option Blk)→Prop} (a b:Nat) (ha:(lim a).length≤400000) (hb:(lim b).length≤400000) (ha0:a≠0) (hb0:b≠0)
  (hK: ∀g O,0≤g→bl g=none→(lim (a*b)).length≤O.length→O.take (lim (a*b)).length=lim (a*b)→K (.lsl g 1 0 (lim (a*b)).length) (upd bl g (some ⟨1,iv O⟩))):cO Tryz.prog 228 [.sl (iv (lim a)),.sl (iv (lim b))] bl K:=by
 have la:(lim a).length≠0:=fun h=>ha0 (eN.1 (List.length_eq_zero_iff.1 h))
 have lb:(lim b).length≠0:=fun h=>hb0 (eN.1 (List.length_eq_zero_iff.1 h))
 refine cV Tryz.func228 rfl rfl (by rw[Tryz.ntmps228];simp) ?_
 rw[Tryz.ntmps228,Tryz.results228]
 refine aC ?_
 simp
 refine bP [(0,.sl (iv (lim a))),(1,.sl (iv (lim b)))] _ bl 19 (.bool false) ⟨rfl,by simp,Sub.refl _⟩ rfl ?_ ?_
 ·have na:lim a≠ []:=fun h=>la (by rw[h];rfl)
  have nb:lim b≠ []:=fun h=>lb (by rw[h];rfl)
  simp[na,nb]
 have w0:IntKind.i64.wrap (((lim a).length:Int)+(lim b).length)=(lim a).length+(lim b).length:=i64_in (by omega) (by omega)
 simp[w0]
 refine⟨(lim a).length+(lim b).length,by simp,by simp,by omega,by unfold maxLen;omega,fun g hg0 hg=> ?_⟩
 have er:List.replicate ((lim a).length+(lim b).length) [V.int IntKind.i64 0]=iv (List.replicate ((lim a).length+(lim b).length) 0):=by simp[iv]
 simp[er]
 refine aI (fun p:TL=> [(0,.sl (iv (lim a))),(1,.sl (iv (lim b))),(5,.lsl g 1 0 ((lim a).length+(lim b).length)),(26,.sl (iv (lim a))),(27,.int .i64 (lim a).length),(28,.int .i64 p.i)]) (fun p=>upd bl g (some ⟨1,iv p.O⟩))
  (fun p=>p.i≤(lim a).length∧gI a b p.i 0 p.O 0) (fun p=>(lim a).length - p.i) _ ⟨0,0,_,0⟩ ⟨Nat.zero_le _,gI.start a b⟩ ⟨rfl,by simp,sub_eq (by simp)⟩ ?_
 rintro⟨i,j0,O,c0⟩ ⟨hi,hI⟩
 simp only at hi hI
 refine aC ?_
 simp
 refine⟨fun h1=> ?_,fun h1=> ?_⟩
 ·simp[aX _ _ h1]
  refine aI (fun p:TL=> [(0,.sl (iv (lim a))),(1,.sl (iv (lim b))),(5,.lsl g 1 0 ((lim a).length+(lim b).length)),(6,.int .i64 i),(7,.int .i64 (dg a i:Nat)),(8,.int .i64 p.c),(26,.sl (iv (lim a))),(27,.int .i64 (lim a).length),(28,.int .i64 i),(33,.sl (iv (lim b))),(34,.int .i64 (lim b).length),(35,.int .i64 p.j)]) (fun p=>upd bl g (some ⟨1,iv p.O⟩))
   (fun p=>p.j≤(lim b).length∧gI a b i p.j p.O p.c) (fun p=>(lim b).length - p.j) _ ⟨i,0,O,0⟩ ⟨Nat.zero_le _,hI⟩ ⟨rfl,by simp,sub_eq (by simp)⟩ ?_
  rintro⟨i',j,O,c⟩ ⟨hj,hJ⟩
  simp only at hj hJ
  have hlen:=hJ.len
  refine aC ?_
  simp
  refine⟨fun h2=> ?_,fun h2=> ?_⟩
  ·have hk:i+j<O.length:=by omega
   obtain⟨n1,n2,n3,hN⟩:=hJ.next h1 h2 hk
   have w1:IntKind.i64.wrap ((i:Int)+j)=(i:Int)+j:=i64_in (by omega) (by omega)
   have p1:0≤(i:Int)+j:=by omega
   have p2:(i:Int)+j<(lim a).length+(lim b).length:=by omega
   have p3:((i:Int)+j).toNat=i+j:=by omega
   have w3:IntKind.i64.wrap ((j:Int)+1)=j+1:=i64_in (by omega) (by omega)
   have hm:0≤(dg a i:Int)*dg b j∧(dg a i:Int)*dg b j<1000000000000000000:=by
    have hO:=hJ.dig.at hk
    have e:0≤(dg a i:Int)*dg b j:=by rw[←Int.natCast_mul];omega
    exact⟨e,by omega⟩
   have hO:=hJ.dig.at hk
   have w4:IntKind.i64.wrap ((dg a i:Int)*dg b j)=(dg a i:Int)*dg b j:=i64_in (by omega) (by omega)
   have w5:IntKind.i64.wrap (O[i+j]+(dg a i:Int)*dg b j)=O[i+j]+(dg a i:Int)*dg b j:=i64_in (by omega) (by omega)
   have w6:IntKind.i64.wrap (O[i+j]+(dg a i:Int)*dg b j+c)=O[i+j]+(dg a i:Int)*dg b j+c:=i64_in (by omega) (by omega)
   have w7:=wq (x:=O[i+j]+(dg a i:Int)*dg b j+c) (n:=1000000000) n3 (by omega) (by omega)
   simp[aX _ _ h2,w1,w3,w4,w5,w6,w7,p1,p2,p3,hk]
   rw[aB]
   obtain⟨c',hc'⟩: ∃c':Nat,(O[i+j]+(dg a i:Int)*dg b j+c).tdiv 1000000000=c':=⟨((O[i+j]+(dg a i:Int)*dg b j+c).tdiv 1000000000).toNat,by omega⟩
   refine⟨⟨i,j+1,O.set (i+j) ((O[i+j]+(dg a i:Int)*dg b j+c).tmod 1000000000),c'⟩,⟨by simp only;omega,?_⟩,by simp only;omega,rfl,by simp[hc'],sub_eq ?_⟩
   ·rw[hc'] at hN;exact hN
   ·rw[eH]
  ·have e:j=(lim b).length:=by omega
   have hk:i+(lim b).length<O.length:=by omega
   have hR:=hJ.row h1 (by omega) hj hk
   have w1:IntKind.i64.wrap ((i:Int)+(lim b).length)=(i:Int)+(lim b).length:=i64_in (by omega) (by omega)
   have p1:0≤(i:Int)+(lim b).length:=by omega
   have p2:(i:Int)+(lim b).length<(lim a).length+(lim b).length:=by omega
   have p3:((i:Int)+(lim b).length).toNat=i+(lim b).length:=by omega
   have w3:IntKind.i64.wrap ((i:Int)+1)=i+1:=i64_in (by omega) (by omega)
   simp[w1,w3,p1,p2,p3,hk]
   rw[aB]
   refine⟨⟨i+1,0,O.set (i+(lim b).length) c,0⟩,⟨by simp only;omega,hR⟩,by simp only;omega,rfl,by simp,sub_eq ?_⟩
   rw[eH]
 ·have hv:=hI.done (c:=0) (by omega)
  have hlen:=hI.len
  have hg':bl g=none:=by simpa using hg
  have e:((lim a).length+(lim b).length:Nat)=O.length:=hlen.symm
  rw[e]
  refine Nb O hI.dig (by omega) g hg0 (by simp) fun m hm ht=> ?_
  rw[hv] at ht
  have hml:m=(lim (a*b)).length:=by rw[←ht];simp;omega
  subst hml
  simp
  rw[dQ]
  exact⟨[_],by simp,hK g O hg0 hg' hm ht⟩
theorem O8 (a b:Nat) (ha:(lim a).length≤400000) (hb:(lim b).length≤400000):RO Tryz.prog 228 [.sl (iv (lim a)),.sl (iv (lim b))] (.sl (iv (lim (a*b)))):=by
 by_cases h0:a=0∨b=0
 ·have hz:a*b=0:=Nat.mul_eq_zero.2 h0
  rw[hz,aW]
  refine aJ Tryz.func228 rfl rfl (by rw[Tryz.ntmps228];simp) fun bl=> ?_
  rw[Tryz.ntmps228,Tryz.results228]
  refine aC ?_
  simp
  refine bP [(0,.sl (iv (lim a))),(1,.sl (iv (lim b)))] _ bl 19 (.bool true) ⟨rfl,by simp,Sub.refl _⟩ rfl ?_ ?_
  ·simp
   rcases h0 with h0 | h0
   ·simp[h0,aW]
   ·simp[h0,aW]
  simp
  exact aK [.nils] 0 (by simp) rfl (Sub.refl _)
 ·intro bl
  refine sQ (O0 a b ha hb (by omega) (by omega) fun g O hg0 hg hl ht=>⟨1,?_,by simp[hg]⟩) ⟨rfl,rfl⟩
  have:=Pm (bl':=upd bl g (some ⟨1,iv O⟩)) hg0 hg (by simp) hl
  rw[ht] at this
  exact this
structure SL where
 i:Nat
 Q:List Int
 r:Int
theorem qX (a b:Nat) (ha:(lim a).length≤1048576) (hb0:0<b) (hb:b<1000000000):RO Tryz.prog 235 [.sl (iv (lim a)),.int .i64 b] (.tup [.sl (iv (lim (a / b))),.int .i64 (a % b:Nat)]):=by
 refine aJ Tryz.func235 rfl rfl (by rw[Tryz.ntmps235];simp) fun bl=> ?_
 rw[Tryz.ntmps235,Tryz.results235]
 refine aC ?_
 simp
 refine⟨by omega,by unfold maxLen;omega,fun g hg0 hg=> ?_⟩
 have er:List.replicate ((lim a).length) [V.int IntKind.i64 0]=iv (List.replicate ((lim a).length) 0):=by simp[iv]
 have w0:IntKind.i64.wrap (((lim a).length:Int) - 1)=((lim a).length:Int) - 1:=i64_in (by omega) (by omega)
 simp[er,w0]
 refine aI (fun p:SL=> [(0,.sl (iv (lim a))),(1,.int .i64 b),(6,.lsl g 1 0 (lim a).length),(7,.int .i64 p.r),(8,.int .i64 ((p.i:Int) - 1))]) (fun p=>upd bl g (some ⟨1,iv (List.replicate p.i 0++p.Q)⟩))
  (fun p=>0≤p.r∧oE a b p.i p.Q p.r.toNat) (fun p=>p.i) _ ⟨(lim a).length,[],0⟩ ⟨Int.le_refl _,oE.start a b hb0⟩ ⟨rfl,by simp,sub_eq (by simp)⟩ ?_
 rintro⟨i,Q,r⟩ ⟨hr0,hI⟩
 simp only at hr0 hI
 have hr:=hI.rlt
 have hle:=hI.le
 have hql:=hI.len
 refine aC ?_
 simp[-binV, -intV]
 refine⟨fun h1=> ?_,fun h1=> ?_⟩
 ·obtain⟨m,rfl⟩: ∃m,i=m+1:=⟨i - 1,by omega⟩
  have hm:m<(lim a).length:=by omega
  have hd:=eC a m
  obtain⟨z,hz⟩: ∃z,z=r.toNat*1000000000+dg a m:=⟨_,rfl⟩
  have hN:=hI.next (q:=z / b) (r':=z % b) (by rw[hz]) (by rw[hz])
  have e1:((m+1:Nat):Int) - 1=m:=by omega
  have w1:IntKind.i64.wrap (r*1000000000)=r*1000000000:=i64_in (by omega) (by omega)
  have w2:IntKind.i64.wrap (r*1000000000+dg a m)=z:=by rw[i64_in (by omega) (by omega)];omega
  have hz2:z≤9223372036854775807:=by omega
  simp[-binV, -intV,e1,aX _ _ hm,w1,w2]
  clear w1 w2 hz
  have b0: ¬ b=0:=by omega
  have hg':bl g=none:=by simpa using hg
  have w3:=wq (x:=(z:Int)) (n:=b) (by omega) (by omega) (by omega)
  have w4:(z:Int).tdiv b=(z / b:Nat):=by rw[Int.tdiv_eq_ediv_of_nonneg (by omega)];simp
  have w5:(z:Int).tmod b=(z % b:Nat):=by rw[Int.tmod_eq_emod_of_nonneg (by omega)];simp
  rw[w4] at w3
  have w3':IntKind.i64.wrap ((z:Int) / b)=(z:Int) / b:=by simpa using w3
  refine⟨by omega,bA aN bl (by simp[hg']) [0,1,2,3,4,5,6,7,8] 2 (by kernel_rfl) ?_⟩
  simp[-binV, -intV,w3',w4,w5,hm,b0]
  have q:(iv (List.replicate (m+1) 0++Q))[m]? =some [.int .i64 0]:=by rw[dC _ _ (by simp;omega)];simp
  have w6:IntKind.i64.wrap ((m:Int) - 1)=(m:Int) - 1:=i64_in (by omega) (by omega)
  refine Dz 9 ?_
  simp[-binV, -intV,q,hg']
  refine Dz 10 ?_
  simp[-binV, -intV,hg']
  refine Dy ?_
  simp[-binV, -intV,w6,aB]
  refine⟨⟨m,((z / b:Nat):Int)::Q,(z % b:Nat)⟩,⟨by simp only;omega,by show oE a b m _ (((z % b:Nat):Int)).toNat;rw[Int.toNat_natCast];exact hN⟩,by simp only;omega,rfl,by simp,sub_eq ?_⟩
  rw[←nK m _ 0 Q,←eH]
  simp
 ·have e:i=0:=by omega
  subst e
  obtain⟨h2,h3⟩:=hI.done
  have h4:r=(a % b:Nat):=by omega
  have hg':bl g=none:=by simpa using hg
  simp
  refine fV 1 bl _ (by simp[hg']) (kV (ns:=Q) hg0 hg' (by simp) (by simp[hql])) (rU _ hI.dig (by omega)) ?_
  simp[h2,h4]
  exact aK [.sl (iv (lim (a / b))),.int .i64 (a % b:Nat)] 1 (by simp) rfl (by simp)

structure KL where
 i:Nat
 O:List Int
 c:Int
theorem Pj {bl:Int→Option Blk} {K:V→(Int→Option Blk)→Prop} (u:List Int) (V0 g j n m:Nat) (gu:Int) (hgu:0≤gu) (hb:bl gu=some ⟨1,iv u⟩) (hu:Dig u) (hn:(lim V0).length=n) (hm:j+m=u.length) (hnm:n<m) (hg:g<1000000000) (hul:u.length≤1048576)
  (hK: ∀(O:List Int) (c:Nat) (hk:j+n<O.length),iF u V0 g j n O c→K (.bool (decide (O[j+n] - c<0))) (upd bl gu (some ⟨1,iv (O.set (j+n) (O[j+n] - c))⟩))):
  cO Tryz.prog 236 [.lsl gu 1 j m,.sl (iv (lim V0)),.int .i64 g] bl K:=by
 have hu0:upd bl gu (some ⟨1,iv u⟩)=bl:=by
  funext x;simp only[aA];split
  ·rename_i h;rw[h,hb]
  ·rfl
 refine cV Tryz.func236 rfl rfl (by rw[Tryz.ntmps236];simp) ?_
 rw[Tryz.ntmps236,Tryz.results236]
 refine aC ?_
 simp[hn]
 refine aI (fun p:KL=> [(0,.lsl gu 1 j m),(1,.sl (iv (lim V0))),(2,.int .i64 g),(7,.int .i64 p.c),(11,.sl (iv (lim V0))),(12,.int .i64 n),(13,.int .i64 p.i)]) (fun p=>upd bl gu (some ⟨1,iv p.O⟩))
  (fun p=>p.i≤n∧0≤p.c∧iF u V0 g j p.i p.O p.c.toNat) (fun p=>n - p.i) _ ⟨0,u,0⟩ ⟨Nat.zero_le _,Int.le_refl _,iF.start V0 g j hu⟩ ⟨rfl,by simp,sub_eq (by rw[hu0])⟩ ?_
 rintro⟨i,O,c⟩ ⟨hi,hc0,hI⟩
 simp only at hi hc0 hI
 have hc1:=hI.c1
 have hlen:=hI.len
 refine aC ?_
 simp[-binV, -intV]
 refine⟨fun h1=> ?_,fun h1=> ?_⟩
 ·have hv:i<(lim V0).length:=by omega
  have hk:j+i<O.length:=by omega
  have hO:=hI.dig.at hk
  obtain⟨m0,m1⟩:=hI.x hg hk
  have w3:IntKind.i64.wrap ((i:Int)+1)=i+1:=i64_in (by omega) (by omega)
  have w1:IntKind.i64.wrap ((g:Int)*dg V0 i)=(g:Int)*dg V0 i:=i64_in (by omega) (by omega)
  have w2:IntKind.i64.wrap (O[j+i] - (g:Int)*dg V0 i)=O[j+i] - (g:Int)*dg V0 i:=i64_in (by omega) (by omega)
  have w4:IntKind.i64.wrap (O[j+i] - (g:Int)*dg V0 i - c)=O[j+i] - (g:Int)*dg V0 i - c:=i64_in (by omega) (by omega)
  have him:(i:Int)<m:=by omega
  obtain⟨x,hx⟩: ∃x,x=O[j+i] - (g:Int)*dg V0 i - c:=⟨_,rfl⟩
  have hx':x=O[j+i] - (g:Int)*dg V0 i - (c.toNat:Int):=by rw[hx];omega
  have wx:IntKind.i64.wrap x=x:=i64_in (by omega) (by omega)
  have w5:IntKind.i64.wrap (999999999 - x)=999999999 - x:=i64_in (by omega) (by omega)
  have key:x<0→0≤(999999999 - x).tdiv 1000000000∧(999999999 - x).tdiv 1000000000<1000000000∧iF u V0 g j (i+1) (O.set (j+i) (x+(999999999 - x).tdiv 1000000000*1000000000)) ((999999999 - x).tdiv 1000000000).toNat:=fun h=>hI.zY hg hk hx' h (by simp)
  obtain⟨y,hy⟩: ∃y,y=(999999999 - x).tdiv 1000000000:=⟨_,rfl⟩
  rw[←hy] at key
  simp[-binV, -intV,aX _ _ hv,w1,w2,w4,hk,him,←hx,wx,w3,w5,←hy]
  refine⟨fun h3=> ?_,fun h3=> ?_⟩
  ·obtain⟨k1,k2,k3⟩:=key h3
   have w6:IntKind.i64.wrap y=y:=i64_in (by omega) (by omega)
   have w7:IntKind.i64.wrap (y*1000000000)=y*1000000000:=i64_in (by omega) (by omega)
   have w8:IntKind.i64.wrap (x+y*1000000000)=x+y*1000000000:=by
    have:=k3.dig.at (k:=j+i) (by simpa using hk)
    rw[List.getElem_set_self] at this
    exact i64_in (by omega) (by omega)
   simp[-binV, -intV,w6,w7,w8]
   rw[aB]
   refine⟨⟨i+1,O.set (j+i) (x+y*1000000000),y⟩,⟨by simp only;omega,k1,k3⟩,by simp only;omega,rfl,by simp,sub_eq ?_⟩
   rw[eH]
  ·rw[aB]
   refine⟨⟨i+1,O.set (j+i) x,0⟩,⟨by simp only;omega,Int.le_refl _,hI.A8 hg hk hx' (by omega)⟩,by simp only;omega,rfl,by simp,sub_eq ?_⟩
   rw[eH]
 ·have e:i=n:=by omega
  subst e
  have hk:j+i<O.length:=by omega
  have hO:=hI.dig.at hk
  obtain⟨c',rfl⟩: ∃c':Nat,c=c':=⟨c.toNat,by omega⟩
  have w1:IntKind.i64.wrap (O[j+i] - (c':Int))=O[j+i] - (c':Int):=i64_in (by omega) (by omega)
  have him:(i:Int)<m:=by omega
  simp[-binV, -intV,hn,him,hk,w1]
  refine⟨hnm,?_⟩
  rw[dQ]
  refine⟨[.bool (decide (O[j+i] - (c':Int)<0))],by simp,?_⟩
  have:=hK O c' hk (by simpa using hI)
  rw[←eH] at this
  exact this
theorem Ou {bl:Int→Option Blk} {K:V→(Int→Option Blk)→Prop} (O:List Int) (t:Int) (V0 j n m:Nat) (gu:Int) (hgu:0≤gu) (hk:j+n<O.length) (hb:bl gu=some ⟨1,iv (O.set (j+n) t)⟩) (hO:Dig O) (hn:(lim V0).length=n) (hm:j+m=O.length) (ht: -1000000000≤t∧t≤1000000000) (hul:O.length≤1048576)
  (hK: ∀(v:V) (W:List Int) (d:Nat) (hk2:j+n<W.length),rZ O V0 j n W d→K v (upd bl gu (some ⟨1,iv (W.set (j+n) (t+d))⟩))):
  cO Tryz.prog 237 [.lsl gu 1 j m,.sl (iv (lim V0))] bl K:=by
 have hu0:upd bl gu (some ⟨1,iv (O.set (j+n) t)⟩)=bl:=by
  funext x;simp only[aA];split
  ·rename_i h;rw[h,hb]
  ·rfl
 refine cV Tryz.func237 rfl rfl (by rw[Tryz.ntmps237];simp) ?_
 rw[Tryz.ntmps237,Tryz.results237]
 refine aC ?_
 simp[hn]
 refine aI (fun p:KL=> [(0,.lsl gu 1 j m),(1,.sl (iv (lim V0))),(4,.int .i64 p.c),(8,.sl (iv (lim V0))),(9,.int .i64 n),(10,.int .i64 p.i)]) (fun p=>upd bl gu (some ⟨1,iv (p.O.set (j+n) t)⟩))
  (fun p=>p.i≤n∧0≤p.c∧rZ O V0 j p.i p.O p.c.toNat) (fun p=>n - p.i) _ ⟨0,O,0⟩ ⟨Nat.zero_le _,Int.le_refl _,rZ.start V0 j hO⟩ ⟨rfl,by simp,sub_eq (by rw[hu0])⟩ ?_
 rintro⟨i,W,c⟩ ⟨hi,hc0,hI⟩
 simp only at hi hc0 hI
 have hc1:=hI.c1
 have hlen:=hI.len
 refine aC ?_
 simp
 refine⟨fun h1=> ?_,fun h1=> ?_⟩
 ·have hv:i<(lim V0).length:=by omega
  have hki:j+i<W.length:=by omega
  have hne:j+n≠j+i:=by omega
  have hd:=eC V0 i
  have hW:=hI.dig.at hki
  obtain⟨n1,n2,n3,hN⟩:=hI.next hki
  have ec:((c.toNat:Nat):Int)=c:=by omega
  rw[ec] at n1 n2 n3 hN
  have q:(iv (W.set (j+n) t))[j+i]? =some [.int .i64 W[j+i]]:=by rw[dC _ _ (by simpa using hki),List.getElem_set_ne hne]
  have w3:IntKind.i64.wrap ((i:Int)+1)=i+1:=i64_in (by omega) (by omega)
  have w1:IntKind.i64.wrap (W[j+i]+(dg V0 i:Int))=W[j+i]+(dg V0 i:Int):=i64_in (by omega) (by omega)
  have w2:IntKind.i64.wrap (W[j+i]+(dg V0 i:Int)+c)=W[j+i]+(dg V0 i:Int)+c:=i64_in (by omega) (by omega)
  have w4:=wq (x:=W[j+i]+(dg V0 i:Int)+c) (n:=1000000000) n1 (by omega) (by omega)
  have him:(i:Int)<m:=by omega
  simp[-dC,aX _ _ hv,q,w1,w2,w3,w4,him]
  rw[aB]
  refine⟨⟨i+1,W.set (j+i) ((W[j+i]+(dg V0 i:Int)+c).tmod 1000000000),(W[j+i]+(dg V0 i:Int)+c).tdiv 1000000000⟩,⟨by simp only;omega,n3,hN⟩,by simp only;omega,rfl,by simp,sub_eq ?_⟩
  rw[eH,List.set_comm _ _ hne]
 ·have e:i=n:=by omega
  subst e
  have hki:j+i<W.length:=by omega
  obtain⟨c',rfl⟩: ∃c':Nat,c=c':=⟨c.toNat,by omega⟩
  have w1:IntKind.i64.wrap (t+(c':Int))=t+(c':Int):=i64_in (by omega) (by omega)
  have him:(i:Int)<m:=by omega
  have q:(iv (W.set (j+i) t))[j+i]? =some [.int .i64 t]:=by rw[dC _ _ (by simpa using hki),List.getElem_set_self]
  simp[-dC,hn,him,hki,q,w1]
  refine⟨by omega,?_⟩
  rw[jK]
  refine⟨[],rfl,?_⟩
  have:=hK (retV []) W c' hki (by simpa using hI)
  rw[eH,List.set_set]
  exact this

theorem Bu {a b:Nat} :iK a b<0 ↔ a<b:=by unfold iK;split<;>(try split)<;>omega
theorem Mu {b:Nat} (h:(lim b).length=1):dg b 0=b∧b<1000000000∧0<b:=by
 have h1:=dW b 0
 rw[eY (by omega)] at h1
 have h2:=eC b 0
 have h3:b≠0:=fun h0=>by rw[h0,aW] at h;simp at h
 simp at h1
 omega
theorem Ub {d:Nat} (h0:0<d) (h1:d<1000000000):1≤1000000000 / (d+1)∧1000000000 / (d+1)<1000000000∧1000000000 / (d+1)*(d+1)≤1000000000:=by
 refine⟨?_,?_,Nat.div_mul_le_self _ _⟩
 ·rw[Nat.le_div_iff_mul_le (by omega)];omega
 ·exact Nat.div_lt_self (by omega) (by omega)
theorem Cg {f:Nat} (h0:0<f) (h1:f<1000000000):lim f= [(f:Int)]:=by
 rw[mT (by omega),show f / LB=0 from Nat.div_eq_of_lt h1,aW,show f % LB=f from Nat.mod_eq_of_lt h1]
theorem Vu {b f n:Nat} (hn:(lim b).length=n+1) (hf:f*(dg b n+1)≤LB) (hf0:0<f):(lim (b*f)).length=n+1:=by
 have h1:=bZ (a:=b) (b:=b*f) (Nat.le_mul_of_pos_right _ hf0)
 have h2:(lim (b*f)).length≤n+1:=by
  refine aL.2 ?_
  have e:=dW b n
  rw[eY (by omega)] at e
  have hl:=N3 b n
  have h3:b+1≤LB^n*(dg b n+1):=by rw[Nat.mul_add];omega
  have h4:(b+1)*f≤LB^n*(dg b n+1)*f:=Nat.mul_le_mul_right _ h3
  have h5:LB^n*(dg b n+1)*f≤LB^n*LB:=by
   rw[Nat.mul_assoc,Nat.mul_comm (dg b n+1)];exact Nat.mul_le_mul_left _ hf
  rw[Nat.pow_succ]
  rw[Nat.add_mul,Nat.one_mul] at h4
  omega
 omega
theorem KnI.start {a b f k n:Nat} (hn:(lim b).length=n) (hf:0<f) (hb:0<b) (hL:(lim a).length+1≤(lim (a*f)).length+k) (hnL:n≤(lim a).length):
  KnI (a*f) (b*f) ((lim (a*f)).length+k) n ((lim (a*f)).length+k - n) (lim (a*f)++List.replicate k 0) []:=by
 have hd:Dig (lim (a*f)++List.replicate k 0):=Dig.append.2 ⟨fI _,pN k⟩
 have hv:val (lim (a*f)++List.replicate k 0)=a*f:=by rw[hH,pM,eE];simp
 refine⟨by simp,hd,by omega,by simp,(fun _ h=>by cases h),by rw[hv];simp[val],?_⟩
 generalize hj:(lim (a*f)).length+k - n=j
 have hs:=iS (lim (a*f)++List.replicate k 0) (k:=j) (by simp;omega)
 rw[hv] at hs
 generalize val ((lim (a*f)++List.replicate k 0).drop j)=x at hs ⊢
 rcases Nat.lt_or_ge x (b*f) with h | h
 ·exact h
 exfalso
 have h1:LB^j*(b*f)≤a*f:=by
  have:=Nat.mul_le_mul_left (LB^j) h
  omega
 have h2:LB^j*b≤a:=by
  rw[←Nat.mul_assoc] at h1
  exact Nat.le_of_mul_le_mul_right h1 hf
 have h3:=nY (n:=b) (by omega)
 have h4:LB^j*LB^((lim b).length - 1)≤LB^j*b:=Nat.mul_le_mul_left _ h3
 rw[←Nat.pow_add] at h4
 have h5:a<LB^(lim a).length:=aL.1 (Nat.le_refl _)
 have hb1:(lim b).length≠0:=fun h0=>by have:=eN.1 (List.length_eq_zero_iff.1 h0);omega
 have h6:LB^(lim a).length≤LB^(j+((lim b).length - 1)):=Nat.pow_le_pow_right gZ (by omega)
 omega
theorem Ba {a b f:Nat} (hf:0<f):a*f / (b*f)=a / b∧a*f % (b*f)=a % b*f:=⟨Nat.mul_div_mul_right _ _ hf,Nat.mul_mod_mul_right _ _ _⟩
structure GC (U V top t1 v1 v2 T ul vl : Nat) : Prop where
 hu:U=(top*LB+t1)*T+ul
 hv:V=(v1*LB+v2)*T+vl
 hul:ul<T
 hvl:vl<T
 hv1:0<v1
 hv2:v2<LB
 aGW:v1<LB
 ht1:t1<LB
 vS:top≤v1*LB+(LB - 1)
 hlt:U<LB*V
theorem GC.V0 {U V top t1 v1 v2 T ul vl:Nat} (h:GC U V top t1 v1 v2 T ul vl):0<V:=by
 rw[h.hv]
 have:=h.hvl
 have h0:0<v1*LB+v2:=by have:=Nat.mul_pos h.hv1 gZ;omega
 have h1:=Nat.mul_pos h0 (show 0<T by omega)
 omega
structure GI (U V top v1 g r : Nat) : Prop where
 eq:top=g*v1+r
 lt:r<LB
 le:U / V≤g
theorem GC.start {U V top t1 v1 v2 T ul vl:Nat} (h:GC U V top t1 v1 v2 T ul vl):GI U V top v1 (top / v1) (top % v1):=by
 refine⟨by rw[Nat.mul_comm];exact(Nat.div_add_mod _ _).symm,Nat.lt_trans (Nat.mod_lt _ h.hv1) h.aGW,?_⟩
 have e1:U=top*(LB*T)+(t1*T+ul):=by rw[h.hu,Nat.add_mul,Nat.mul_assoc,Nat.add_assoc]
 have e2:V=v1*(LB*T)+(v2*T+vl):=by rw[h.hv,Nat.add_mul,Nat.mul_assoc,Nat.add_assoc]
 rw[e1,e2]
 refine R6 ?_ h.hv1
 have h1:(t1+1)*T≤LB*T:=Nat.mul_le_mul_right _ h.ht1
 rw[Nat.add_mul] at h1
 have:=h.hul
 omega
theorem GC.dec {U V top t1 v1 v2 T ul vl g r:Nat} (h:GC U V top t1 v1 v2 T ul vl) (hI:GI U V top v1 g r) (hc:LB≤g∨r*LB+t1<g*v2):0<g∧U / V≤g - 1∧top=(g - 1)*v1+(r+v1):=by
 have h1:U / V<g:=by
  rcases hc with hc | hc
  ·exact W5 h.V0 h.hlt hc
  ·have h2:=(wS (v2:=v2) (u:=t1) hI.eq).1 hc
   rw[h.hu,h.hv]
   exact Et (by have:=h.hul;omega) h.hul (by have:=Nat.mul_pos h.hv1 gZ;omega) h2
 generalize U / V=q at h1 ⊢
 refine⟨by omega,by omega,?_⟩
 obtain⟨k,rfl⟩: ∃k,g=k+1:=⟨g - 1,by omega⟩
 have:=hI.eq
 rw[Nat.add_mul] at this
 rw[Nat.add_sub_cancel]
 omega
theorem GC.done {U V top t1 v1 v2 T ul vl g r:Nat} (h:GC U V top t1 v1 v2 T ul vl) (hI:GI U V top v1 g r) (h1:g<LB) (h2:g*v2≤r*LB+t1):g=U / V∨g=U / V+1:=by
 have hle:=hI.le
 have h3:g*(v1*LB+v2)≤top*LB+t1:=by
  have:=wS (v2:=v2) (u:=t1) hI.eq
  omega
 have:=B1 (ul:=ul) h.hvl h.hv1 h1 h3
 rw[←h.hu,←h.hv] at this
 generalize U / V=q at *
 omega
theorem GC.brk {U V top t1 v1 v2 T ul vl g r:Nat} (h:GC U V top t1 v1 v2 T ul vl) (h0:top=g*v1+r) (h1:LB≤r) (h2:U / V≤g):g<LB∧(g=U / V∨g=U / V+1):=by
 obtain⟨h3,h4⟩:=U3 (u:=t1) h0 h1 h.vS h.hv2 h.hv1
 have:=B1 (ul:=ul) h.hvl h.hv1 h3 h4
 rw[←h.hu,←h.hv] at this
 generalize U / V=q at *
 exact⟨h3,by omega⟩

structure OL where
 j:Nat
 u:List Int
 Q:List Int
structure QL where
 g:Int
 r:Int
set_option maxHeartbeats 2000000 in
theorem Oo (a b:Nat) (hb0:0<b) (ha:(lim a).length≤300000) (hbl:(lim b).length≤300000):RO Tryz.prog 176 [.sl (iv (lim a)),.sl (iv (lim b))] (.tup [.sl (iv (lim (a / b))),.sl (iv (lim (a % b)))]):=by
 refine aJ Tryz.func176 rfl rfl (by rw[Tryz.ntmps176];simp) fun bl=> ?_
 rw[Tryz.ntmps176,Tryz.results176]
 refine aD ?_
 simp
 refine aD ?_
 simp
 refine aE (mM a b (by omega) (by omega)) ?_
 simp[Bu]
 refine⟨fun h=> ?_,fun h=> ?_⟩
 ·refine aE (zM (lim a) (by omega)) ?_
  have e1:a / b=0:=Nat.div_eq_of_lt h
  have e2:a % b=a:=Nat.mod_eq_of_lt h
  simp[e1,e2,aW]
  exact aK [.nils,.sl (iv (lim a))] 1 (by simp) rfl (Sub.refl _)
 refine aD ?_
 simp
 refine⟨fun h1=> ?_,fun h1=> ?_⟩
 ·have h1':(lim b).length=1:=by omega
  obtain⟨b1,b2,b3⟩:=Mu h1'
  simp[aX b 0 (by omega),b1]
  refine aE (qX a b (by omega) b3 b2) ?_
  have hr:a % b<b:=Nat.mod_lt _ b3
  obtain⟨r,hr2⟩: ∃r,r=a % b:=⟨_,rfl⟩
  rw[←hr2] at hr ⊢
  have w1:IntKind.u64.wrap (r:Int)=r:=IntWalk.u64_in _ ⟨by omega,by omega⟩
  simp[w1]
  refine aE (qF r (by omega)) ?_
  simp
  exact aK [.sl (iv (lim (a / b))),.sl (iv (lim r))] 1 (by simp) rfl (Sub.refl _)
 have hab:b≤a:=by omega
 have hla:=bZ hab
 have hbz:(lim b).length≠0:=fun h0=>by have:=eN.1 (List.length_eq_zero_iff.1 h0);omega
 obtain⟨n,hn⟩: ∃n,(lim b).length=n+2:=⟨(lim b).length - 2,by omega⟩
 have hd0:0<dg b (n+1):=H0 hn
 have hd1:=eC b (n+1)
 obtain⟨f0,f1,f2⟩:=Ub hd0 hd1
 obtain⟨f,hf⟩: ∃f,f=1000000000 / (dg b (n+1)+1):=⟨_,rfl⟩
 rw[←hf] at f0 f1 f2
 have hbf:=Vu hn (show f*(dg b (n+1)+1)≤LB from f2) f0
 have hlf:=Cg f0 f1
 have hfl:(lim f).length=1:=by rw[hlf];rfl
 refine aD ?_
 have w0:IntKind.i64.wrap (((lim b).length:Int) - 1)=((n+1:Nat):Int):=by rw[i64_in (by omega) (by omega)];omega
 have w1:IntKind.i64.wrap ((dg b (n+1):Int)+1)=(dg b (n+1):Int)+1:=i64_in (by omega) (by omega)
 have w2:IntKind.i64.wrap ((1000000000:Int).tdiv ((dg b (n+1):Int)+1))=f:=by
  rw[Int.tdiv_eq_ediv_of_nonneg (by omega),show(1000000000:Int) / ((dg b (n+1):Int)+1)=((1000000000 / (dg b (n+1)+1):Nat):Int) by simp,←hf]
  exact i64_in (by omega) (by omega)
 have hz1: ¬ (dg b (n+1):Int)+1=0:=by omega
 generalize hdd:dg b (n+1)=d at *
 have lg:=aX b (n+1) (by omega)
 rw[hdd] at lg
 have er1:List.range 1= [0]:=rfl
 simp[-binV, -intV,w0,w1,w2,lg,hz1,er1]
 refine⟨by omega,fun g8 hg8 hb8=> ?_⟩
 refine cE 1 8 (.sl (iv (lim f))) bl (by simp[hb8]) ?_ ?_
 ·rw[hlf]
  exact dM hg8 hb8 (by simp;rfl) rfl rfl
 refine aD ?_
 simp
 refine O0 a f (by omega) (by omega) (by omega) (by omega) fun g O hg0 hg hO ht=> ?_
 simp
 intro g2 hg2 h2g hb2
 simp[h2g,Ne.symm h2g,appV,elsV,Int.not_lt.2 hg2,hO,Int.not_lt.2 hg0]
 have aPT:(lim (a*f)).length≤(lim a).length+1:=by
  refine aL.2 ?_
  have h2:a<LB^(lim a).length:=aL.1 (Nat.le_refl _)
  rw[Nat.pow_succ]
  exact Nat.mul_lt_mul_of_lt_of_le h2 (Nat.le_of_lt f1) gZ
 have aPJ:=bZ (a:=a) (b:=a*f) (Nat.le_mul_of_pos_right _ f0)
 refine⟨by omega,fun g3 hg3 hb3=> ?_⟩
 have fK:bl g3=none:=by grind
 refine aE (O8 b f (by omega) (by omega)) ?_
 simp
 refine fH (fun p:Int×Nat=> [(0,.sl (iv (lim a))),(8,.sl (iv (lim f))),(9,.lsl p.1 1 0 ((lim (a*f)).length+p.2)),(10,.sl (iv (lim (b*f))))]) (fun p=>upd bl p.1 (some ⟨1,iv (lim (a*f)++List.replicate p.2 0)⟩))
  (fun p=>bl p.1=none∧0≤p.1∧(lim a).length+1≤(lim (a*f)).length+p.2∧1≤p.2∧p.2≤3) 172 ?_ ?_
 ·refine aC ?_
  simp
  refine aI (fun p:Int×Nat=> [(0,.sl (iv (lim a))),(8,.sl (iv (lim f))),(9,.lsl p.1 1 0 ((lim (a*f)).length+p.2)),(10,.sl (iv (lim (b*f))))]) (fun p=>upd bl p.1 (some ⟨1,iv (lim (a*f)++List.replicate p.2 0)⟩))
   (fun p=>bl p.1=none∧0≤p.1∧1≤p.2∧p.2≤3) (fun p=>3 - p.2) _ (g3,1) ⟨fK,hg3,by simp,by simp⟩ ⟨rfl,by simp,cX (by simp[aT,uT,ht];rfl) (by simp[hg,hb2])⟩ ?_
  rintro⟨g4,k⟩ ⟨hb4,hg4,hk1,hk3⟩
  simp only at hb4 hg4 hk1 hk3
  refine aC ?_
  simp
  refine⟨fun h2=> ?_,fun h2=> ?_⟩
  ·intro g5 hg5 h54 hb5
   simp[h54,Ne.symm h54,appV,elsV,Int.not_lt.2 hg5]
   refine⟨by omega,fun g6 hg6 hb6=> ?_⟩
   have aL3:bl g6=none:=by grind
   rw[aB]
   refine⟨(g6,k+1),⟨aL3,hg6,by simp,by simp only;omega⟩,by simp only;omega,rfl,by simp[Nat.add_assoc],cX ?_ (by simp[hb4,hb5])⟩
   rw[List.take_of_length_le (by simp)]
   simp[iv,List.replicate_succ']
  ·rw[aH]
   exact⟨(g4,k),⟨hb4,hg4,by simp only;omega,hk1,hk3⟩,rfl,by simp,Sub.refl _⟩
 rintro⟨g4,k⟩ ⟨hb4,hg4,hk0,hk1,hk3⟩
 simp only at hb4 hg4 hk0 hk1 hk3
 have hKs:=KnI.start (a:=a) (b:=b) (f:=f) (k:=k) hn f0 hb0 hk0 (by omega)
 generalize hL:(lim (a*f)).length+k=L at *
 obtain⟨N,hN⟩: ∃N,N=n+2:=⟨_,rfl⟩
 have Ru:(lim (b*f)).length=N:=by omega
 rw[←hN] at hKs
 have hLn:N≤L:=by omega
 have w3:IntKind.i64.wrap ((L:Int) - (N:Int))=((L - N:Nat):Int):=by rw[i64_in (by omega) (by omega)];omega
 have w4:IntKind.i64.wrap (((L - N:Nat):Int) - 1)=((L - N:Nat):Int) - 1:=i64_in (by omega) (by omega)
 refine aC ?_
 simp[Ru,w3,w4]
 refine⟨by omega,by unfold maxLen;omega,fun g5 hg5 h54 hb5=> ?_⟩
 have er:List.replicate (L - N) [V.int IntKind.i64 0]=iv (List.replicate (L - N) 0):=by simp[iv]
 simp[er,h54,Ne.symm h54,Ru,w3,w4]
 refine aI (fun p:OL=> [(8,.sl (iv (lim f))),(9,.lsl g4 1 0 L),(10,.sl (iv (lim (b*f)))),(11,.int .i64 N),(12,.lsl g5 1 0 (L - N)),(13,.int .i64 ((p.j:Int) - 1))]) (fun p=>upd (upd bl g4 (some ⟨1,iv p.u⟩)) g5 (some ⟨1,iv (List.replicate p.j 0++p.Q)⟩))
  (fun p=>p.j≤L - N∧KnI (a*f) (b*f) L N p.j p.u p.Q) (fun p=>p.j) _ ⟨L - N,_,[]⟩ ⟨Nat.le_refl _,hKs⟩ ⟨rfl,by simp,sub_eq (by simp)⟩ ?_
 rintro⟨j,u,Q⟩ ⟨hj,hI⟩
 simp only at hj hI
 have hlen:=hI.len
 refine aD ?_
 simp
 refine⟨fun h2=> ?_,fun h2=> ?_⟩
 ·obtain⟨m,rfl⟩: ∃m,j=m+1:=⟨j - 1,by omega⟩
  have hV:=Ru
  generalize hVV:b*f=W at *
  have hUV:=hI.U
  have hz:=hI.zero hV
  have hk3:m+N<u.length:=by omega
  have hk2:m+(n+1)<u.length:=by omega
  have hk1:m+n<u.length:=by omega
  have t3:=hI.dig.at hk3
  have t2:=hI.dig.at hk2
  have t1:=hI.dig.at hk1
  obtain⟨yS,vS⟩: ∃t,t=u[m+N].toNat*LB+u[m+(n+1)].toNat:=⟨_,rfl⟩
  have hGC:GC (val (u.drop m)) W yS u[m+n].toNat (dg W (n+1)) (dg W n) (LB^n) (val ((u.drop m).take n)) (pv W n):=by
   have hLB:LB=1000000000:=rfl
   subst hN
   have htv:=hI.top hV hk3
   refine⟨?_,aES hV,?_,N3 _ _,H0 hV,?_,?_,?_,?_,hUV⟩
   ·rw[vS];exact aD4 hI.dig hz hk3 hk2 hk1
   ·exact mG fun d hd=>hI.dig d (List.mem_of_mem_drop hd)
   ·exact eC _ _
   ·exact eC _ _
   ·rw[hLB];omega
   ·rw[vS,hLB];omega
  have hv1:=hGC.hv1
  have aGW:=eC W (n+1)
  have aQN:=eC W n
  refine fH (fun p:OL=> [(8,.sl (iv (lim f))),(9,.lsl g4 1 0 L),(10,.sl (iv (lim W))),(11,.int .i64 N),(12,.lsl g5 1 0 (L - N)),(13,.int .i64 (p.j:Int))]) (fun p=>upd (upd bl g4 (some ⟨1,iv p.u⟩)) g5 (some ⟨1,iv (List.replicate p.j 0++p.Q)⟩))
   (fun p=>p.j=m∧KnI (a*f) W L N m p.u p.Q) 172 ?_ ?_
  ·refine aR ?_
   refine aD ?_
   simp[-binV, -intV]
   have e1:((m+1:Nat):Int) - 1=m:=by omega
   have i1:IntKind.i64.wrap ((m:Int)+N)=(m:Int)+N:=i64_in (by omega) (by omega)
   have i2:IntKind.i64.wrap ((m:Int)+N - 1)=(m:Int)+(n+1):=by rw[i64_in (by omega) (by omega)];omega
   have i3:IntKind.i64.wrap ((N:Int) - 1)=(n:Int)+1:=by rw[i64_in (by omega) (by omega)];omega
   have p1:0≤(m:Int)+N:=by omega
   have p2:0≤(m:Int)+(n+1):=by omega
   have p3:0≤(n:Int)+1:=by omega
   have l1:(m:Int)+N<L:=by omega
   have l2:(m:Int)+(n+1)<L:=by omega
   have c1:((m:Int)+N).toNat=m+N:=by omega
   have c2:((m:Int)+(n+1)).toNat=m+(n+1):=by omega
   have c3:((n:Int)+1).toNat=n+1:=by omega
   have hLB:LB=1000000000:=rfl
   have x1:IntKind.i64.wrap (u[m+N]*1000000000)=u[m+N]*1000000000:=i64_in (by omega) (by omega)
   have x2:IntKind.i64.wrap (u[m+N]*1000000000+u[m+(n+1)])=yS:=by rw[i64_in (by omega) (by omega),vS,hLB];omega
   have hz0: ¬ dg W (n+1)=0:=by omega
   have aOP:yS≤1000000000000000000:=by rw[vS,hLB];omega
   have lw:=aX W (n+1) (by omega)
   have y1:(yS:Int).tdiv (dg W (n+1):Nat)=(yS / dg W (n+1):Nat):=by rw[Int.tdiv_eq_ediv_of_nonneg (by omega)];simp
   have y2:(yS:Int).tmod (dg W (n+1):Nat)=(yS % dg W (n+1):Nat):=by rw[Int.tmod_eq_emod_of_nonneg (by omega)];simp
   have y3:=wq (x:=(yS:Int)) (n:=(dg W (n+1):Nat)) (by omega) (by omega) (by omega)
   rw[y1] at y3
   obtain⟨g0,sA⟩: ∃g0:Int,g0=(yS / dg W (n+1):Nat):=⟨_,rfl⟩
   obtain⟨r0,Tp⟩: ∃r0:Int,r0=(yS % dg W (n+1):Nat):=⟨_,rfl⟩
   rw[←sA] at y1 y3
   rw[←Tp] at y2
   refine cN aN (by kernel_rfl) ?_
   simp[-binV, -intV,e1,i1,i2,p1,p2,l1,l2,c1,c2,hk3,hk2,x1,x2,h54,Ne.symm h54]
   refine aD ?_
   simp
   refine cN aN (by kernel_rfl) ?_
   simp[-binV, -intV,e1,i3,p3,c3,lw,hz0,y1,y2,y3]
   refine fH (fun p:QL=> [(8,.sl (iv (lim f))),(9,.lsl g4 1 0 L),(10,.sl (iv (lim W))),(11,.int .i64 N),(12,.lsl g5 1 0 (L - N)),(13,.int .i64 m),(15,.int .i64 p.g)]) (fun p=>upd (upd bl g4 (some ⟨1,iv u⟩)) g5 (some ⟨1,iv (List.replicate (m+1) 0++Q)⟩))
    (fun p=>0≤p.g∧p.g<1000000000∧(p.g.toNat=val (u.drop m) / W∨p.g.toNat=val (u.drop m) / W+1)) 172 ?_ ?_
   ·refine aC ?_
    simp[-binV, -intV]
    refine aI (fun p:QL=> [(8,.sl (iv (lim f))),(9,.lsl g4 1 0 L),(10,.sl (iv (lim W))),(11,.int .i64 N),(12,.lsl g5 1 0 (L - N)),(13,.int .i64 m),(15,.int .i64 p.g),(16,.int .i64 p.r)]) (fun p=>upd (upd bl g4 (some ⟨1,iv u⟩)) g5 (some ⟨1,iv (List.replicate (m+1) 0++Q)⟩))
     (fun p=>0≤p.g∧0≤p.r∧GI (val (u.drop m)) W yS (dg W (n+1)) p.g.toNat p.r.toNat) (fun p=>p.g.toNat) _ ⟨g0,r0⟩ ⟨by simp only[sA];exact Int.natCast_nonneg _,by simp only[Tp];exact Int.natCast_nonneg _,?_⟩ ⟨rfl,by simp,sub_eq (by simp)⟩ ?_
    ·have:=hGC.start
     simp only[sA,Tp,Int.toNat_natCast]
     exact this
    rintro⟨gg,rr⟩ ⟨hgg,hrr,hGI⟩
    simp only at hgg hrr hGI
    refine aD ?_
    simp[-binV, -intV]
    have hgN:gg≤1000000000000000000:=by
     have e:=hGI.eq
     have h3:gg.toNat*1≤gg.toNat*dg W (n+1):=Nat.mul_le_mul_left _ hv1
     omega
    have hrl:=hGI.lt
    rw[hLB] at hrl
    have i4:IntKind.i64.wrap ((N:Int) - 2)=(n:Int):=by rw[i64_in (by omega) (by omega)];omega
    have i5:IntKind.i64.wrap ((m:Int)+N - 2)=(m:Int)+n:=by rw[i64_in (by omega) (by omega)];omega
    have p4:0≤(m:Int)+n:=by omega
    have l4:(m:Int)+n<L:=by omega
    have c4:((m:Int)+n).toNat=m+n:=by omega
    have lw2:=aX W n (by omega)
    have z1:IntKind.i64.wrap (rr*1000000000)=rr*1000000000:=i64_in (by omega) (by omega)
    have z2:IntKind.i64.wrap (rr*1000000000+u[m+n])=rr*1000000000+u[m+n]:=i64_in (by omega) (by omega)
    refine sE aN (by kernel_rfl) [(8,.sl (iv (lim f))),(9,.lsl g4 1 0 L),(10,.sl (iv (lim W))),(11,.int .i64 N),(12,.lsl g5 1 0 (L - N)),(13,.int .i64 m),(15,.int .i64 gg),(16,.int .i64 rr)] _ (upd (upd bl g4 (some ⟨1,iv u⟩)) g5 (some ⟨1,iv (List.replicate (m+1) 0++Q)⟩))
     131 (.bool (decide (1000000000≤gg)|| decide (rr*1000000000+u[m+n]<gg*(dg W n:Nat)))) ⟨rfl,by simp,Sub.refl _⟩ rfl ?_ ?_
    ·by_cases hbig:1000000000≤gg
     ·simp[-binV, -intV,hbig]
     ·have z3:IntKind.i64.wrap (gg*(dg W n:Nat))=gg*(dg W n:Nat):=by
       have q1:0≤gg*(dg W n:Nat):=Int.mul_nonneg hgg (by omega)
       have q2:gg*(dg W n:Nat)≤1000000000*1000000000:=Int.mul_le_mul (by omega) (by omega) (by omega) (by omega)
       exact i64_in (by omega) (by omega)
      simp[-binV, -intV,hbig,i1,i4,i5,p4,l4,c4,hk1,lw2,z1,z2,z3,h54,Ne.symm h54]
    have conv:(1000000000≤gg∨rr*1000000000+u[m+n]<gg*(dg W n:Nat)) ↔ (LB≤gg.toNat∨rr.toNat*LB+u[m+n].toNat<gg.toNat*dg W n):=by
     have e:gg*(dg W n:Nat)=((gg.toNat*dg W n:Nat):Int):=by rw[Int.natCast_mul,Int.toNat_of_nonneg hgg]
     rw[e,hLB];omega
    simp[-binV, -intV]
    refine⟨fun hc=> ?_,fun hc1 hc2=> ?_⟩
    ·obtain⟨d1,d2,d3⟩:=hGC.dec hGI (conv.1 hc)
     have q1:IntKind.i64.wrap (gg - 1)=gg - 1:=i64_in (by omega) (by omega)
     have q2:IntKind.i64.wrap (rr+(dg W (n+1):Nat))=rr+(dg W (n+1):Nat):=i64_in (by omega) (by omega)
     have e1:(gg - 1).toNat=gg.toNat - 1:=by omega
     have e2:(rr+(dg W (n+1):Nat)).toNat=rr.toNat+dg W (n+1):=by omega
     refine aC ?_
     simp[-binV, -intV,q1,q2,i3,p3,c3,lw]
     refine⟨fun hb=> ?_,fun hb=> ?_⟩
     ·obtain⟨f3,f4⟩:=hGC.brk d3 (by rw[hLB];omega) d2
      rw[hLB] at f3
      rw[aH]
      exact⟨⟨gg - 1,0⟩,⟨by simp only;omega,by simp only;omega,by rw[e1];exact f4⟩,rfl,by simp,Sub.refl _⟩
     ·rw[aB]
      exact⟨⟨gg - 1,rr+(dg W (n+1):Nat)⟩,⟨by simp only;omega,by simp only;omega,⟨by rw[e1,e2];exact d3,by rw[e2,hLB];omega,by rw[e1];exact d2⟩⟩,by simp only;omega,rfl,by simp,Sub.refl _⟩
    ·have hn: ¬ (LB≤gg.toNat∨rr.toNat*LB+u[m+n].toNat<gg.toNat*dg W n):=fun hh=>(conv.2 hh).elim (fun h=>by omega) (fun h=>by omega)
     have f4:=hGC.done hGI (by rcases Nat.lt_or_ge gg.toNat LB with h | h;exact h;exact(hn (.inl h)).elim) (by rcases Nat.lt_or_ge (rr.toNat*LB+u[m+n].toNat) (gg.toNat*dg W n) with h | h;exact(hn (.inr h)).elim;exact h)
     rw[aH]
     exact⟨⟨gg,0⟩,⟨hgg,by simp only;omega,f4⟩,rfl,by simp,Sub.refl _⟩
   ·rintro⟨gg,rr⟩ ⟨hgg,hg9,hgD⟩
    simp only at hgg hg9 hgD
    obtain⟨gN,rfl⟩: ∃gN:Nat,gg=gN:=⟨gg.toNat,by omega⟩
    rw[Int.toNat_natCast] at hgD
    have hs:sliV Tryz.prog 27 (.lsl g4 1 0 L) (some (.int .i64 (m:Nat))) none=some (.lsl g4 1 m (L - m)):=by
     simp[sliV]
     rcases Nat.eq_zero_or_pos m with h | h
     ·subst h;simp;omega
     ·simp[show ¬ m=0 by omega,show ¬ m=L by omega];omega
    have hW0:=hGC.V0
    have b4:(upd (upd bl g4 (some ⟨1,iv u⟩)) g5 (some ⟨1,iv (List.replicate (m+1) 0++Q)⟩)) g4=some ⟨1,iv u⟩:=by simp[Ne.symm h54]
    have q5:(iv (List.replicate (m+1) 0++Q))[m]? =some [.int .i64 0]:=by rw[dC _ _ (by simp;omega)];simp
    have lm:m<L - N:=by omega
    refine aD ?_
    simp[hs]
    refine Pj u W gN m N (L - m) g4 hg4 b4 hI.dig hV (by omega) (by omega) (by omega) (by omega) fun O c hk hT=> ?_
    have hOl:=hT.len
    simp
    refine⟨fun hc=> ?_,fun hc=> ?_⟩
    ·have hov:=Z2 hI.dig hT hV hk hz hgD hW0 (by omega)
     have q1:IntKind.i64.wrap ((gN:Int) - 1)=(val (u.drop m) / W:Nat):=by rw[i64_in (by omega) (by omega),hov];simp
     have hO9:=hT.dig.at hk
     have hc9:=hT.c1
     simp[hs,q1]
     refine Ou O (O[m+N] - c) W m N (L - m) g4 hg4 hk (by simp[Ne.symm h54]) hT.dig hV (by omega) (by omega) (by omega) fun v W2 d2 hk2 hG=> ?_
     obtain⟨z0,zD,zv⟩:=Z6 hI.dig hT hG hV hk hk2 hz hov hW0
     rw[z0]
     have hN2:=hI.next (O:=W2.set (m+N) 0) (by simp[hG.len,hOl,hlen]) zD zv
     simp
     refine aC ?_
     simp[q5,h54,Ne.symm h54,lm]
     rw[aH]
     refine⟨⟨m,W2.set (m+N) 0,((val (u.drop m) / W:Nat):Int)::Q⟩,⟨rfl,hN2⟩,rfl,by simp,sub_eq ?_⟩
     funext x
     simp only[aA,←nK m _ 0 Q,←eH]
     by_cases x1:x=g5
     ·simp[x1]
     ·by_cases x2:x=g4<;>simp[x1,x2]
    ·obtain⟨zD,zq,zv⟩:=X5 hI.dig hT hV hk hgD hW0 (by omega)
     have hN2:=hI.next (O:=O.set (m+N) (O[m+N] - c)) (by simp[hOl,hlen]) zD zv
     refine aC ?_
     rw[zq]
     simp[q5,h54,Ne.symm h54,lm]
     rw[aH]
     refine⟨⟨m,O.set (m+N) (O[m+N] - c),((val (u.drop m) / W:Nat):Int)::Q⟩,⟨rfl,hN2⟩,rfl,by simp,sub_eq ?_⟩
     funext x
     simp only[aA,←nK m _ 0 Q,←eH]
     by_cases x1:x=g5
     ·simp[x1]
     ·by_cases x2:x=g4<;>simp[x1,x2]
  ·rintro⟨j',u',Q'⟩ ⟨hj',hI'⟩
   simp only at hj' hI'
   subst hj'
   have w5:IntKind.i64.wrap ((j':Int) - 1)=(j':Int) - 1:=i64_in (by omega) (by omega)
   refine aC ?_
   simp[w5]
   rw[aB]
   exact⟨⟨j',u',Q'⟩,⟨by simp only;omega,hI'⟩,by simp only;omega,rfl,by simp,Sub.refl _⟩
 ·have e:j=0:=by omega
  subst e
  obtain⟨v1,v2⟩:=hI.done
  obtain⟨s1,s2⟩:=Ba (a:=a) (b:=b) (f:=f) f0
  rw[s1] at v1
  rw[s2] at v2
  have lf:=aX f 0 (by omega)
  have df:dg f 0=f:=(Mu hfl).1
  have hq2:a % b*f / f=a % b:=Nat.mul_div_cancel _ f0
  have hlu:(lim (a % b*f)).length≤1048576:=by
   have:=bZ (a:=a % b*f) (b:=a*f) (Nat.mul_le_mul_right _ (Nat.mod_le _ _));omega
  refine cE 1 9 (.sl (iv u)) (upd bl g5 (some ⟨1,iv Q⟩)) (by intro x y;simp only[aA];grind) ?_ ?_
  ·exact dM hg4 (by simp[Ne.symm h54,hb4]) (by simp[Ne.symm h54]) (by simp[hlen]) (nE u)
  refine cE 1 12 (.sl (iv Q)) bl (by simp[hb5]) ?_ ?_
  ·exact dM hg5 hb5 (by simp) (by simp[hI.Wc]) (nE Q)
  refine cN aN (by kernel_rfl) ?_
  simp
  refine aP (rU u hI.dig (by omega)) ?_
  simp[v2,lf,df]
  refine aP (qX _ f hlu f0 f1) ?_
  simp[hq2]
  refine aE (rU Q hI.aIL (by have:=hI.Wc;omega)) ?_
  simp[v1]
  exact aK [.sl (iv (lim (a / b))),.sl (iv (lim (a % b)))] 1 (by simp) rfl (Sub.refl _)
end Go.Proofs.YticmgmemnpcbbaaGreat.Vm

namespace Go.Proofs.YticmgmemnpcbbaaGreat.Vm
set_option linter.unusedSimpArgs false
set_option linter.unusedVariables false
structure RT where
 neg:Bool
 m:List Int
 d:List Int
 deriving DecidableEq
def rq (q:Rat):RT:=⟨decide (q.num<0),lim q.num.natAbs,lim q.den⟩
def rz :RT:=⟨false,[],[]⟩
def fits (q:Rat):Prop:=(lim q.num.natAbs).length≤24∧(lim q.den).length≤24
instance (q : Rat) : Decidable (fits q) := by unfold fits; infer_instance
def fit (q:Rat):Option Rat:=if fits q then some q else none
def RT.ok (r:RT):Prop:=lim (val r.m)=r.m∧lim (val r.d)=r.d∧r.m.length≤24∧r.d.length≤24∧r.d≠ []∧ ¬ (r.neg=true∧r.m= [])∧Nat.gcd (val r.m) (val r.d)=1
instance (r : RT) : Decidable r.ok := by unfold RT.ok; infer_instance
def RT.num (r:RT):Int:=if r.neg then -(val r.m:Int) else val r.m
def rd (r:RT):Option Rat:=if r.ok then some (mkRat r.num (val r.d)) else none
def ro (x:Option Rat):RT:=match x with | some q=>rq q | none=>rz
@[simp] theorem aJL : ro none = rz := rfl
@[simp] theorem mI (q : Rat) : ro (some q) = rq q := rfl
theorem zG {n:Int} {d:Nat} (hd:d≠0) (h:Nat.gcd n.natAbs d=1):(mkRat n d).num=n∧(mkRat n d).den=d:=by
 rw[←Rat.normalize_eq_mkRat hd,Rat.normalize_eq hd]
 constructor
 ·show n / ((Nat.gcd n.natAbs d:Nat):Int)=n
  rw[h];simp
 ·show d / Nat.gcd n.natAbs d=d
  rw[h];simp
theorem RT.Y6 (r:RT):r.num.natAbs=val r.m:=by
 unfold RT.num;split<;>simp
theorem rd_some {r:RT} {q:Rat} (h:rd r=some q):r=rq q∧fits q:=by
 unfold rd at h
 split at h
 ·rename_i hok
  obtain⟨h1,h2,h3,h4,h5,h6,h7⟩:=hok
  have hq:mkRat r.num (val r.d)=q:=Option.some.inj h
  have hd0:val r.d≠0:=fun h0=>by rw[h0,aW] at h2;exact h5 h2.symm
  have ha:=r.Y6
  obtain⟨e1,e2⟩:=zG (n:=r.num) hd0 (by rw[ha];exact h7)
  rw[hq] at e1 e2
  have f1:lim q.num.natAbs=r.m:=by rw[e1,ha,h1]
  have f2:lim q.den=r.d:=by rw[e2,h2]
  refine⟨?_,by rw[f1];exact h3,by rw[f2];exact h4⟩
  unfold rq
  rw[f1,f2,e1]
  cases r with
  | mk neg m d =>
    congr 1
    unfold RT.num
    simp only at h1 h6 ⊢
    cases neg
    ·simp
    ·simp
     have:m≠ []:=fun hm=>h6 ⟨rfl,hm⟩
     have:val m≠0:=fun h0=>by rw[h0,aW] at h1;exact this h1.symm
     omega
 ·cases h
theorem Ll {q:Rat} (h:fits q):rd (rq q)=some q:=by
 have hok:(rq q).ok:=by
  unfold rq RT.ok
  simp only[eE]
  refine⟨trivial,trivial,h.1,h.2,fun h0=>q.den_nz (eN.1 h0),?_,q.reduced⟩
  rintro⟨h1,h2⟩
  have h3:q.num.natAbs=0:=eN.1 h2
  have:q.num<0:=by simpa using h1
  omega
 unfold rd
 rw[if_pos hok]
 congr 1
 have:(rq q).num=q.num:=by
  unfold rq RT.num
  simp only[eE]
  by_cases h1:q.num<0
  ·simp[h1];omega
  ·simp[h1];omega
 rw[this]
 show mkRat q.num (val (lim q.den))=q
 rw[eE,Rat.mkRat_self]
theorem Qy {r:RT} :(rd r).isSome=true ↔ r.ok:=by
 unfold rd;split<;>simp_all
theorem fits_int {n:Int} (h:n.natAbs≤9223372036854775808):fits (n:Rat):=by
 unfold fits
 refine⟨aL.2 ?_,aL.2 ?_⟩
 ·show n.natAbs<_
  exact Nat.lt_of_le_of_lt h (by decide+kernel)
 ·show 1<_
  decide+kernel
end Go.Proofs.YticmgmemnpcbbaaGreat.Vm

namespace Go.Proofs.YticmgmemnpcbbaaGreat.Vm
open Go Go.Proofs
set_option linter.unusedSimpArgs false
set_option linter.unusedVariables false
def lT (ns:List Int):Bool:=decide (ns.length≤60)&& decide (lim (val ns)=ns)
theorem U0 {ns:List Int} :lim (val ns)=ns ↔ Dig ns∧(ns.length=0∨ns.getD (ns.length - 1) 1≠0):=by
 have Qe: ∀d,ns.getLast? =some d ↔ ns.length≠0∧ns.getD (ns.length - 1) 1=d:=by
  intro d
  rw[List.getLast?_eq_getElem?]
  rcases Nat.eq_zero_or_pos ns.length with h | h
  ·rw[List.getElem?_eq_none (by omega)];simp[h]
  ·have h1:ns.length - 1<ns.length:=by omega
   have h2:ns≠ []:=fun h0=>by rw[h0] at h;simp at h
   rw[List.getElem?_eq_getElem h1]
   simp[h1,h2]
 constructor
 ·intro h
  refine⟨h▸fI _,?_⟩
  by_cases h0:ns.length=0
  ·exact .inl h0
  ·exact .inr (J9 (val ns) _ (by rw[h];exact(Qe _).2 ⟨h0,rfl⟩))
 ·rintro⟨h1,h2⟩
  refine E4 h1 fun d hd=> ?_
  obtain⟨h3,h4⟩:=(Qe d).1 hd
  rcases h2 with h2 | h2
  ·exact absurd h2 h3
  ·rw[←h4];exact h2
theorem zX {ns:List Int} :lT ns=true ↔ ns.length≤60∧Dig ns∧(ns.length=0∨ns.getD (ns.length - 1) 1≠0):=by
 unfold lT
 rw[Bool.and_eq_true,decide_eq_true_eq,decide_eq_true_eq,U0]
theorem lJ (ns:List Int) (hn:ns.length≤140737488351232):RO Tryz.prog 261 [.sl (iv ns)] (.bool (lT ns)):=by
 refine aJ Tryz.func261 rfl rfl (by rw[Tryz.ntmps261];simp) fun bl=> ?_
 rw[Tryz.ntmps261,Tryz.results261]
 refine aC ?_
 simp
 refine aI (fun i:Nat=> [(0,.sl (iv ns)),(5,.sl (iv ns)),(6,.int .i64 ns.length),(7,.int .i64 i)]) (fun _=>bl) (fun i=>i≤ns.length∧ ∀j (h:j<ns.length),j<i→0≤ns[j]∧ns[j]<1000000000) (fun i=>ns.length - i) _ 0 ⟨Nat.zero_le _,fun j h h0=>by omega⟩ ⟨rfl,by simp,Sub.refl _⟩ ?_
 rintro i ⟨hi,hd⟩
 refine aC ?_
 simp
 refine⟨fun h=> ?_,fun h=> ?_⟩
 ·simp[h]
  refine aE (kL _ _ _) ?_
  simp
  refine⟨fun h1=> ?_,fun h1 h2=> ?_⟩
  ·refine aS ?_ rfl rfl
   have:lT ns=false:=by
    rw[Bool.eq_false_iff]
    intro hk
    have:=(zX.1 hk).2.1.at h
    omega
   simp[this]
  ·have w1:IntKind.i64.wrap ((i:Int)+1)=i+1:=i64_in (by omega) (by omega)
   simp[w1,aB]
   refine⟨i+1,⟨by omega,fun j hj hji=> ?_⟩,by omega,rfl,by simp,Sub.refl _⟩
   rcases Nat.lt_or_ge j i with hlt | hge
   ·exact hd j hj hlt
   ·obtain rfl:j=i:=by omega
    exact⟨h1,by omega⟩
 ·have hD:Dig ns:=by
   intro d hm
   obtain⟨j,hj,rfl⟩:=List.mem_iff_getElem.1 hm
   exact hd j hj (by omega)
  have hk:lT ns=(decide (ns.length≤60)&& (decide (ns.length=0)|| decide (ns.getD (ns.length - 1) 1≠0))):=by
   rw[Bool.eq_iff_iff,zX]
   simp[hD]
  refine bP [(0,.sl (iv ns))] _ bl 2 (.bool (lT ns)) ⟨rfl,by simp,Sub.refl _⟩ rfl ?_ ?_
  ·have w1:0<ns.length→IntKind.i64.wrap ((ns.length:Int) - 1)=((ns.length - 1:Nat):Int):=fun h=>by rw[i64_in (by omega) (by omega)];omega
   have q1: ∀h:0<ns.length,(iv ns)[ns.length - 1]? =some [.int .i64 (ns[ns.length - 1]'(by omega))]:=fun h=>dC _ _ (by omega)
   rw[hk]
   simp
   refine⟨fun h1=>⟨fun h2=>⟨by omega,.inl h2⟩,fun h2=> ?_⟩,fun h1 h2=>by omega⟩
   have h3:0<ns.length:=List.length_pos_iff.2 h2
   have h4:ns.length - 1<ns.length:=by omega
   have h5:ns.length≤60:=by omega
   simp[w1 h3,q1 h3,h2,h4,h5]
   rfl
  simp
  exact aS (by simp) rfl rfl
def RT.c (r:RT):List V:= [.bool r.neg,.sl (iv r.m),.sl (iv r.d)]
def A1 (neg:Bool) (m:List Int):Bool:=lT m && !(neg && decide (m= []))
theorem Mm (m:List Int):((m.length:Int)==0)=decide (m= []):=by
 rw[xI];cases m<;>simp;omega
theorem Fv (m:List Int):decide (0<m.length)= !decide (m= []):=by cases m<;>simp
theorem tD (neg:Bool) (m:List Int) (hm:m.length≤140737488351232):RO Tryz.prog 260 [.agg [.bool neg,.sl (iv m)]] (.bool (A1 neg m)):=by
 refine aJ Tryz.func260 rfl rfl (by rw[Tryz.ntmps260];simp) fun bl=> ?_
 rw[Tryz.ntmps260,Tryz.results260]
 refine aC ?_
 simp
 intro g hg0 hg
 refine bW [(1,.loc g 2 0 0)] _ (upd bl g (some ⟨2,[[.bool neg,.sl (iv m)]]⟩)) 2 (.bool (A1 neg m)) (upd bl g (some ⟨2,[[.bool neg,.sl (iv m)]]⟩)) ⟨rfl,by simp,Sub.refl _⟩ rfl ?_ ?_
 ·simp
  refine aE (lJ m hm) ?_
  simp[A1,Fv]
  cases lT m<;>cases neg<;>simp
 simp
 exact aK [_] 0 rfl rfl (by simp[hg])
def RT.bad (r:RT):Bool:=(((!(A1 r.neg r.m)|| !(lT r.d))|| decide (r.d= []))|| decide (24<r.m.length))|| decide (24<r.d.length)
theorem RT.Kx {r:RT} :r.ok ↔ r.bad=false∧Nat.gcd (val r.m) (val r.d)=1:=by
 unfold RT.ok RT.bad A1 lT
 simp
 constructor
 ·rintro⟨h1,h2,h3,h4,h5,h6,h7⟩
  exact⟨⟨⟨⟨⟨⟨⟨by omega,h1⟩,h6⟩,by omega,h2⟩,h5⟩,h3⟩,h4⟩,h7⟩
 ·rintro⟨⟨⟨⟨⟨⟨⟨_,h1⟩,h6⟩,_,h2⟩,h5⟩,h3⟩,h4⟩,h7⟩
  exact⟨h1,h2,h3,h4,h5,h6,h7⟩
theorem RT.aLG {r:RT} (h:r.bad=false):r.m=lim (val r.m)∧r.d=lim (val r.d)∧r.m.length≤24∧r.d.length≤24:=by
 unfold RT.bad A1 lT at h
 simp at h
 obtain⟨⟨⟨⟨⟨⟨_,h1⟩,_⟩,_,h2⟩,_⟩,h3⟩,h4⟩:=h
 exact⟨h1.symm,h2.symm,h3,h4⟩
theorem Pe :lim 1= [1]:=Cg (f:=1) (by decide) (by decide)
theorem Oj {a b:Nat} {k:Nat} (ha:(lim a).length≤k) (hb:(lim b).length≤k):(lim (Nat.gcd a b)).length≤k:=by
 rcases Nat.eq_zero_or_pos a with h | h
 ·rw[h,Nat.gcd_zero_left];exact hb
 ·exact Nat.le_trans (bZ (Nat.gcd_le_left _ h)) ha

def biC (n:Int):List V:= [.bool (decide (n<0)),.sl (iv (lim n.natAbs))]
def sg (neg:Bool) (m:Nat):Int:=if neg then -(m:Int) else m
@[simp] theorem nO (neg : Bool) (m : Nat) : (sg neg m).natAbs = m := by unfold sg; split <;> simp
theorem W6 (neg:Bool) (m:Nat):decide (sg neg m<0)=(neg && decide (0<m)):=by
 unfold sg;cases neg<;>simp
theorem Bf (n:Int):sg (decide (n<0)) n.natAbs=n:=by
 unfold sg
 by_cases h:n<0
 ·simp[h];omega
 ·simp[h];omega
theorem tU (m:Nat):0<(lim m).length ↔ 0<m:=by
 rw[List.length_pos_iff]
 constructor
 ·intro h;rcases Nat.eq_zero_or_pos m with h0 | h0
  ·rw[h0,aW] at h;exact absurd rfl h
  ·exact h0
 ·intro h h0;have:=eN.1 h0;omega
@[simp] theorem aI0 (n : Int) : (biC n).length = 2 := rfl
@[simp] theorem aJI (n : Int) : (biC n).all V.one = true := by simp [biC]
theorem Ie (n:Int):(biC n).all V.cl=true:=by simp[biC,V.cl]
@[simp] theorem Zh (a b : V) (n : Int) : splice [a, b] 0 (biC n) = biC n := by simp [splice, biC]
theorem V8 (neg:Bool) (m:Nat):biC (sg neg m)= [.bool (neg && decide (0<(lim m).length)),.sl (iv (lim m))]:=by
 unfold biC
 rw[W6,nO,decide_eq_decide.2 (tU m)]
theorem kO {bl bl':Int→Option Blk} {n:Int} :frz (dropB bl' bl) 1 (.agg (biC n))=some (.agg (biC n)):=by
 unfold frz;rw[if_pos (Ie n)]
theorem Jn (x:Int):sg (!decide (x<0)) x.natAbs= -x:=by
 unfold sg
 by_cases h:x<0
 ·simp[h];omega
 ·simp[h];omega
theorem iE (neg:Bool) (m:Nat):RO Tryz.prog 229 [.bool neg,.sl (iv (lim m))] (.agg (biC (sg neg m))):=by
 refine aJ Tryz.func229 rfl rfl (by rw[Tryz.ntmps229];simp) fun bl=> ?_
 rw[Tryz.ntmps229,Tryz.results229]
 refine aC ?_
 simp
 intro g hg0 hg
 refine bW [(0,.bool neg),(1,.sl (iv (lim m))),(4,.loc g 2 0 0)] _ (upd bl g (some ⟨2,[[.bool false,.nils]]⟩)) 4 (.loc g 2 0 0) (upd bl g (some ⟨2,[biC (sg neg m)]⟩)) ⟨rfl,by simp,Sub.refl _⟩ rfl ?_ ?_
 ·simp
  rw[V8]
  cases neg<;>simp
 simp
 exact aK [.agg (biC (sg neg m))] 1 (by simp[biC]) kO (by simp[hg])
theorem oH (x:Int):RO Tryz.prog 177 [.agg (biC x)] (.agg (biC (-x))):=by
 refine aJ Tryz.func177 rfl rfl (by rw[Tryz.ntmps177];simp) fun bl=> ?_
 rw[Tryz.ntmps177,Tryz.results177]
 refine aC ?_
 rw[show biC x= [.bool (decide (x<0)),.sl (iv (lim x.natAbs))] from rfl]
 simp
 intro g hg0 hg g2 hg2 h2g hb2
 simp[h2g,Ne.symm h2g]
 refine aE (iE _ _) ?_
 rw[Jn]
 simp[h2g,Ne.symm h2g]
 exact aK [.agg (biC (-x))] 1 (by simp[biC]) kO (by simp[hg,hb2])
theorem lF (x:Int):RO Tryz.prog 153 [.agg (biC x)] (.int .i64 x.sign):=by
 refine aJ Tryz.func153 rfl rfl (by rw[Tryz.ntmps153];simp) fun bl=> ?_
 rw[Tryz.ntmps153,Tryz.results153]
 refine aC ?_
 rw[show biC x= [.bool (decide (x<0)),.sl (iv (lim x.natAbs))] from rfl]
 simp
 intro g hg0 hg
 refine⟨fun h=> ?_,fun h=> ?_⟩
 ·have h0:=eN.1 h
  have:x=0:=by omega
  exact aK [.int .i64 0] 0 (by simp) (by simp[frz,this]) (by simp[hg])
 ·have h0:x≠0:=fun h1=>h (by rw[h1];exact aW)
  refine⟨fun h2=> ?_,fun h2=> ?_⟩
  ·exact aK [.int .i64 (-1)] 0 (by simp) (by simp[frz,Int.sign_eq_neg_one_of_neg h2]) (by simp[hg])
  ·exact aK [.int .i64 1] 0 (by simp) (by simp[frz,Int.sign_eq_one_of_pos (show 0<x by omega)]) (by simp[hg])
theorem tP {x y:Int} (h:x<0 ↔ y<0):sg (decide (x<0)) (x.natAbs+y.natAbs)=x+y:=by
 unfold sg
 by_cases hx:x<0
 ·have:=h.1 hx;simp[hx];omega
 ·have: ¬ y<0:=fun hh=>hx (h.2 hh);simp[hx];omega
theorem lH {x y:Int} (h: ¬ (x<0 ↔ y<0)) (hle:y.natAbs≤x.natAbs):sg (decide (x<0)) (x.natAbs - y.natAbs)=x+y:=by
 unfold sg
 by_cases hx:x<0
 ·have: ¬ y<0:=fun hh=>h ⟨fun _=>hh,fun _=>hx⟩;simp[hx];omega
 ·have:y<0:=by
   by_cases hy:y<0
   ·exact hy
   ·exact absurd ⟨fun hh=>absurd hh hx,fun hh=>absurd hh hy⟩ h
  simp[hx];omega
theorem tG (x y:Int):sg (decide (x<0) !=decide (y<0)) (x.natAbs*y.natAbs)=x*y:=by
 have e:(x.natAbs:Int)*y.natAbs=(x*y).natAbs:=by rw[Int.natAbs_mul];simp
 unfold sg
 by_cases hx:x<0<;>by_cases hy:y<0<;>simp only[hx,hy,decide_true,decide_false,bne_self_eq_false,Bool.bne_true,Bool.bne_false,Bool.not_false,if_true,if_false,Bool.false_eq_true,Int.natCast_mul]
 ·rw[Int.ofNat_natAbs_of_nonpos (by omega),Int.ofNat_natAbs_of_nonpos (by omega),Int.neg_mul_neg]
 ·rw[Int.ofNat_natAbs_of_nonpos (by omega),Int.natAbs_of_nonneg (by omega),Int.neg_mul,Int.neg_neg]
 ·rw[Int.natAbs_of_nonneg (by omega),Int.ofNat_natAbs_of_nonpos (by omega),Int.mul_neg,Int.neg_neg]
 ·rw[Int.natAbs_of_nonneg (by omega),Int.natAbs_of_nonneg (by omega)]
def gG (x y:Int):Int:=if x<y then -1 else if x=y then 0 else 1
theorem Cb {a b:Nat} :0≤iK a b ↔ b≤a:=by unfold iK;split<;>(try split)<;>omega
theorem P6 (x y:Int) (hx:(lim x.natAbs).length≤1048576) (hy:(lim y.natAbs).length≤1048576):RO Tryz.prog 276 [.agg (biC x),.agg (biC y)] (.int .i64 (gG x y)):=by
 refine aJ Tryz.func276 rfl rfl (by rw[Tryz.ntmps276];simp) fun bl=> ?_
 rw[Tryz.ntmps276,Tryz.results276]
 refine aD ?_
 rw[show biC x= [.bool (decide (x<0)),.sl (iv (lim x.natAbs))] from rfl,show biC y= [.bool (decide (y<0)),.sl (iv (lim y.natAbs))] from rfl]
 simp
 intro g hg0 hg g2 hg2 h2g hb2
 refine aC ?_
 simp[h2g,Ne.symm h2g]
 refine bW [(2,.loc g 2 0 0),(3,.loc g2 2 0 0)] _ _ 5 (.bool ((decide (x<0) !=decide (y<0))&& decide (x<0))) (upd (upd bl g (some ⟨2,[[.bool (decide (x<0)),.sl (iv (lim x.natAbs))]]⟩)) g2 (some ⟨2,[[.bool (decide (y<0)),.sl (iv (lim y.natAbs))]]⟩)) ⟨rfl,by simp,Sub.refl _⟩ rfl ?_ ?_
 ·simp[h2g,Ne.symm h2g]
  by_cases h1:x<0<;>by_cases h2:y<0<;>simp[h1,h2,h2g,Ne.symm h2g]
 by_cases h1:x<0<;>by_cases h2:y<0<;>simp[h1,h2,h2g,Ne.symm h2g]
 ·refine aE (mM _ _ hy hx) ?_
  simp
  refine aK [.int .i64 (gG x y)] 0 ?_ (by simp[frz]) (by simp[hg,hb2])
  have:iK y.natAbs x.natAbs=gG x y:=by unfold iK gG;split<;>split<;>(try split)<;>(try split)<;>omega
  simp[this]
 ·have:gG x y= -1:=by unfold gG;rw[if_pos (by omega)]
  exact aK [.int .i64 (-1)] 0 (by simp) (by simp[frz,this]) (by simp[hg,hb2])
 ·have:gG x y=1:=by unfold gG;rw[if_neg (by omega),if_neg (by omega)]
  exact aK [.int .i64 1] 0 (by simp) (by simp[frz,this]) (by simp[hg,hb2])
 ·refine aE (mM _ _ hx hy) ?_
  simp
  refine aK [.int .i64 (gG x y)] 0 ?_ (by simp[frz]) (by simp[hg,hb2])
  have:iK x.natAbs y.natAbs=gG x y:=by unfold iK gG;split<;>split<;>(try split)<;>(try split)<;>omega
  simp[this]
theorem Jw (x y:Int) (hx:(lim x.natAbs).length≤1048575) (hy:(lim y.natAbs).length≤1048575):RO Tryz.prog 227 [.agg (biC x),.agg (biC y)] (.agg (biC (x+y))):=by
 refine aJ Tryz.func227 rfl rfl (by rw[Tryz.ntmps227];simp) fun bl=> ?_
 rw[Tryz.ntmps227,Tryz.results227]
 refine aD ?_
 rw[show biC x= [.bool (decide (x<0)),.sl (iv (lim x.natAbs))] from rfl,show biC y= [.bool (decide (y<0)),.sl (iv (lim y.natAbs))] from rfl]
 simp
 intro g hg0 hg g2 hg2 h2g hb2 g3 hg3 h32 h3g hb3
 refine aC ?_
 simp[h2g,Ne.symm h2g,h32,Ne.symm h32,h3g,Ne.symm h3g]
 refine aE (mM _ _ (by omega) (by omega)) ?_
 simp[h2g,Ne.symm h2g,h32,Ne.symm h32,h3g,Ne.symm h3g,Cb]
 refine⟨fun hs=> ?_,fun hs=>⟨fun hle=> ?_,fun hle=> ?_⟩⟩
 ·refine bA aN (upd (upd bl g (some ⟨2,[[.bool (decide (x<0)),.sl (iv (lim x.natAbs))]]⟩)) g2 (some ⟨2,[[.bool (decide (y<0)),.sl (iv (lim y.natAbs))]]⟩)) (by simp[h32,h3g,hb3]) [0,1,2,3,4,5,6,7] 1 (by kernel_rfl) ?_
  simp[h2g,Ne.symm h2g,h32,Ne.symm h32,h3g,Ne.symm h3g]
  refine aP (Nd _ _ hx hy) ?_
  simp[h2g,Ne.symm h2g,h32,Ne.symm h32,h3g,Ne.symm h3g]
  refine aP (iE _ _) ?_
  simp[h2g,Ne.symm h2g,h32,Ne.symm h32,h3g,Ne.symm h3g]
  refine Dz 8 ?_
  simp[h2g,Ne.symm h2g,h32,Ne.symm h32,h3g,Ne.symm h3g]
  refine⟨by simp[h32,h3g,hb3],Dy ?_⟩
  rw[tP hs]
  simp[h2g,Ne.symm h2g,h32,Ne.symm h32,h3g,Ne.symm h3g]
  exact aK [.agg (biC (x+y))] 1 (by simp[biC,h2g,Ne.symm h2g,h32,Ne.symm h32,h3g,Ne.symm h3g]) kO (by simp[hg,hb2,hb3])
 ·refine bA aN (upd (upd bl g (some ⟨2,[[.bool (decide (x<0)),.sl (iv (lim x.natAbs))]]⟩)) g2 (some ⟨2,[[.bool (decide (y<0)),.sl (iv (lim y.natAbs))]]⟩)) (by simp[h32,h3g,hb3]) [0,1,2,3,4,5,6,7] 1 (by kernel_rfl) ?_
  simp[h2g,Ne.symm h2g,h32,Ne.symm h32,h3g,Ne.symm h3g]
  refine aP (O9 _ _ hle hx) ?_
  simp[h2g,Ne.symm h2g,h32,Ne.symm h32,h3g,Ne.symm h3g]
  refine aP (iE _ _) ?_
  simp[h2g,Ne.symm h2g,h32,Ne.symm h32,h3g,Ne.symm h3g]
  refine Dz 8 ?_
  simp[h2g,Ne.symm h2g,h32,Ne.symm h32,h3g,Ne.symm h3g]
  refine⟨by simp[h32,h3g,hb3],Dy ?_⟩
  rw[lH hs hle]
  simp[h2g,Ne.symm h2g,h32,Ne.symm h32,h3g,Ne.symm h3g]
  exact aK [.agg (biC (x+y))] 1 (by simp[biC,h2g,Ne.symm h2g,h32,Ne.symm h32,h3g,Ne.symm h3g]) kO (by simp[hg,hb2,hb3])
 ·refine bA aN (upd (upd bl g (some ⟨2,[[.bool (decide (x<0)),.sl (iv (lim x.natAbs))]]⟩)) g2 (some ⟨2,[[.bool (decide (y<0)),.sl (iv (lim y.natAbs))]]⟩)) (by simp[h32,h3g,hb3]) [0,1,2,3,4,5,6,7] 1 (by kernel_rfl) ?_
  simp[h2g,Ne.symm h2g,h32,Ne.symm h32,h3g,Ne.symm h3g]
  refine aP (O9 _ _ (by omega) hy) ?_
  simp[h2g,Ne.symm h2g,h32,Ne.symm h32,h3g,Ne.symm h3g]
  refine aP (iE _ _) ?_
  simp[h2g,Ne.symm h2g,h32,Ne.symm h32,h3g,Ne.symm h3g]
  refine Dz 8 ?_
  simp[h2g,Ne.symm h2g,h32,Ne.symm h32,h3g,Ne.symm h3g]
  refine⟨by simp[h32,h3g,hb3],Dy ?_⟩
  rw[lH (x:=y) (y:=x) (fun hh=>hs ⟨hh.2,hh.1⟩) (by omega),Int.add_comm y x]
  simp[h2g,Ne.symm h2g,h32,Ne.symm h32,h3g,Ne.symm h3g]
  exact aK [.agg (biC (x+y))] 1 (by simp[biC,h2g,Ne.symm h2g,h32,Ne.symm h32,h3g,Ne.symm h3g]) kO (by simp[hg,hb2,hb3])
theorem lV (x y:Int) (hx:(lim x.natAbs).length≤400000) (hy:(lim y.natAbs).length≤400000):RO Tryz.prog 231 [.agg (biC x),.agg (biC y)] (.agg (biC (x*y))):=by
 refine aJ Tryz.func231 rfl rfl (by rw[Tryz.ntmps231];simp) fun bl=> ?_
 rw[Tryz.ntmps231,Tryz.results231]
 refine aD ?_
 rw[show biC x= [.bool (decide (x<0)),.sl (iv (lim x.natAbs))] from rfl,show biC y= [.bool (decide (y<0)),.sl (iv (lim y.natAbs))] from rfl]
 simp
 intro g hg0 hg g2 hg2 h2g hb2 g3 hg3 h32 h3g hb3
 refine aC ?_
 simp
 refine bA aN (upd (upd bl g (some ⟨2,[[.bool (decide (x<0)),.sl (iv (lim x.natAbs))]]⟩)) g2 (some ⟨2,[[.bool (decide (y<0)),.sl (iv (lim y.natAbs))]]⟩)) (by simp[h32,h3g,hb3]) [0,1,2,3,4,5,6,7,8,9,10] 1 (by kernel_rfl) ?_
 simp[h2g,Ne.symm h2g,h32,Ne.symm h32,h3g,Ne.symm h3g]
 refine aP (O8 _ _ hx hy) ?_
 simp[h2g,Ne.symm h2g,h32,Ne.symm h32,h3g,Ne.symm h3g]
 refine aP (iE _ _) ?_
 simp[h2g,Ne.symm h2g,h32,Ne.symm h32,h3g,Ne.symm h3g]
 refine Dz 11 ?_
 simp[h2g,Ne.symm h2g,h32,Ne.symm h32,h3g,Ne.symm h3g]
 refine⟨by simp[h32,h3g,hb3],Dy ?_⟩
 rw[tG]
 simp[h2g,Ne.symm h2g,h32,Ne.symm h32,h3g,Ne.symm h3g]
 exact aK [.agg (biC (x*y))] 1 (by simp[biC,h2g,Ne.symm h2g,h32,Ne.symm h32,h3g,Ne.symm h3g]) kO (by simp[hg,hb2,hb3])

theorem bS (x:Int):biC x= [.bool (decide (x<0)),.sl (iv (lim x.natAbs))]:=rfl
theorem E2 (q:Rat):(rq q).c= [.bool (decide (q.num<0)),.sl (iv (lim q.num.natAbs)),.sl (iv (lim q.den))]:=rfl
theorem Qq (n:Int) {d:Nat} (hd:d≠0):rq (mkRat n d)=⟨decide (n<0),lim (n.natAbs / Nat.gcd n.natAbs d),lim (d / Nat.gcd n.natAbs d)⟩:=by
 obtain⟨h1,h2,h3⟩:=Eg n hd
 unfold rq
 rw[h1,h2,decide_eq_decide.2 h3]
theorem B5 (x y:Int) (hx:(lim x.natAbs).length≤1048575) (hy:(lim y.natAbs).length≤1048575):RO Tryz.prog 239 [.agg (biC x),.agg (biC y)] (.agg (biC (x - y))):=by
 refine aJ Tryz.func239 rfl rfl (by rw[Tryz.ntmps239];simp) fun bl=> ?_
 rw[Tryz.ntmps239,Tryz.results239]
 refine aD ?_
 simp
 intro g hg0 hg g2 hg2 h2g hb2 g3 hg3 h32 h3g hb3
 refine aC ?_
 simp
 refine bA aN (upd (upd bl g (some ⟨2,[biC x]⟩)) g2 (some ⟨2,[biC y]⟩)) (by simp[h32,h3g,hb3]) [0,1,2,3] 1 (by kernel_rfl) ?_
 simp[h2g,Ne.symm h2g,h32,Ne.symm h32,h3g,Ne.symm h3g]
 refine aP (oH y) ?_
 simp[h2g,Ne.symm h2g,h32,Ne.symm h32,h3g,Ne.symm h3g]
 refine aP (Jw x (-y) hx (by simpa using hy)) ?_
 rw[show x+ -y=x - y by omega]
 simp[h2g,Ne.symm h2g,h32,Ne.symm h32,h3g,Ne.symm h3g]
 refine Dz 4 ?_
 simp[h2g,Ne.symm h2g,h32,Ne.symm h32,h3g,Ne.symm h3g]
 refine⟨by simp[h32,h3g,hb3],Dy ?_⟩
 simp
 exact aK [.agg (biC (x - y))] 1 (by simp[biC,h2g,Ne.symm h2g,h32,Ne.symm h32,h3g,Ne.symm h3g]) kO (by simp[hg,hb2,hb3])
theorem jE {a b k l:Nat} (ha:(lim a).length≤k) (hb:(lim b).length≤l):(lim (a*b)).length≤k+l:=by
 refine aL.2 ?_
 have h1:=aL.1 ha
 have h2:=aL.1 hb
 rw[Nat.pow_add]
 exact Nat.mul_lt_mul'' h1 h2
theorem vB {a b k:Nat} (ha:(lim a).length≤k) (hb:(lim b).length≤k):(lim (a+b)).length≤k+1:=by
 refine aL.2 ?_
 have h1:=aL.1 ha
 have h2:=aL.1 hb
 have:LB^(k+1)=LB^k*1000000000:=Nat.pow_succ ..
 omega
theorem jY {a b k:Nat} (h:a≤b) (hb:(lim b).length≤k):(lim a).length≤k:=Nat.le_trans (bZ h) hb
def few (k:Nat) (q:Rat):Prop:=(lim q.num.natAbs).length≤k∧(lim q.den).length≤k
def zQ (a b:Rat):Int:=gG (a.num*b.den) (b.num*a.den)
def fv :Option Rat→V
 | none => .nilp
 | some q => .ptr (rq q).c
def okQ (x:Option Rat):Prop:= ∀q,x=some q→fits q
def op2 (f:Rat→Rat→Rat) (x y:Option Rat):Option Rat:=match x,y with | some a,some b=>fit (f a b)| _,_=>none

theorem jV (a b:Nat) (ha:(lim a).length≤1048576) (hb:(lim b).length≤1048576):RO Tryz.prog 288 [.sl (iv (lim a)),.sl (iv (lim b))] (.int .i64 (iK a b)):=by
 refine aJ Tryz.func288 rfl rfl (by rw[Tryz.ntmps288];simp) fun bl=> ?_
 rw[Tryz.ntmps288,Tryz.results288]
 refine aC ?_
 simp
 refine⟨fun h=>⟨fun h1=> ?_,fun h1=> ?_⟩,fun h=> ?_⟩
 ·exact aS (by simp[vE h1]) rfl rfl
 ·exact aS (by simp[yM (show(lim b).length<(lim a).length by omega)]) rfl rfl
 have h:(lim a).length=(lim b).length:=by omega
 have w0:IntKind.i64.wrap (((lim a).length:Int) - 1)=((lim a).length:Int) - 1:=i64_in (by omega) (by omega)
 simp[w0]
 refine aI (fun k:Nat=> [(0,.sl (iv (lim a))),(1,.sl (iv (lim b))),(5,.int .i64 ((k:Int) - 1))]) (fun _=>bl) (fun k=>k≤(lim a).length∧ ∀j,k≤j→dg a j=dg b j) (fun k=>k) _ (lim a).length ⟨Nat.le_refl _,fun j hj=>by rw[jB hj,jB (by omega)]⟩ ⟨rfl,by simp,Sub.refl _⟩ ?_
 intro k ⟨hk,hc⟩
 refine aC ?_
 simp
 refine⟨fun h1=> ?_,fun h1=> ?_⟩
 ·obtain⟨m,rfl⟩: ∃m,k=m+1:=⟨k - 1,by omega⟩
  have hm:m<(lim a).length:=by omega
  have hm2:m<(lim b).length:=by omega
  have e1:((m+1:Nat):Int) - 1=m:=by omega
  refine cN aN (by kernel_rfl) ?_
  simp[e1,aX _ _ hm,aX _ _ hm2]
  refine⟨fun h2=> ?_,fun h2=> ?_⟩
  ·exact aS (by simp[Ga h hm (fun j hj=>hc j (by omega)) h2]) rfl rfl
  refine cN aN (by kernel_rfl) ?_
  simp[e1,aX _ _ hm,aX _ _ hm2]
  refine⟨fun h3=> ?_,fun h3=> ?_⟩
  ·exact aS (by simp[Jx h hm (fun j hj=>hc j (by omega)) h3]) rfl rfl
  have w1:IntKind.i64.wrap ((m:Int) - 1)=(m:Int) - 1:=i64_in (by omega) (by omega)
  simp[w1,aB]
  refine⟨m,⟨by omega,fun j hj=> ?_⟩,by omega,rfl,by simp,Sub.refl _⟩
  rcases Nat.lt_or_ge m j with hlt | hge
  ·exact hc j (by omega)
  ·obtain rfl:j=m:=by omega
   omega
 ·have:k=0:=by omega
  subst this
  exact aS (by simp[Lh h fun j=>hc j (Nat.zero_le _)]) rfl rfl
theorem fS (ns:List Int) (hd:Dig ns) (hn:ns.length≤1048576):RO Tryz.prog 290 [.sl (iv ns)] (.sl (iv (lim (val ns)))):=by
 refine aJ Tryz.func290 rfl rfl (by rw[Tryz.ntmps290];simp) fun bl=> ?_
 rw[Tryz.ntmps290,Tryz.results290]
 refine aC ?_
 simp
 refine aI (fun n:Nat=> [(0,.sl (iv ns)),(3,.int .i64 n)]) (fun _=>bl) (fun n=>n≤ns.length∧ ∀i (hi:i<ns.length),n≤i→ns[i]=0) (fun n=>n) _ ns.length ⟨Nat.le_refl _,fun i hi h=>by omega⟩ ⟨rfl,by simp,Sub.refl _⟩ ?_
 intro n ⟨hl,hz⟩
 refine aC ?_
 simp
 refine bP [(0,.sl (iv ns)),(3,.int .i64 n)] _ bl 15 (.bool (decide (0<n)&& decide (ns.getD (n - 1) 1=0))) ⟨rfl,by simp,Sub.refl _⟩ rfl ?_ ?_
 ·simp
  refine⟨fun h=> ?_,fun h=>by simp[h]⟩
  have w1:IntKind.i64.wrap ((n:Int) - 1)=((n - 1:Nat):Int):=by rw[i64_in (by omega) (by omega)];omega
  have h2:n - 1<ns.length:=by omega
  simp[w1,h2,h,xI]
 simp
 refine⟨fun h1 h2=> ?_,fun h1=> ?_⟩
 ·have w1:IntKind.i64.wrap ((n:Int) - 1)=((n - 1:Nat):Int):=by rw[i64_in (by omega) (by omega)];omega
  simp[w1,aB]
  refine⟨n - 1,⟨by omega,fun i hi h3=> ?_⟩,by omega,rfl,by simp,Sub.refl _⟩
  rcases Nat.lt_or_ge i n with h4 | h4
  ·obtain rfl:i=n - 1:=by omega
   simpa [hi] using h2
  ·exact hz i hi h4
 ·have hz2: ∀i (hi:i<ns.length),n=i+1→ns[i]≠0:=by
   intro i hi e
   subst e
   have:=h1 (by omega)
   simpa [hi] using this
  have:=xF hd hl hz hz2
  rw[←this]
  simp[sliV,Bp,hl]
  exact aS (by simp[uT]) rfl rfl
theorem Cx (ns:List Int) (hd:Dig ns) (hn:ns.length≤1048576):RO Tryz.prog 280 [.sl (iv ns)] (.sl (iv (if(lim (val ns)).length≤60 then lim (val ns) else []))):=by
 refine aJ Tryz.func280 rfl rfl (by rw[Tryz.ntmps280];simp) fun bl=> ?_
 rw[Tryz.ntmps280,Tryz.results280]
 refine aC ?_
 simp
 refine aE (fS ns hd hn) ?_
 simp
 refine⟨fun h=> ?_,fun h=> ?_⟩
 ·rw[if_neg (by omega)]
  exact aK [.nils] 0 (by simp) rfl (Sub.refl _)
 ·rw[if_pos (by omega)]
  exact aS (by simp) rfl rfl
theorem Dv (a b:Nat) (ha:(lim a).length≤1000000) (hb:(lim b).length≤1000000):RO Tryz.prog 287 [.sl (iv (lim a)),.sl (iv (lim b))] (.sl (iv (lim (a+b)))):=by
 refine aJ Tryz.func287 rfl rfl (by rw[Tryz.ntmps287];simp) fun bl=> ?_
 rw[Tryz.ntmps287,Tryz.results287]
 refine aC ?_
 simp
 intro g0 hg0 hb0
 refine aI (fun p:Int×PL=> [(0,.sl (iv (lim a))),(1,.sl (iv (lim b))),(5,.lsl p.1 1 0 p.2.i),(6,.int .i64 p.2.c),(7,.int .i64 p.2.i)]) (fun p=>upd bl p.1 (some ⟨1,iv p.2.o⟩))
  (fun p=>0≤p.1∧bl p.1=none∧jL a b p.2.i p.2.o p.2.c∧p.2.i≤1000002∧(p.2.i=0∨LB^(p.2.i - 1)≤a+b)) (fun p=>1000003 - p.2.i) _ (g0,⟨0,[],0⟩) ⟨hg0,hb0,jL.start a b,by simp,.inl rfl⟩ ⟨rfl,by simp,sub_eq (by simp[iv])⟩ ?_
 rintro⟨g,i,o,c⟩ ⟨hg,hbg,hI,hi,hm⟩
 simp only at hg hbg hI hi hm
 have hb1:=hI.x
 have hd1:=eC a i
 have hd2:=eC b i
 have hc0:=hI.c0
 have hc1:=hI.c1
 have hol:=hI.len
 refine aC ?_
 simp
 refine bP [(0,.sl (iv (lim a))),(1,.sl (iv (lim b))),(5,.lsl g 1 0 i),(6,.int .i64 c),(7,.int .i64 i)] _ _ 23 (.bool ((decide (i<(lim a).length)|| decide (i<(lim b).length))|| decide (0<c))) ⟨rfl,by simp,Sub.refl _⟩ rfl ?_ ?_
 ·simp
  exact⟨fun h=> .inl (.inl h),fun h=>⟨fun h2=> .inl (.inr h2),fun h2 h3=>by omega⟩⟩
 simp
 refine⟨fun h=> ?_,fun h1 h2 h3=> ?_⟩
 ·have Bs:=hI.more (by omega)
  have hlen:i<(lim (a+b)).length:=by
   rcases Nat.lt_or_ge i (lim (a+b)).length with hh | hh
   ·exact hh
   ·have:=aL.1 hh;omega
  have aQO:=vB (k:=1000000) ha hb
  have w3:IntKind.i64.wrap ((i:Int)+1)=i+1:=i64_in (by omega) (by omega)
  refine⟨fun h1=> ?_,fun h1=> ?_⟩
  ·simp[aX _ _ h1]
   have wa0:IntKind.i64.wrap (c+(dg a i:Nat))=c+(dg a i:Nat):=i64_in (by omega) (by omega)
   simp[wa0]
   refine⟨fun h2=> ?_,fun h2=> ?_⟩
   ·have wa:IntKind.i64.wrap (c+(dg a i:Nat))=c+(dg a i:Nat):=i64_in (by omega) (by omega)
    have wb:IntKind.i64.wrap (c+(dg a i:Nat)+(dg b i:Nat))=c+(dg a i:Nat)+(dg b i:Nat):=i64_in (by omega) (by omega)
    have wq1:=wq (x:=c+(dg a i:Nat)+(dg b i:Nat)) (n:=1000000000) (by omega) (by omega) (by omega)
    try simp[wq1,w3,wa,wb,aX _ _ h1,aX _ _ h2]
    intro g2 hg2 h2g hb2
    try simp[wq1,w3,wa,wb,aX _ _ h1,aX _ _ h2,h2g,Ne.symm h2g,appV,elsV,Int.not_lt.2 hg2,hol]
    refine⟨by omega,fun g3 hg3 hb3=> ?_⟩
    have fK:bl g3=none:=by grind
    try simp[wq1,w3,wa,wb,aX _ _ h1,aX _ _ h2]
    rw[aB]
    refine⟨(g3,⟨i+1,o++ [(c+(dg a i:Nat)+(dg b i:Nat)).tmod 1000000000],(c+(dg a i:Nat)+(dg b i:Nat)).tdiv 1000000000⟩),⟨hg3,fK,hI.next (by omega),by simp only;omega,.inr (by simpa using Bs)⟩,by simp only;omega,rfl,by simp,?_⟩
    rw[aT]
    exact cX (by rw[←hol,dA];simp[iv]) (by simp[hbg,hb2,h2g])
   ·have wa:IntKind.i64.wrap (c+(dg a i:Nat))=c+(dg a i:Nat):=i64_in (by omega) (by omega)
    have zb:dg b i=0:=jB (by omega)
    have wq1:=wq (x:=c+(dg a i:Nat)) (n:=1000000000) (by omega) (by omega) (by omega)
    try simp[wq1,w3,wa,aX _ _ h1]
    intro g2 hg2 h2g hb2
    try simp[wq1,w3,wa,aX _ _ h1,h2g,Ne.symm h2g,appV,elsV,Int.not_lt.2 hg2,hol]
    refine⟨by omega,fun g3 hg3 hb3=> ?_⟩
    have fK:bl g3=none:=by grind
    try simp[wq1,w3,wa,aX _ _ h1]
    rw[aB]
    refine⟨(g3,⟨i+1,o++ [(c+(dg a i:Nat)).tmod 1000000000],(c+(dg a i:Nat)).tdiv 1000000000⟩),⟨hg3,fK,hI.next (by omega),by simp only;omega,.inr (by simpa using Bs)⟩,by simp only;omega,rfl,by simp,?_⟩
    rw[aT]
    exact cX (by rw[←hol,dA];simp[iv]) (by simp[hbg,hb2,h2g])
  ·refine⟨fun h2=> ?_,fun h2=> ?_⟩
   ·have wb:IntKind.i64.wrap (c+(dg b i:Nat))=c+(dg b i:Nat):=i64_in (by omega) (by omega)
    have za:dg a i=0:=jB (by omega)
    have wq1:=wq (x:=c+(dg b i:Nat)) (n:=1000000000) (by omega) (by omega) (by omega)
    try simp[wq1,w3,wb,aX _ _ h2]
    intro g2 hg2 h2g hb2
    try simp[wq1,w3,wb,aX _ _ h2,h2g,Ne.symm h2g,appV,elsV,Int.not_lt.2 hg2,hol]
    refine⟨by omega,fun g3 hg3 hb3=> ?_⟩
    have fK:bl g3=none:=by grind
    try simp[wq1,w3,wb,aX _ _ h2]
    rw[aB]
    refine⟨(g3,⟨i+1,o++ [(c+(dg b i:Nat)).tmod 1000000000],(c+(dg b i:Nat)).tdiv 1000000000⟩),⟨hg3,fK,hI.next (by omega),by simp only;omega,.inr (by simpa using Bs)⟩,by simp only;omega,rfl,by simp,?_⟩
    rw[aT]
    exact cX (by rw[←hol,dA];simp[iv]) (by simp[hbg,hb2,h2g])
   ·have za:dg a i=0:=jB (by omega)
    have zb:dg b i=0:=jB (by omega)
    have wq1:=wq (x:=c) (n:=1000000000) (by omega) (by omega) (by omega)
    try simp[wq1,w3]
    intro g2 hg2 h2g hb2
    try simp[wq1,w3,h2g,Ne.symm h2g,appV,elsV,Int.not_lt.2 hg2,hol]
    refine⟨by omega,fun g3 hg3 hb3=> ?_⟩
    have fK:bl g3=none:=by grind
    try simp[wq1,w3]
    rw[aB]
    refine⟨(g3,⟨i+1,o++ [(c).tmod 1000000000],(c).tdiv 1000000000⟩),⟨hg3,fK,hI.next (by omega),by simp only;omega,.inr (by simpa using Bs)⟩,by simp only;omega,rfl,by simp,?_⟩
    rw[aT]
    exact cX (by rw[←hol,dA];simp[iv]) (by simp[hbg,hb2,h2g])
 ·have hc:c=0:=by omega
  subst hc
  rw[←hI.spec (by omega) (by omega) hm]
  exact aK [.lsl g 1 0 i] 1 (by simp) (dM hg hbg (by simp) (by simp[hol]) (nE o)) (by simp[hbg])

theorem eR (a b:Nat) (ha:(lim a).length≤400000) (hb:(lim b).length≤400000):RO Tryz.prog 266 [.sl (iv (lim a)),.sl (iv (lim b))] (.sl (iv (lim (a*b)))):=by
 by_cases h0:a=0∨b=0
 ·have hz:a*b=0:=Nat.mul_eq_zero.2 h0
  rw[hz,aW]
  refine aJ Tryz.func266 rfl rfl (by rw[Tryz.ntmps266];simp) fun bl=> ?_
  rw[Tryz.ntmps266,Tryz.results266]
  refine aC ?_
  simp
  refine bP [(0,.sl (iv (lim a))),(1,.sl (iv (lim b)))] _ bl 19 (.bool true) ⟨rfl,by simp,Sub.refl _⟩ rfl ?_ ?_
  ·simp
   rcases h0 with h0 | h0
   ·simp[h0,aW]
   ·simp[h0,aW]
  simp
  exact aK [.nils] 0 (by simp) rfl (Sub.refl _)
 have ha0:a≠0:=by omega
 have hb0:b≠0:=by omega
 have la:(lim a).length≠0:=fun h=>ha0 (eN.1 (List.length_eq_zero_iff.1 h))
 have lb:(lim b).length≠0:=fun h=>hb0 (eN.1 (List.length_eq_zero_iff.1 h))
 refine aJ Tryz.func266 rfl rfl (by rw[Tryz.ntmps266];simp) fun bl=> ?_
 rw[Tryz.ntmps266,Tryz.results266]
 refine aC ?_
 simp
 refine bP [(0,.sl (iv (lim a))),(1,.sl (iv (lim b)))] _ bl 19 (.bool false) ⟨rfl,by simp,Sub.refl _⟩ rfl ?_ ?_
 ·have na:lim a≠ []:=fun h=>la (by rw[h];rfl)
  have nb:lim b≠ []:=fun h=>lb (by rw[h];rfl)
  simp[na,nb]
 have w0:IntKind.i64.wrap (((lim a).length:Int)+(lim b).length)=(lim a).length+(lim b).length:=i64_in (by omega) (by omega)
 simp[w0]
 refine⟨(lim a).length+(lim b).length,by simp,by simp,by omega,by unfold maxLen;omega,fun g hg0 hg=> ?_⟩
 have er:List.replicate ((lim a).length+(lim b).length) [V.int IntKind.i64 0]=iv (List.replicate ((lim a).length+(lim b).length) 0):=by simp[iv]
 simp[er]
 refine aI (fun p:TL=> [(0,.sl (iv (lim a))),(1,.sl (iv (lim b))),(5,.lsl g 1 0 ((lim a).length+(lim b).length)),(26,.sl (iv (lim a))),(27,.int .i64 (lim a).length),(28,.int .i64 p.i)]) (fun p=>upd bl g (some ⟨1,iv p.O⟩))
  (fun p=>p.i≤(lim a).length∧gI a b p.i 0 p.O 0) (fun p=>(lim a).length - p.i) _ ⟨0,0,_,0⟩ ⟨Nat.zero_le _,gI.start a b⟩ ⟨rfl,by simp,sub_eq (by simp)⟩ ?_
 rintro⟨i,j0,O,c0⟩ ⟨hi,hI⟩
 simp only at hi hI
 refine aC ?_
 simp
 refine⟨fun h1=> ?_,fun h1=> ?_⟩
 ·simp[aX _ _ h1]
  refine aI (fun p:TL=> [(0,.sl (iv (lim a))),(1,.sl (iv (lim b))),(5,.lsl g 1 0 ((lim a).length+(lim b).length)),(6,.int .i64 i),(7,.int .i64 (dg a i:Nat)),(8,.int .i64 p.c),(26,.sl (iv (lim a))),(27,.int .i64 (lim a).length),(28,.int .i64 i),(33,.sl (iv (lim b))),(34,.int .i64 (lim b).length),(35,.int .i64 p.j)]) (fun p=>upd bl g (some ⟨1,iv p.O⟩))
   (fun p=>p.j≤(lim b).length∧gI a b i p.j p.O p.c) (fun p=>(lim b).length - p.j) _ ⟨i,0,O,0⟩ ⟨Nat.zero_le _,hI⟩ ⟨rfl,by simp,sub_eq (by simp)⟩ ?_
  rintro⟨i',j,O,c⟩ ⟨hj,hJ⟩
  simp only at hj hJ
  have hlen:=hJ.len
  refine aC ?_
  simp
  refine⟨fun h2=> ?_,fun h2=> ?_⟩
  ·have hk:i+j<O.length:=by omega
   obtain⟨n1,n2,n3,hN⟩:=hJ.next h1 h2 hk
   have w1:IntKind.i64.wrap ((i:Int)+j)=(i:Int)+j:=i64_in (by omega) (by omega)
   have p1:0≤(i:Int)+j:=by omega
   have p2:(i:Int)+j<(lim a).length+(lim b).length:=by omega
   have p3:((i:Int)+j).toNat=i+j:=by omega
   have w3:IntKind.i64.wrap ((j:Int)+1)=j+1:=i64_in (by omega) (by omega)
   have hm:0≤(dg a i:Int)*dg b j∧(dg a i:Int)*dg b j<1000000000000000000:=by
    have hO:=hJ.dig.at hk
    have e:0≤(dg a i:Int)*dg b j:=by rw[←Int.natCast_mul];omega
    exact⟨e,by omega⟩
   have hO:=hJ.dig.at hk
   have w4:IntKind.i64.wrap ((dg a i:Int)*dg b j)=(dg a i:Int)*dg b j:=i64_in (by omega) (by omega)
   have w5:IntKind.i64.wrap (O[i+j]+(dg a i:Int)*dg b j)=O[i+j]+(dg a i:Int)*dg b j:=i64_in (by omega) (by omega)
   have w6:IntKind.i64.wrap (O[i+j]+(dg a i:Int)*dg b j+c)=O[i+j]+(dg a i:Int)*dg b j+c:=i64_in (by omega) (by omega)
   have w7:=wq (x:=O[i+j]+(dg a i:Int)*dg b j+c) (n:=1000000000) n3 (by omega) (by omega)
   simp[aX _ _ h2,w1,w3,w4,w5,w6,w7,p1,p2,p3,hk]
   rw[aB]
   obtain⟨c',hc'⟩: ∃c':Nat,(O[i+j]+(dg a i:Int)*dg b j+c).tdiv 1000000000=c':=⟨((O[i+j]+(dg a i:Int)*dg b j+c).tdiv 1000000000).toNat,by omega⟩
   refine⟨⟨i,j+1,O.set (i+j) ((O[i+j]+(dg a i:Int)*dg b j+c).tmod 1000000000),c'⟩,⟨by simp only;omega,?_⟩,by simp only;omega,rfl,by simp[hc'],sub_eq ?_⟩
   ·rw[hc'] at hN;exact hN
   ·rw[eH]
  ·have e:j=(lim b).length:=by omega
   have hk:i+(lim b).length<O.length:=by omega
   have hR:=hJ.row h1 (by omega) hj hk
   have w1:IntKind.i64.wrap ((i:Int)+(lim b).length)=(i:Int)+(lim b).length:=i64_in (by omega) (by omega)
   have p1:0≤(i:Int)+(lim b).length:=by omega
   have p2:(i:Int)+(lim b).length<(lim a).length+(lim b).length:=by omega
   have p3:((i:Int)+(lim b).length).toNat=i+(lim b).length:=by omega
   have w3:IntKind.i64.wrap ((i:Int)+1)=i+1:=i64_in (by omega) (by omega)
   simp[w1,w3,p1,p2,p3,hk]
   rw[aB]
   refine⟨⟨i+1,0,O.set (i+(lim b).length) c,0⟩,⟨by simp only;omega,hR⟩,by simp only;omega,rfl,by simp,sub_eq ?_⟩
   rw[eH]
 ·have hv:=hI.done (c:=0) (by omega)
  have hlen:=hI.len
  have hg':bl g=none:=by simpa using hg
  try simp
  refine fV 1 bl _ (by simp[hg']) (kV hg0 hg' (by simp) hlen) (fS _ hI.dig (by omega)) ?_
  rw[hv]
  simp
  exact aS (by simp) rfl rfl
theorem O6 (a b:Nat) (ha:(lim a).length≤1048576) (hb0:0<b) (hb:b<1000000000):RO Tryz.prog 295 [.sl (iv (lim a)),.int .i64 b] (.tup [.sl (iv (lim (a / b))),.int .i64 (a % b:Nat)]):=by
 refine aJ Tryz.func295 rfl rfl (by rw[Tryz.ntmps295];simp) fun bl=> ?_
 rw[Tryz.ntmps295,Tryz.results295]
 refine aC ?_
 simp
 refine⟨by omega,by unfold maxLen;omega,fun g hg0 hg=> ?_⟩
 have er:List.replicate ((lim a).length) [V.int IntKind.i64 0]=iv (List.replicate ((lim a).length) 0):=by simp[iv]
 have w0:IntKind.i64.wrap (((lim a).length:Int) - 1)=((lim a).length:Int) - 1:=i64_in (by omega) (by omega)
 simp[er,w0]
 refine aI (fun p:SL=> [(0,.sl (iv (lim a))),(1,.int .i64 b),(6,.lsl g 1 0 (lim a).length),(7,.int .i64 p.r),(8,.int .i64 ((p.i:Int) - 1))]) (fun p=>upd bl g (some ⟨1,iv (List.replicate p.i 0++p.Q)⟩))
  (fun p=>0≤p.r∧oE a b p.i p.Q p.r.toNat) (fun p=>p.i) _ ⟨(lim a).length,[],0⟩ ⟨Int.le_refl _,oE.start a b hb0⟩ ⟨rfl,by simp,sub_eq (by simp)⟩ ?_
 rintro⟨i,Q,r⟩ ⟨hr0,hI⟩
 simp only at hr0 hI
 have hr:=hI.rlt
 have hle:=hI.le
 have hql:=hI.len
 refine aC ?_
 simp[-binV, -intV]
 refine⟨fun h1=> ?_,fun h1=> ?_⟩
 ·obtain⟨m,rfl⟩: ∃m,i=m+1:=⟨i - 1,by omega⟩
  have hm:m<(lim a).length:=by omega
  have hd:=eC a m
  obtain⟨z,hz⟩: ∃z,z=r.toNat*1000000000+dg a m:=⟨_,rfl⟩
  have hN:=hI.next (q:=z / b) (r':=z % b) (by rw[hz]) (by rw[hz])
  have e1:((m+1:Nat):Int) - 1=m:=by omega
  have w1:IntKind.i64.wrap (r*1000000000)=r*1000000000:=i64_in (by omega) (by omega)
  have w2:IntKind.i64.wrap (r*1000000000+dg a m)=z:=by rw[i64_in (by omega) (by omega)];omega
  have hz2:z≤9223372036854775807:=by omega
  simp[-binV, -intV,e1,aX _ _ hm,w1,w2]
  clear w1 w2 hz
  have b0: ¬ b=0:=by omega
  have hg':bl g=none:=by simpa using hg
  have w3:=wq (x:=(z:Int)) (n:=b) (by omega) (by omega) (by omega)
  have w4:(z:Int).tdiv b=(z / b:Nat):=by rw[Int.tdiv_eq_ediv_of_nonneg (by omega)];simp
  have w5:(z:Int).tmod b=(z % b:Nat):=by rw[Int.tmod_eq_emod_of_nonneg (by omega)];simp
  rw[w4] at w3
  have w3':IntKind.i64.wrap ((z:Int) / b)=(z:Int) / b:=by simpa using w3
  have q:(iv (List.replicate (m+1) 0++Q))[m]? =some [.int .i64 0]:=by rw[dC _ _ (by simp;omega)];simp
  have w6:IntKind.i64.wrap ((m:Int) - 1)=(m:Int) - 1:=i64_in (by omega) (by omega)
  refine⟨by omega,?_⟩
  simp[-binV, -intV,w3',w4,w5,hm,b0,q,w6]
  rw[aB]
  refine⟨⟨m,((z / b:Nat):Int)::Q,(z % b:Nat)⟩,⟨by simp only;omega,by show oE a b m _ (((z % b:Nat):Int)).toNat;rw[Int.toNat_natCast];exact hN⟩,by simp only;omega,rfl,by simp,sub_eq ?_⟩
  rw[←nK m _ 0 Q,←eH]
  simp
 ·have e:i=0:=by omega
  subst e
  obtain⟨h2,h3⟩:=hI.done
  have h4:r=(a % b:Nat):=by omega
  have hg':bl g=none:=by simpa using hg
  try simp
  refine fV 1 bl _ (by simp[hg']) (kV (ns:=Q) hg0 hg' (by simp) (by simp[hql])) (fS _ hI.dig (by omega)) ?_
  simp[h2,h4]
  exact aK [.sl (iv (lim (a / b))),.int .i64 (a % b:Nat)] 1 (by simp) rfl (by simp)
theorem sP (a b:Nat) (hab:b≤a) (ha:(lim a).length≤1000000):RO Tryz.prog 289 [.sl (iv (lim a)),.sl (iv (lim b))] (.sl (iv (lim (a - b)))):=by
 refine aJ Tryz.func289 rfl rfl (by rw[Tryz.ntmps289];simp) fun bl=> ?_
 rw[Tryz.ntmps289,Tryz.results289]
 refine aC ?_
 simp
 intro g0 hg0 hb0
 refine aI (fun p:Int×ML=> [(0,.sl (iv (lim a))),(1,.sl (iv (lim b))),(5,.lsl p.1 1 0 p.2.i),(6,.int .i64 p.2.br),(10,.sl (iv (lim a))),(11,.int .i64 (lim a).length),(12,.int .i64 p.2.i)]) (fun p=>upd bl p.1 (some ⟨1,iv p.2.o⟩))
  (fun p=>0≤p.1∧bl p.1=none∧gH a b p.2.i p.2.o p.2.br∧p.2.i≤(lim a).length) (fun p=>(lim a).length - p.2.i) _ (g0,⟨0,[],0⟩) ⟨hg0,hb0,gH.start a b,by simp⟩ ⟨rfl,by simp,sub_eq (by simp[iv])⟩ ?_
 rintro⟨g,i,o,br⟩ ⟨hg,hbg,hI,hi⟩
 simp only at hg hbg hI hi
 have hb1:=hI.x
 have hd1:=eC a i
 have hd2:=eC b i
 have hc1:=hI.c1
 have hol:=hI.len
 refine aC ?_
 simp
 refine⟨fun h1=> ?_,fun h1=> ?_⟩
 ·have w1:IntKind.i64.wrap ((dg a i:Int) - br)=dg a i - br:=i64_in (by omega) (by omega)
  have w2:IntKind.i64.wrap ((dg a i:Int) - br - dg b i)=dg a i - br - dg b i:=i64_in (by omega) (by omega)
  have w3:IntKind.i64.wrap ((i:Int)+1)=i+1:=i64_in (by omega) (by omega)
  simp[aX _ _ h1,w1]
  refine⟨fun h2=> ?_,fun h2=> ?_⟩
  ·simp[aX _ _ h2,w2]
   refine⟨fun h3=> ?_,fun h3=> ?_⟩
   ·have w4:IntKind.i64.wrap ((dg a i:Int) - br - dg b i+1000000000)=dg a i - br - dg b i+1000000000:=i64_in (by omega) (by omega)
    try simp[w4,w3]
    intro g2 hg2 h2g hb2
    simp[w4,w3,h2g,Ne.symm h2g,appV,elsV,Int.not_lt.2 hg2,hol]
    refine⟨by omega,fun g3 hg3 hb3=> ?_⟩
    have fK:bl g3=none:=by grind
    try simp[w4,w3]
    rw[aB]
    refine⟨(g3,⟨i+1,o++ [((dg a i:Int) - br - dg b i+1000000000:Int)],1⟩),⟨hg3,fK,hI.zY (x:=(dg a i:Int) - br - dg b i) rfl (by omega),by simp only;omega⟩,by simp only;omega,rfl,by simp,?_⟩
    rw[aT]
    exact cX (by rw[←hol,dA];simp[iv]) (by simp[hbg,hb2,h2g])
   ·try simp[w3]
    intro g2 hg2 h2g hb2
    simp[w3,h2g,Ne.symm h2g,appV,elsV,Int.not_lt.2 hg2,hol]
    refine⟨by omega,fun g3 hg3 hb3=> ?_⟩
    have fK:bl g3=none:=by grind
    try simp[w3]
    rw[aB]
    refine⟨(g3,⟨i+1,o++ [((dg a i:Int) - br - dg b i:Int)],0⟩),⟨hg3,fK,hI.A8 (x:=(dg a i:Int) - br - dg b i) rfl (by omega),by simp only;omega⟩,by simp only;omega,rfl,by simp,?_⟩
    rw[aT]
    exact cX (by rw[←hol,dA];simp[iv]) (by simp[hbg,hb2,h2g])
  ·have d0:dg b i=0:=jB (by omega)
   refine⟨fun h3=> ?_,fun h3=> ?_⟩
   ·have w4:IntKind.i64.wrap ((dg a i:Int) - br+1000000000)=dg a i - br+1000000000:=i64_in (by omega) (by omega)
    try simp[w4,w3]
    intro g2 hg2 h2g hb2
    simp[w4,w3,h2g,Ne.symm h2g,appV,elsV,Int.not_lt.2 hg2,hol]
    refine⟨by omega,fun g3 hg3 hb3=> ?_⟩
    have fK:bl g3=none:=by grind
    try simp[w4,w3]
    rw[aB]
    refine⟨(g3,⟨i+1,o++ [((dg a i:Int) - br+1000000000:Int)],1⟩),⟨hg3,fK,hI.zY (x:=(dg a i:Int) - br) (by omega) (by omega),by simp only;omega⟩,by simp only;omega,rfl,by simp,?_⟩
    rw[aT]
    exact cX (by rw[←hol,dA];simp[iv]) (by simp[hbg,hb2,h2g])
   ·try simp[w3]
    intro g2 hg2 h2g hb2
    simp[w3,h2g,Ne.symm h2g,appV,elsV,Int.not_lt.2 hg2,hol]
    refine⟨by omega,fun g3 hg3 hb3=> ?_⟩
    have fK:bl g3=none:=by grind
    try simp[w3]
    rw[aB]
    refine⟨(g3,⟨i+1,o++ [((dg a i:Int) - br:Int)],0⟩),⟨hg3,fK,hI.A8 (x:=(dg a i:Int) - br) (by omega) (by omega),by simp only;omega⟩,by simp only;omega,rfl,by simp,?_⟩
    rw[aT]
    exact cX (by rw[←hol,dA];simp[iv]) (by simp[hbg,hb2,h2g])
 ·have e:i=(lim a).length:=by omega
  subst e
  have hv:=hI.done hab (Nat.le_refl _)
  refine fV 1 bl _ (by simp[hbg]) (kV (ns:=o) hg hbg (by simp) hol) (fS _ hI.dig (by omega)) ?_
  simp[hv]
  exact aS (by simp) rfl rfl
theorem fE (N:Nat) (hN:N≤9223372036854775807):RO Tryz.prog 267 [.int .i64 N] (.sl (iv (lim N))):=by
 have hL:=qU (show N≤18446744073709551615 by omega)
 refine aJ Tryz.func267 rfl rfl (by rw[Tryz.ntmps267];simp) fun bl=> ?_
 rw[Tryz.ntmps267,Tryz.results267]
 refine aC ?_
 simp
 intro g0 hg0 hb0
 refine aI (fun p:Int×List Int×Nat=> [(0,.int .i64 p.2.2),(3,.lsl p.1 1 0 p.2.1.length)]) (fun p=>upd bl p.1 (some ⟨1,iv p.2.1⟩)) (fun p=>lim N=p.2.1++lim p.2.2∧p.2.2≤9223372036854775807∧bl p.1=none∧0≤p.1) (fun p=>p.2.2) _ (g0,[],N) ⟨by simp,hN,hb0,hg0⟩ ⟨rfl,by simp,sub_eq (by simp[iv])⟩ ?_
 rintro⟨g,o,n⟩ ⟨hl,hn,hg,h0⟩
 simp only at hl hn hg h0
 have hlo:o.length≤3:=by have:=congrArg List.length hl;simp at this;omega
 refine aC ?_
 simp
 refine⟨fun h=> ?_,fun h=> ?_⟩
 ·have m0:(n:Int).tmod 1000000000=((n % 1000000000:Nat):Int):=by rw[Int.tmod_eq_emod_of_nonneg (by omega)];omega
  have q0:(n:Int).tdiv 1000000000=((n / 1000000000:Nat):Int):=by rw[Int.tdiv_eq_ediv_of_nonneg (by omega)];omega
  have w2:IntKind.i64.wrap ((n:Int) / 1000000000)=(n:Int) / 1000000000:=i64_in (by omega) (by omega)
  intro g2 hg2 h2g hb2
  simp[h2g,Ne.symm h2g,appV,elsV,Int.not_lt.2 hg2,m0,q0,w2]
  refine⟨by omega,fun g3 hg3 hb3=> ?_⟩
  have fK:bl g3=none:=by grind
  try simp[m0,q0,w2]
  rw[aB]
  refine⟨(g3,o++ [((n % 1000000000:Nat):Int)],n / 1000000000),⟨by rw[hl,L1 h];simp,by simp only;omega,fK,hg3⟩,by simp only;omega,rfl,by simp,?_⟩
  rw[aT]
  exact cX (by rw[dA];simp[iv,m0]) (by simp[hg,hb2,h2g])
 ·have e:n=0:=by omega
  subst e
  rw[aW,List.append_nil] at hl
  rw[hl]
  exact aK [.lsl g 1 0 o.length] 1 (by simp) (dM h0 hg (by simp) (by simp) (nE o)) (by simp[hg])
theorem Q6 (a b:Nat) (ha:a≤9223372036854775807) (hb:b≤9223372036854775807):RO Tryz.prog 285 [.int .i64 a,.int .i64 b] (.sl (iv (lim (Nat.gcd a b)))):=by
 refine aJ Tryz.func285 rfl rfl (by rw[Tryz.ntmps285];simp) fun bl=> ?_
 rw[Tryz.ntmps285,Tryz.results285]
 refine aC ?_
 simp
 refine aI (fun p:Nat×Nat=> [(0,.int .i64 p.1),(1,.int .i64 p.2)]) (fun _=>bl) (fun p=>Nat.gcd p.1 p.2=Nat.gcd a b∧p.1≤9223372036854775807∧p.2≤9223372036854775807) (fun p=>p.2) _ (a,b) ⟨rfl,ha,hb⟩ ⟨rfl,by simp,Sub.refl _⟩ ?_
 rintro⟨x,y⟩ ⟨hg,hx,hy⟩
 simp only at hg hx hy
 refine aC ?_
 simp
 refine⟨fun h=> ?_,fun h=> ?_⟩
 ·have hy0: ¬ y=0:=by omega
  have hlt:=Nat.mod_lt x h
  have m0:(x:Int).tmod y=((x % y:Nat):Int):=by rw[Int.tmod_eq_emod_of_nonneg (by omega)];simp
  simp[hy0,m0,aB]
  refine⟨y,x % y,⟨?_,hy,by omega⟩,hlt,rfl,by simp,Sub.refl _⟩
  rw[←hg,Nat.gcd_comm x y,Nat.gcd_rec y x,Nat.gcd_comm]
 ·have h0:y=0:=by omega
  subst h0
  rw[Nat.gcd_zero_right] at hg
  refine aE (fE x hx) ?_
  rw[←hg]
  simp
  exact aS (by simp) rfl rfl

theorem Fc {n:Nat} (h:(lim n).length≤60):lT (lim n)=true:=by unfold lT;simp[h]
theorem Ch :lim 9223372036854775807= [854775807,223372036,9]:=by
 refine Lc ?_ (by decide+kernel) (.inr (by decide+kernel))
 intro d hd
 simp at hd
 omega
theorem Cp {a b:Nat} :iK a b≤0 ↔ a≤b:=by unfold iK;split<;>(try split)<;>omega
theorem P1 (n k:Nat):val ((lim n).drop k)≤n:=by
 rcases Nat.lt_or_ge (lim n).length k with h | h
 ·rw[List.drop_of_length_le (by omega)];exact Nat.zero_le _
 ·have:=iS (lim n) h
  rw[eE] at this
  have hp:1≤LB^k:=Nat.pow_pos gZ
  have:=Nat.mul_le_mul_right (val ((lim n).drop k)) hp
  omega
theorem tZ (n:Nat) (hn:n≤9223372036854775807):RO Tryz.prog 284 [.sl (iv (lim n))] (.tup [.int .i64 n,.bool true]):=by
 have hL:=qU (show n≤18446744073709551615 by omega)
 refine aJ Tryz.func284 rfl rfl (by rw[Tryz.ntmps284];simp) fun bl=> ?_
 rw[Tryz.ntmps284,Tryz.results284]
 refine aC ?_
 simp
 refine Ox [(0,.sl (iv (lim n)))] _ bl 14 (.bool false) ⟨rfl,by simp,Sub.refl _⟩ rfl ?_ ?_
 ·simp
  refine aE (lJ _ (by omega)) ?_
  simp[Fc (show(lim n).length≤60 by omega)]
  intro g hg0 hg
  refine bK 1 (ys:= [.sl (iv (lim n)),.sl (iv (lim 9223372036854775807))]) ?_ (jV n 9223372036854775807 (by omega) (by rw[Ch];simp)) rfl ?_
  ·have er3:List.range 3= [0,1,2]:=rfl
   simp[frzL,frz,Ch,iv,V.cl,Int.not_lt.2 hg0,er3]
  simp[hg]
  have:=Cp.2 hn
  omega
 have w0:IntKind.i64.wrap (((lim n).length:Int) - 1)=((lim n).length:Int) - 1:=i64_in (by omega) (by omega)
 simp[w0]
 refine aI (fun p:Nat×Int=> [(0,.sl (iv (lim n))),(4,.int .i64 p.2),(5,.int .i64 ((p.1:Int) - 1))]) (fun _=>bl) (fun p=>p.1≤(lim n).length∧p.2=(val ((lim n).drop p.1):Nat)) (fun p=>p.1) _ ((lim n).length,0) ⟨Nat.le_refl _,by simp[val]⟩ ⟨rfl,by simp,Sub.refl _⟩ ?_
 rintro⟨k,x⟩ ⟨hk,hx⟩
 simp only at hk hx
 refine aC ?_
 simp[-binV, -intV]
 refine⟨fun h1=> ?_,fun h1=> ?_⟩
 ·obtain⟨m,rfl⟩: ∃m,k=m+1:=⟨k - 1,by omega⟩
  have hm:m<(lim n).length:=by omega
  have e1:((m+1:Nat):Int) - 1=m:=by omega
  have hv:val ((lim n).drop m)=dg n m+LB*val ((lim n).drop (m+1)):=by
   rw[List.drop_eq_getElem_cons hm,val,fP hm,Int.toNat_natCast]
  have hle:=P1 n m
  have hLB:LB=1000000000:=rfl
  rw[hLB] at hv
  have w1:IntKind.i64.wrap (x*1000000000)=x*1000000000:=i64_in (by omega) (by omega)
  have w2:IntKind.i64.wrap (x*1000000000+dg n m)=x*1000000000+dg n m:=i64_in (by omega) (by omega)
  have w3:IntKind.i64.wrap ((m:Int) - 1)=(m:Int) - 1:=i64_in (by omega) (by omega)
  simp[-binV, -intV,e1,aX _ _ hm,w1,w2,w3]
  refine⟨by omega,?_⟩
  rw[aB]
  refine⟨(m,x*1000000000+dg n m),⟨by simp only;omega,by simp only;omega⟩,by simp only;omega,rfl,by simp,Sub.refl _⟩
 ·have e:k=0:=by omega
  subst e
  have hx2:x=n:=by rw[hx];simp
  rw[hx2]
  exact aK [.int .i64 n,.bool true] 1 (by simp) rfl (Sub.refl _)
structure DL2 where
 lo:Int
 hi:Int
theorem M0 (r b n:Nat) (hn:(lim b).length=n+1) (hbr:b≤r) (hrb:r<LB*b) (hl:n≤300000):RO Tryz.prog 296 [.sl (iv (lim r)),.sl (iv (lim b))] (.int .i64 (r / b:Nat)):=by
 have ht:0<dg b n:=H0 hn
 have htl:=eC b n
 have hb0:0<b:=by
  rcases Nat.eq_zero_or_pos b with h | h
  ·rw[h,aW] at hn;simp at hn
  ·exact h
 have hlr:n+1≤(lim r).length:=by have:=bZ hbr;omega
 have hbl:b<LB^(n+1):=aL.1 (by omega)
 have aP0:(lim r).length≤n+2:=by
  refine aL.2 (Nat.lt_of_lt_of_le hrb ?_)
  rw[Nat.pow_succ,Nat.mul_comm]
  exact Nat.mul_le_mul_right _ (Nat.le_of_lt hbl)
 have hLB:LB=1000000000:=rfl
 have er:r=(dg r (n+1)*LB+dg r n)*LB^n+pv r n:=by
  have h1:=dW r n
  have h2:=dW r (n+1)
  rw[eY (by omega)] at h2
  have e1:dg r (n+1)*LB*LB^n=LB^n*LB*dg r (n+1):=by ac_rfl
  have e2:dg r n*LB^n=LB^n*dg r n:=Nat.mul_comm _ _
  rw[Nat.pow_succ] at h2
  rw[Nat.add_mul]
  omega
 have eb:b=dg b n*LB^n+pv b n:=by
  have h1:=dW b n
  rw[eY (by omega)] at h1
  have e2:dg b n*LB^n=LB^n*dg b n:=Nat.mul_comm _ _
  omega
 obtain⟨x,hx⟩: ∃x,x=dg r (n+1)*LB+dg r n:=⟨_,rfl⟩
 have hlo:x / (dg b n+1)≤r / b:=by
  have:=Gx (x:=x) (rl:=pv r n) (N3 b n) ht
  rw[hx,←er,←eb,←hx] at this;exact this
 have hhi:r / b≤x / dg b n:=by
  have:=R6 (x:=x) (bl:=pv b n) (N3 r n) ht
  rw[hx,←er,←eb,←hx] at this;exact this
 have hq:r / b≤999999999:=by
  have:r / b<LB:=by rw[Nat.div_lt_iff_lt_mul hb0];exact hrb
  omega
 have hr1:=eC r (n+1)
 have hr0:=eC r n
 have hxl:x≤1000000000000000000:=by rw[hx,hLB];omega
 refine aJ Tryz.func296 rfl rfl (by rw[Tryz.ntmps296];simp) fun bl=> ?_
 rw[Tryz.ntmps296,Tryz.results296]
 obtain⟨d1,hd1⟩: ∃d1:Int,d1=dg r (n+1):=⟨_,rfl⟩
 have w0:IntKind.i64.wrap (((lim b).length:Int) - 1)=(n:Int):=by rw[i64_in (by omega) (by omega)];omega
 have w1:IntKind.i64.wrap (d1*1000000000)=d1*1000000000:=i64_in (by omega) (by omega)
 have w2:IntKind.i64.wrap ((dg r n:Int)+d1*1000000000)=x:=by rw[i64_in (by omega) (by omega),hx,hLB];omega
 have w3:IntKind.i64.wrap ((dg b n:Int)+1)=(dg b n:Int)+1:=i64_in (by omega) (by omega)
 have lr:=aX r n (by omega)
 have lb:=aX b n (by omega)
 have q1:(iv (lim r))[(lim b).length]? =if(lim b).length<(lim r).length then some [.int .i64 d1] else none:=by
  split
  ·rename_i h;rw[aX _ _ h,hn,hd1]
  ·rename_i h;rw[List.getElem?_eq_none (by simp;omega)]
 have y1:(x:Int).tdiv ((dg b n:Int)+1)=(x / (dg b n+1):Nat):=by rw[Int.tdiv_eq_ediv_of_nonneg (by omega)];simp
 have y2:(x:Int).tdiv (dg b n:Int)=(x / dg b n:Nat):=by rw[Int.tdiv_eq_ediv_of_nonneg (by omega)];simp
 have y3:=wq (x:=(x:Int)) (n:=(dg b n:Int)+1) (by omega) (by omega) (by omega)
 have y4:=wq (x:=(x:Int)) (n:=(dg b n:Int)) (by omega) (by omega) (by omega)
 rw[y1] at y3
 rw[y2] at y4
 obtain⟨lo0,Sd⟩: ∃l:Int,l=(x / (dg b n+1):Nat):=⟨_,rfl⟩
 obtain⟨hi0,aBL⟩: ∃l:Int,l=(x / dg b n:Nat):=⟨_,rfl⟩
 rw[←Sd] at y1 y3
 rw[←aBL] at y2 y4
 have z1: ¬ (dg b n:Int)+1=0:=by omega
 have z2: ¬ dg b n=0:=by omega
 obtain⟨D,hD⟩: ∃D:Int,D=(r / b:Nat):=⟨_,rfl⟩
 rw[←hD]
 have hD0:0≤D:=by rw[hD];exact Int.natCast_nonneg _
 have hDq:D≤999999999:=by rw[hD];generalize r / b=z at hq ⊢;omega
 have aMH:lo0≤D:=by rw[Sd,hD];generalize r / b=z at hlo ⊢;generalize x / (dg b n+1)=z2 at hlo ⊢;omega
 have aPE:D≤hi0:=by rw[aBL,hD];generalize r / b=z at hhi ⊢;generalize x / dg b n=z2 at hhi ⊢;omega
 have aE1:0≤lo0:=by rw[Sd];exact Int.natCast_nonneg _
 refine aD ?_
 simp
 refine aD ?_
 simp
 refine aD ?_
 simp[w0,lr]
 refine fH (fun _:Unit=> [(0,.sl (iv (lim r))),(1,.sl (iv (lim b))),(5,.int .i64 (lim b).length),(6,.int .i64 x)]) (fun _=>bl) (fun _=>True) 63 ?_ ?_
 ·refine aC ?_
  simp[-binV, -intV]
  refine⟨fun h=> ?_,fun h=> ?_⟩
  ·have q2:(lim r)[(lim b).length]'h=d1:=by rw[fP h,hn,hd1]
   simp[-binV, -intV,q1,h,q2,w1,w2]
   rw[aH]
   exact⟨(),trivial,rfl,by simp,Sub.refl _⟩
  ·have e0:dg r (n+1)=0:=jB (by omega)
   have ex:dg r n=x:=by rw[hx,e0];simp
   rw[aH]
   exact⟨(),trivial,rfl,by simp[ex],Sub.refl _⟩
 rintro _ _
 refine aC ?_
 simp[w0,lb,w3,y1,y2,y3,y4,z1,z2,minV]
 refine aI (fun p:DL2=> [(0,.sl (iv (lim r))),(1,.sl (iv (lim b))),(7,.int .i64 p.lo),(8,.int .i64 p.hi)]) (fun _=>bl) (fun p=>0≤p.lo∧p.lo≤D∧D≤p.hi∧p.hi≤999999999) (fun p=>(p.hi - p.lo).toNat) _ ⟨lo0,if hi0<999999999 then hi0 else 999999999⟩ ⟨aE1,aMH,by simp only;split<;>omega,by simp only;split<;>omega⟩ ⟨rfl,by simp[minV],Sub.refl _⟩ ?_
 rintro⟨lo,hi⟩ ⟨a1,a2,a3,a4⟩
 simp only at a1 a2 a3 a4
 refine aC ?_
 simp
 refine⟨fun h=> ?_,fun h=> ?_⟩
 ·have v1:IntKind.i64.wrap (lo+hi)=lo+hi:=i64_in (by omega) (by omega)
  have v2:IntKind.i64.wrap (lo+hi+1)=lo+hi+1:=i64_in (by omega) (by omega)
  have v3:=wq (x:=lo+hi+1) (n:=2) (by omega) (by omega) (by omega)
  have v4:(lo+hi+1).tdiv 2=(((lo+hi+1) / 2).toNat:Nat):=by rw[Int.tdiv_eq_ediv_of_nonneg (by omega)];omega
  rw[v4] at v3
  obtain⟨q,hqq⟩: ∃q:Nat,q=((lo+hi+1) / 2).toNat:=⟨_,rfl⟩
  rw[←hqq] at v3 v4
  have hq2:(q:Int)=(lo+hi+1) / 2:=by omega
  have aQ3:q≤999999999:=by omega
  simp[v1,v2,v3,v4]
  refine aE (fE q (by omega)) ?_
  simp
  have lq:(lim q).length≤3:=qU (by omega)
  refine aE (eR b q (by omega) (by omega)) ?_
  simp
  have lbq:=jE (k:=300002) (l:=3) (show(lim b).length≤300002 by omega) lq
  refine aE (jV _ _ (by omega) (by omega)) ?_
  simp[Cp]
  have hdh:=Az (r:=r) (q:=q) hb0
  refine⟨fun h2=> ?_,fun h2=> ?_⟩
  ·rw[aB]
   have h3:=hdh.1 h2
   refine⟨⟨q,hi⟩,⟨by simp only;omega,?_,a3,a4⟩,by simp only;omega,rfl,by simp,Sub.refl _⟩
   simp only
   rw[hD]
   generalize r / b=z at h3 ⊢
   omega
  ·have v5:IntKind.i64.wrap ((q:Int) - 1)=(q:Int) - 1:=i64_in (by omega) (by omega)
   simp[v5]
   rw[aB]
   have h3: ¬ q≤r / b:=fun hh=>by have:=hdh.2 hh;omega
   refine⟨⟨lo,(q:Int) - 1⟩,⟨a1,a2,?_,by simp only;omega⟩,by simp only;omega,rfl,by simp,Sub.refl _⟩
   simp only
   rw[hD]
   generalize r / b=z at h3 ⊢
   omega
 ·have:lo=D:=by omega
  rw[this]
  exact aS (by simp) rfl rfl
theorem Ez {r d k:Nat} (hr:(lim r).length≤k) (hd:d<1000000000):(lim (r*1000000000+d)).length≤k+1:=by
 refine aL.2 ?_
 have h5:=aL.1 hr
 have e:LB^(k+1)=LB^k*1000000000:=Nat.pow_succ ..
 rw[e]
 generalize LB^k=P at h5 ⊢
 omega
structure SD where
 g:Int
 i:Nat
 Q:List Int
 r:Nat
theorem tK (a b:Nat) (hb0:0<b) (ha:(lim a).length≤200000) (hbl:(lim b).length≤200000):RO Tryz.prog 286 [.sl (iv (lim a)),.sl (iv (lim b))] (.tup [.sl (iv (lim (a / b))),.sl (iv (lim (a % b)))]):=by
 refine aJ Tryz.func286 rfl rfl (by rw[Tryz.ntmps286];simp) fun bl=> ?_
 rw[Tryz.ntmps286,Tryz.results286]
 refine aD ?_
 simp
 refine aD ?_
 simp
 refine⟨fun h1=> ?_,fun h1=> ?_⟩
 ·have h1':(lim b).length=1:=by omega
  obtain⟨b1,b2,b3⟩:=Mu h1'
  simp[aX b 0 (by omega),b1]
  refine aE (O6 a b (by omega) b3 b2) ?_
  have hr:a % b<b:=Nat.mod_lt _ b3
  obtain⟨r,hr2⟩: ∃r,r=a % b:=⟨_,rfl⟩
  rw[←hr2] at hr ⊢
  simp
  refine aE (fE r (by omega)) ?_
  simp
  exact aK [.sl (iv (lim (a / b))),.sl (iv (lim r))] 1 (by simp) rfl (Sub.refl _)
 have hbz:(lim b).length≠0:=fun h0=>by have:=eN.1 (List.length_eq_zero_iff.1 h0);omega
 obtain⟨n,hn⟩: ∃n,(lim b).length=n+1:=⟨(lim b).length - 1,by omega⟩
 have w0:IntKind.i64.wrap (((lim a).length:Int) - 1)=((lim a).length:Int) - 1:=i64_in (by omega) (by omega)
 refine aC ?_
 simp
 refine⟨by omega,by unfold maxLen;omega,fun g8 hg8 hb8 g9 hg9 h98 hb9=> ?_⟩
 have er:List.replicate ((lim a).length) [V.int IntKind.i64 0]=iv (List.replicate ((lim a).length) 0):=by simp[iv]
 simp[er,w0]
 have aDE:bl g8=none:=by simpa using hb8
 refine cE 1 9 (.sl (iv (lim 0))) (upd bl g8 (some ⟨1,iv (List.replicate (lim a).length 0)⟩)) (by simp[h98,hb9]) ?_ ?_
 ·rw[aW]
  exact dM hg9 (by simp[h98,hb9]) (by simp;rfl) rfl rfl
 refine aI (fun p:SL=> [(0,.sl (iv (lim a))),(1,.sl (iv (lim b))),(8,.lsl g8 1 0 (lim a).length),(9,.sl (iv (lim p.r.toNat))),(10,.int .i64 ((p.i:Int) - 1))]) (fun p=>upd bl g8 (some ⟨1,iv (List.replicate p.i 0++p.Q)⟩))
  (fun p=>oE a b p.i p.Q p.r.toNat) (fun p=>p.i) _ ⟨(lim a).length,[],0⟩ (oE.start a b hb0) ⟨rfl,by simp,sub_eq (by simp)⟩ ?_
 rintro⟨i,Q,r⟩ hI
 simp only at hI
 have hr:=hI.rlt
 have hle:=hI.le
 have hql:=hI.len
 generalize r.toNat=r at *
 refine aC ?_
 simp
 refine⟨fun h1=> ?_,fun h1=> ?_⟩
 ·obtain⟨m,rfl⟩: ∃m,i=m+1:=⟨i - 1,by omega⟩
  have hm:m<(lim a).length:=by omega
  have hd:=eC a m
  obtain⟨z,hz⟩: ∃z,z=r*1000000000+dg a m:=⟨_,rfl⟩
  have hN:=hI.next (q:=z / b) (r':=z % b) (by rw[hz]) (by rw[hz])
  have e1:((m+1:Nat):Int) - 1=m:=by omega
  have er1:List.range 1= [0]:=rfl
  have hrl:(lim r).length≤200000:=jY (Nat.le_of_lt hr) hbl
  simp[e1,aX _ _ hm]
  refine⟨by omega,?_⟩
  intro g2 hg2 h28 hb2
  have bO:((iv (lim r)).all fun c=>c.length==1 && c.all V.one)=true:=by simp[iv]
  simp[h28,Ne.symm h28,appV,elsV,Int.not_lt.2 hg2,bO,er1]
  refine⟨by omega,fun g3 hg3 hb3=> ?_⟩
  have fK:g3≠g8∧bl g3=none:=by grind
  have hv:val ((dg a m:Int)::lim r)=z:=by
   have hLB:LB=1000000000:=rfl
   rw[val,eE,hLB,hz];simp;omega
  have hD:Dig ((dg a m:Int)::lim r):=fun d hd2=>by
   rcases List.mem_cons.1 hd2 with rfl | hd2
   ·omega
   ·exact fI r d hd2
  refine fV 1 (upd bl g8 (some ⟨1,iv (List.replicate (m+1) 0++Q)⟩)) _ ?_ (kV (ns:=(dg a m:Int)::lim r) hg3 (by simp[fK.1,fK.2]) (by simp[iv]) (by simp)) (fS _ hD (by simp;omega)) ?_
  ·intro u y hu
   simp only[aA,aF] at hu ⊢
   grind
  rw[hv]
  have hzr:(lim z).length≤200001:=by rw[hz];exact Ez hrl hd
  simp
  refine aE (jV z b (by omega) (by omega)) ?_
  have w3:IntKind.i64.wrap ((m:Int) - 1)=(m:Int) - 1:=i64_in (by omega) (by omega)
  simp[Bu]
  refine⟨fun h5=> ?_,fun h5=> ?_⟩
  ·rw[Nat.div_eq_of_lt h5,Nat.mod_eq_of_lt h5] at hN
   simp[w3]
   rw[aB]
   refine⟨⟨m,0::Q,z⟩,by simpa using hN,by simp only;omega,rfl,by simp,sub_eq ?_⟩
   rw[←Fa]
  ·have hzb:z<LB*b:=by
    have hLB:LB=1000000000:=rfl
    rw[hLB,hz];omega
   refine aE (M0 z b n hn h5 hzb (by omega)) ?_
   have q5:(iv (List.replicate (m+1) 0++Q))[m]? =some [.int .i64 0]:=by rw[dC _ _ (by simp;omega)];simp
   have hqq:z / b≤999999999:=by
    have:z / b<LB:=by rw[Nat.div_lt_iff_lt_mul hb0];exact hzb
    have hLB:LB=1000000000:=rfl
    omega
   obtain⟨q,hq⟩: ∃q,q=z / b:=⟨_,rfl⟩
   have aL0:z - b*q=z % b:=by rw[hq];have:=Nat.div_add_mod z b;omega
   have aMB:b*q≤z:=by rw[hq];exact Nat.mul_div_le z b
   rw[←hq] at hqq hN ⊢
   simp[q5,hm]
   refine aE (fE q (by omega)) ?_
   simp
   have lq:(lim q).length≤3:=qU (by omega)
   refine aE (eR b q (by omega) (by omega)) ?_
   simp
   refine aE (sP z (b*q) aMB (by omega)) ?_
   rw[aL0]
   simp[w3]
   rw[aB]
   refine⟨⟨m,(q:Int)::Q,(z % b:Nat)⟩,by simp only[Int.toNat_natCast];exact hN,by simp only;omega,rfl,by simp only[Int.toNat_natCast];simp,sub_eq ?_⟩
   rw[←nK m _ 0 Q,←eH]
 ·have e:i=0:=by omega
  subst e
  obtain⟨h2,h3⟩:=hI.done
  refine fV 1 bl _ (by simp[aDE]) (kV (ns:=Q) hg8 aDE (by simp) (by simp[hql])) (fS _ hI.dig (by omega)) ?_
  rw[h2,h3]
  simp
  exact aK [.sl (iv (lim (a / b))),.sl (iv (lim (a % b)))] 1 (by simp) rfl (by simp)
theorem oS {bl bl0:Int→Option Blk} {g:Int} {ns:List Int} (h0:0≤g∨ns= []) (hg:bl0 g=none) (hb:bl g=some ⟨1,iv ns⟩):frz (dropB bl bl0) 1 (.lsl g 1 0 ns.length)=some (.sl (iv ns)):=by
 rcases Int.lt_or_le g 0 with h | h
 ·have:ns= []:=by rcases h0 with h0 | h0;omega;exact h0
  subst this
  unfold frz
  rw[if_pos h];rfl
 ·exact dM h hg hb (by simp) (nE ns)
theorem D3 (a b:Nat) (ha:(lim a).length≤200000) (hb:(lim b).length≤200000):RO Tryz.prog 263 [.sl (iv (lim a)),.sl (iv (lim b))] (.sl (iv (lim (Nat.gcd a b)))):=by
 have bO: ∀n:Nat,((iv (lim n)).all fun c=>c.length==1 && c.all V.one)=true:=fun n=>by simp[iv]
 have aB7: ∀n:Nat,iv (lim n)= []→lim n= []:=fun n h=>by simpa [iv] using h
 refine aJ Tryz.func263 rfl rfl (by rw[Tryz.ntmps263];simp) fun bl=> ?_
 rw[Tryz.ntmps263,Tryz.results263]
 refine aC ?_
 simp
 intro g0 hg0 hb0
 simp[appV,elsV,bO,Int.not_lt.2 hg0]
 refine⟨by omega,fun g1 hg1 hb1 g2 hg2 n21 hb2=> ?_⟩
 have U1:bl g2=none:=by grind
 have aNF:bl g1=none:=by grind
 try simp[appV,elsV,bO,Int.not_lt.2 hg2]
 refine⟨by omega,fun g3 hg3 hb3=> ?_⟩
 have n31:g3≠g1:=by grind
 have fK:bl g3=none:=by grind
 refine cE 1 5 (.sl (iv (lim a))) (upd bl g3 (some ⟨1,iv (lim b)⟩)) ?_ ?_ ?_
 ·intro u y hu
  simp only[aA,aF] at hu ⊢
  grind
 ·exact oS (hg1.imp id (aB7 a)) (by simp[Ne.symm n31,aNF]) (by simp[n21,Ne.symm n21,n31,Ne.symm n31])
 refine cE 1 6 (.sl (iv (lim b))) bl (by simp[fK]) ?_ ?_
 ·exact oS (hg3.imp id (aB7 b)) fK (by simp)
 refine aI (fun p:Nat×Nat=> [(5,.sl (iv (lim p.1))),(6,.sl (iv (lim p.2)))]) (fun _=>bl) (fun p=>Nat.gcd p.1 p.2=Nat.gcd a b∧(lim p.1).length≤200000∧(lim p.2).length≤200000) (fun p=>p.2) _ (a,b) ⟨rfl,ha,hb⟩ ⟨rfl,by simp,Sub.refl _⟩ ?_
 rintro⟨x,y⟩ ⟨hg,hx,hy⟩
 simp only at hg hx hy
 refine aC ?_
 simp
 refine⟨fun h=> ?_,fun h=> ?_⟩
 ·have hy0:0<y:=(tU y).1 (by simpa using h)
  refine bP [(5,.sl (iv (lim x))),(6,.sl (iv (lim y)))] _ bl 29 (.bool (decide ((lim x).length<3)&& decide ((lim y).length<3))) ⟨rfl,by simp,Sub.refl _⟩ rfl ?_ ?_
  ·simp
   refine⟨fun h3=> ?_,fun h3 h4=>by omega⟩
   rw[Bool.eq_iff_iff];simp;omega
  simp
  refine⟨fun h1 h2=> ?_,fun h1=> ?_⟩
  ·have bx:x≤9223372036854775807:=by
    have:=aL.1 (show(lim x).length≤2 by omega)
    have e:LB^2=1000000000000000000:=by decide+kernel
    omega
   have by':y≤9223372036854775807:=by
    have:=aL.1 (show(lim y).length≤2 by omega)
    have e:LB^2=1000000000000000000:=by decide+kernel
    omega
   refine aE (tZ x bx) ?_
   simp
   refine aE (tZ y by') ?_
   simp
   refine aE (Q6 x y bx by') ?_
   rw[hg]
   simp
   exact aS (by simp) rfl rfl
  ·refine aE (tK x y hy0 hx hy) ?_
   simp
   rw[aB]
   have hlt:=Nat.mod_lt x hy0
   refine⟨(y,x % y),⟨?_,hy,?_⟩,hlt,rfl,by simp,Sub.refl _⟩
   ·rw[←hg,Nat.gcd_comm x y,Nat.gcd_rec y x,Nat.gcd_comm]
   ·exact Nat.le_trans (bZ (Nat.le_of_lt hlt)) hy
 ·have h0:y=0:=eN.1 (by simpa using h)
  subst h0
  rw[Nat.gcd_zero_right] at hg
  rw[←hg]
  exact aS (by simp) rfl rfl

theorem P0 {bl bl0:Int→Option Blk} {g:Int} {ns:List Int} {b:Bool} (h0:0≤g∨ns= []) (hg:bl0 g=none) (hb:bl g=some ⟨1,iv ns⟩):frz (dropB bl bl0) 2 (.agg [.bool b,.lsl g 1 0 ns.length])=some (.agg [.bool b,.sl (iv ns)]):=by
 have h1:=oS h0 hg hb
 have h2:frz (dropB bl bl0) 1 (.bool b)=some (.bool b):=by simp[frz]
 rw[vD]
 simp only[List.mapM_cons,List.mapM_nil,h1,h2]
 rfl
theorem dO (neg:Bool) (m:Nat) (hm:(lim m).length≤60):RO Tryz.prog 254 [.bool neg,.sl (iv (lim m))] (.agg (biC (sg neg m))):=by
 have bO:((iv (lim m)).all fun c=>c.length==1 && c.all V.one)=true:=by simp[iv]
 refine aJ Tryz.func254 rfl rfl (by rw[Tryz.ntmps254];simp) fun bl=> ?_
 rw[Tryz.ntmps254,Tryz.results254]
 refine aC ?_
 simp
 intro g hg0 hg
 refine aE (Cx (lim m) (fI m) (by omega)) ?_
 rw[eE,if_pos hm]
 simp
 cases neg
 all_goals
  refine sM (vR ?_)
  simp
  intro g1 hg1 h1g hb1
  simp[h1g,Ne.symm h1g,appV,elsV,Int.not_lt.2 hg1,bO]
  refine⟨by omega,fun g2 hg2 hb2=> ?_⟩
  have h2g:g2≠g:=by grind
  have U1:bl g2=none:=by grind
  have hnn:0≤g2∨lim m= []:=hg2.imp id (fun h=>by simpa [iv] using h)
  simp[h1g,Ne.symm h1g,h2g,Ne.symm h2g]
 ·refine aK [.agg [.bool false,.lsl g2 1 0 (lim m).length]] 2 (by simp[h1g,Ne.symm h1g,h2g,Ne.symm h2g]) ?_ (by simp[hg,hb1,U1,h1g,h2g])
  rw[V8]
  exact P0 hnn U1 (by simp[h2g])
 ·refine aK [.agg [.bool (decide (0<(lim m).length)),.lsl g2 1 0 (lim m).length]] 2 (by simp[h1g,Ne.symm h1g,h2g,Ne.symm h2g]) ?_ (by simp[hg,hb1,U1,h1g,h2g])
  rw[V8]
  exact P0 hnn U1 (by simp[h2g])
theorem Ep (x y:Int) (hx:(lim x.natAbs).length≤1048576) (hy:(lim y.natAbs).length≤1048576):RO Tryz.prog 294 [.agg (biC x),.agg (biC y)] (.int .i64 (gG x y)):=by
 refine aJ Tryz.func294 rfl rfl (by rw[Tryz.ntmps294];simp) fun bl=> ?_
 rw[Tryz.ntmps294,Tryz.results294]
 refine aD ?_
 rw[show biC x= [.bool (decide (x<0)),.sl (iv (lim x.natAbs))] from rfl,show biC y= [.bool (decide (y<0)),.sl (iv (lim y.natAbs))] from rfl]
 simp
 intro g hg0 hg g2 hg2 h2g hb2
 refine aC ?_
 simp[h2g,Ne.symm h2g]
 by_cases h1:x<0<;>by_cases h2:y<0
 ·refine bW [(2,.loc g 2 0 0),(3,.loc g2 2 0 0)] _ (upd (upd bl g (some ⟨2,[[.bool (decide (x<0)),.sl (iv (lim x.natAbs))]]⟩)) g2 (some ⟨2,[[.bool (decide (y<0)),.sl (iv (lim y.natAbs))]]⟩)) 5 (.bool false) (upd (upd bl g (some ⟨2,[[.bool (decide (x<0)),.sl (iv (lim x.natAbs))]]⟩)) g2 (some ⟨2,[[.bool (decide (y<0)),.sl (iv (lim y.natAbs))]]⟩)) ⟨rfl,by simp,Sub.refl _⟩ rfl (by simp[h1,h2,h2g,Ne.symm h2g]) ?_
  simp[h1,h2,h2g,Ne.symm h2g]
  refine bW [(2,.loc g 2 0 0),(3,.loc g2 2 0 0)] _ (upd (upd bl g (some ⟨2,[[.bool (decide (x<0)),.sl (iv (lim x.natAbs))]]⟩)) g2 (some ⟨2,[[.bool (decide (y<0)),.sl (iv (lim y.natAbs))]]⟩)) 13 (.bool false) (upd (upd bl g (some ⟨2,[[.bool (decide (x<0)),.sl (iv (lim x.natAbs))]]⟩)) g2 (some ⟨2,[[.bool (decide (y<0)),.sl (iv (lim y.natAbs))]]⟩)) ⟨rfl,by simp,sub_eq (by simp[h1,h2])⟩ rfl (by simp[h1,h2,h2g,Ne.symm h2g]) ?_
  simp[h1,h2,h2g,Ne.symm h2g]
  refine aE (jV _ _ hy hx) ?_
  simp
  refine aK [.int .i64 (gG x y)] 0 ?_ (by simp[frz]) (by simp[hg,hb2])
  have:iK y.natAbs x.natAbs=gG x y:=by unfold iK gG;split<;>split<;>(try split)<;>(try split)<;>omega
  simp[this]
 ·refine bW [(2,.loc g 2 0 0),(3,.loc g2 2 0 0)] _ (upd (upd bl g (some ⟨2,[[.bool (decide (x<0)),.sl (iv (lim x.natAbs))]]⟩)) g2 (some ⟨2,[[.bool (decide (y<0)),.sl (iv (lim y.natAbs))]]⟩)) 5 (.bool true) (upd (upd bl g (some ⟨2,[[.bool (decide (x<0)),.sl (iv (lim x.natAbs))]]⟩)) g2 (some ⟨2,[[.bool (decide (y<0)),.sl (iv (lim y.natAbs))]]⟩)) ⟨rfl,by simp,Sub.refl _⟩ rfl (by simp[h1,h2,h2g,Ne.symm h2g]) ?_
  simp[h1,h2,h2g,Ne.symm h2g]
  have:gG x y= -1:=by unfold gG;rw[if_pos (by omega)]
  exact aK [.int .i64 (-1)] 0 (by simp) (by simp[frz,this]) (by simp[hg,hb2])
 ·refine bW [(2,.loc g 2 0 0),(3,.loc g2 2 0 0)] _ (upd (upd bl g (some ⟨2,[[.bool (decide (x<0)),.sl (iv (lim x.natAbs))]]⟩)) g2 (some ⟨2,[[.bool (decide (y<0)),.sl (iv (lim y.natAbs))]]⟩)) 5 (.bool false) (upd (upd bl g (some ⟨2,[[.bool (decide (x<0)),.sl (iv (lim x.natAbs))]]⟩)) g2 (some ⟨2,[[.bool (decide (y<0)),.sl (iv (lim y.natAbs))]]⟩)) ⟨rfl,by simp,Sub.refl _⟩ rfl (by simp[h1,h2,h2g,Ne.symm h2g]) ?_
  simp[h1,h2,h2g,Ne.symm h2g]
  refine bW [(2,.loc g 2 0 0),(3,.loc g2 2 0 0)] _ (upd (upd bl g (some ⟨2,[[.bool (decide (x<0)),.sl (iv (lim x.natAbs))]]⟩)) g2 (some ⟨2,[[.bool (decide (y<0)),.sl (iv (lim y.natAbs))]]⟩)) 13 (.bool true) (upd (upd bl g (some ⟨2,[[.bool (decide (x<0)),.sl (iv (lim x.natAbs))]]⟩)) g2 (some ⟨2,[[.bool (decide (y<0)),.sl (iv (lim y.natAbs))]]⟩)) ⟨rfl,by simp,sub_eq (by simp[h1,h2])⟩ rfl (by simp[h1,h2,h2g,Ne.symm h2g]) ?_
  simp[h1,h2,h2g,Ne.symm h2g]
  have:gG x y=1:=by unfold gG;rw[if_neg (by omega),if_neg (by omega)]
  exact aK [.int .i64 1] 0 (by simp) (by simp[frz,this]) (by simp[hg,hb2])
 ·refine bW [(2,.loc g 2 0 0),(3,.loc g2 2 0 0)] _ (upd (upd bl g (some ⟨2,[[.bool (decide (x<0)),.sl (iv (lim x.natAbs))]]⟩)) g2 (some ⟨2,[[.bool (decide (y<0)),.sl (iv (lim y.natAbs))]]⟩)) 5 (.bool false) (upd (upd bl g (some ⟨2,[[.bool (decide (x<0)),.sl (iv (lim x.natAbs))]]⟩)) g2 (some ⟨2,[[.bool (decide (y<0)),.sl (iv (lim y.natAbs))]]⟩)) ⟨rfl,by simp,Sub.refl _⟩ rfl (by simp[h1,h2,h2g,Ne.symm h2g]) ?_
  simp[h1,h2,h2g,Ne.symm h2g]
  refine bW [(2,.loc g 2 0 0),(3,.loc g2 2 0 0)] _ (upd (upd bl g (some ⟨2,[[.bool (decide (x<0)),.sl (iv (lim x.natAbs))]]⟩)) g2 (some ⟨2,[[.bool (decide (y<0)),.sl (iv (lim y.natAbs))]]⟩)) 13 (.bool false) (upd (upd bl g (some ⟨2,[[.bool (decide (x<0)),.sl (iv (lim x.natAbs))]]⟩)) g2 (some ⟨2,[[.bool (decide (y<0)),.sl (iv (lim y.natAbs))]]⟩)) ⟨rfl,by simp,sub_eq (by simp[h1,h2])⟩ rfl (by simp[h1,h2,h2g,Ne.symm h2g]) ?_
  simp[h1,h2,h2g,Ne.symm h2g]
  refine aE (jV _ _ hx hy) ?_
  simp
  refine aK [.int .i64 (gG x y)] 0 ?_ (by simp[frz]) (by simp[hg,hb2])
  have:iK x.natAbs y.natAbs=gG x y:=by unfold iK gG;split<;>split<;>(try split)<;>(try split)<;>omega
  simp[this]
theorem lS (n:Nat):RO Tryz.prog 262 [.sl (iv (lim n))] (.bool (decide (n=1))):=by
 refine aJ Tryz.func262 rfl rfl (by rw[Tryz.ntmps262];simp) fun bl=> ?_
 rw[Tryz.ntmps262,Tryz.results262]
 refine aC ?_
 simp
 refine bP [(0,.sl (iv (lim n)))] _ bl 2 (.bool (decide (n=1))) ⟨rfl,by simp,Sub.refl _⟩ rfl ?_ ?_
 ·simp
  by_cases h:(lim n).length=1
  ·obtain⟨k1,k2,k3⟩:=Mu h
   simp[h,aX n 0 (by omega),k1,xI]
   rw[fP (by omega),k1]
   omega
  ·have hn:n≠1:=fun e=>h (by rw[e,Pe];rfl)
   have h2: ¬ ((lim n).length:Int)=1:=by omega
   simp[h,h2,hn]
 simp
 exact aS (by simp) rfl rfl
theorem Eb (a b:Rat) (ha:fits a) (hb:fits b):RO Tryz.prog 278 [.agg (rq a).c,.agg (rq b).c] (.int .i64 (zQ a b)):=by
 obtain⟨a1,a2⟩:=ha
 obtain⟨b1,b2⟩:=hb
 have n1:=jE a1 b2
 have n2:=jE b1 a2
 have e1:sg (decide (a.num<0)) (a.num.natAbs*b.den)=a.num*b.den:=by
  have:=tG a.num b.den
  have h0:decide (((b.den:Nat):Int)<0)=false:=decide_eq_false (by omega)
  rw[h0,Bool.bne_false,Int.natAbs_natCast] at this
  exact this
 have e2:sg (decide (b.num<0)) (b.num.natAbs*a.den)=b.num*a.den:=by
  have:=tG b.num a.den
  have h0:decide (((a.den:Nat):Int)<0)=false:=decide_eq_false (by omega)
  rw[h0,Bool.bne_false,Int.natAbs_natCast] at this
  exact this
 refine aJ Tryz.func278 rfl rfl (by rw[Tryz.ntmps278];simp) fun bl=> ?_
 rw[Tryz.ntmps278,Tryz.results278]
 refine aD ?_
 rw[E2,E2]
 simp
 intro g hg0 hg g2 hg2 h2g hb2
 refine aC ?_
 simp
 refine cN aN (by kernel_rfl) ?_
 simp[h2g,Ne.symm h2g]
 refine aP (eR _ _ (by omega) (by omega)) ?_
 simp
 refine aP (dO _ _ (by omega)) ?_
 rw[e1]
 simp[h2g,Ne.symm h2g]
 refine aP (eR _ _ (by omega) (by omega)) ?_
 simp
 refine aP (dO _ _ (by omega)) ?_
 rw[e2]
 simp
 refine aP (Ep _ _ (by rw[←e1,nO];omega) (by rw[←e2,nO];omega)) ?_
 simp
 exact aK [.int .i64 (zQ a b)] 0 (by simp[zQ]) (by simp[frz]) (by simp[hg,hb2])
theorem lL (r:RT) (hm:r.m.length≤140737488351232) (hd:r.d.length≤140737488351232):RO Tryz.prog 213 [.agg r.c] (.bool (decide r.ok)):=by
 refine aJ Tryz.func213 rfl rfl (by rw[Tryz.ntmps213];simp) fun bl=> ?_
 rw[Tryz.ntmps213,Tryz.results213]
 refine aC ?_
 simp[RT.c]
 intro g hg0 hg
 refine bW [(1,.loc g 3 0 0)] _ (upd bl g (some ⟨3,[[.bool r.neg,.sl (iv r.m),.sl (iv r.d)]]⟩)) 31 (.bool r.bad) (upd bl g (some ⟨3,[[.bool r.neg,.sl (iv r.m),.sl (iv r.d)]]⟩)) ⟨rfl,by simp,Sub.refl _⟩ rfl ?_ ?_
 ·simp
  refine aE (tD r.neg r.m hm) ?_
  simp[RT.bad]
  refine⟨fun h=>by simp[h],fun h=> ?_⟩
  refine aE (lJ r.d hd) ?_
  simp[h]
  refine⟨fun a=>by simp[a],fun a=>⟨fun b=>by simp[b],fun b=>⟨fun c=> .inr (by omega),fun c=> ?_⟩⟩⟩
  have c2: ¬ 24<r.d.length:=by omega
  simp[a,b,c2]
  omega
 simp
 refine⟨fun h=> ?_,fun h=> ?_⟩
 ·refine aK [.bool false] 0 (by simp) ?_ (by simp[hg])
  have: ¬ r.ok:=fun hk=>by have:=(RT.Kx.1 hk).1;rw[h] at this;cases this
  simp[frz,this]
 ·obtain⟨l1,l2,l3,l4⟩:=RT.aLG h
  rw[l1,l2]
  refine aE (D3 (val r.m) (val r.d) (by rw[←l1];omega) (by rw[←l2];omega)) ?_
  simp
  refine aE (lS _) ?_
  simp
  refine aK [.bool (decide (Nat.gcd (val r.m) (val r.d)=1))] 0 (by simp) ?_ (by simp[hg])
  simp[frz,RT.Kx,h]
def sgq (x:Option Rat):Int:=match x with | some q=>q.num.sign | none=>0
theorem X3 (r:RT) (hm:r.m.length≤140737488351232) (hd:r.d.length≤140737488351232):RO Tryz.prog 191 [.agg r.c] (.int .i64 (sgq (rd r))):=by
 have key:(decide r.ok=false∨r.m= []→sgq (rd r)=0)∧(r.ok→r.m≠ []→sgq (rd r)=if r.neg then -1 else 1):=by
  have Pb: ¬ r.ok→rd r=none:=fun h=>by unfold rd;rw[if_neg h]
  constructor
  ·rintro(h | h)
   ·rw[Pb (by simpa using h)];rfl
   ·cases hq:rd r with
    | none => rfl
    | some q =>
      obtain⟨hr,_⟩:=rd_some hq
      have:q.num=0:=by
       have:lim q.num.natAbs= []:=by rw[←h,hr];rfl
       have:=eN.1 this;omega
      simp[sgq,this]
  ·intro h hm
   obtain⟨q,hq⟩: ∃q,rd r=some q:=⟨_,by unfold rd;rw[if_pos h]⟩
   obtain⟨hr,_⟩:=rd_some hq
   rw[hq]
   have h1:q.num≠0:=fun h0=>hm (by rw[hr];show lim q.num.natAbs= [];rw[h0];exact aW)
   have h2:r.neg=decide (q.num<0):=by rw[hr];rfl
   rw[h2]
   by_cases h3:q.num<0
   ·simp[sgq,h3,Int.sign_eq_neg_one_of_neg h3]
   ·simp[sgq,h3,Int.sign_eq_one_of_pos (show 0<q.num by omega)]
 refine aJ Tryz.func191 rfl rfl (by rw[Tryz.ntmps191];simp) fun bl=> ?_
 rw[Tryz.ntmps191,Tryz.results191]
 refine aC ?_
 simp[RT.c]
 intro g hg0 hg
 refine bW [(1,.loc g 3 0 0)] _ (upd bl g (some ⟨3,[[.bool r.neg,.sl (iv r.m),.sl (iv r.d)]]⟩)) 3 (.bool (!decide r.ok || decide (r.m= []))) (upd bl g (some ⟨3,[[.bool r.neg,.sl (iv r.m),.sl (iv r.d)]]⟩)) ⟨rfl,by simp,Sub.refl _⟩ rfl ?_ ?_
 ·simp
  refine aE (lL r hm hd) ?_
  simp[Mm]
  by_cases h:r.ok<;>simp[h]
 simp
 refine⟨fun h=> ?_,fun h1 h2=>⟨fun h3=> ?_,fun h3=> ?_⟩⟩
 ·exact aK [.int .i64 0] 0 (by simp) (by rw[key.1 (by simpa using h)];simp[frz]) (by simp[hg])
 ·exact aK [.int .i64 (-1)] 0 (by simp) (by rw[key.2 h1 h2,h3];simp[frz]) (by simp[hg])
 ·exact aK [.int .i64 1] 0 (by simp) (by rw[key.2 h1 h2,h3];simp[frz]) (by simp[hg])
end Go.Proofs.YticmgmemnpcbbaaGreat.Vm
