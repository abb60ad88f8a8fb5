import Derived.Test.YticmgmemnpcbbaaGreatQCFnWork5

namespace Go.Proofs.YticmgmemnpcbbaaGreat.Vm
open Go Go.Proofs
set_option linter.unusedSimpArgs false
set_option linter.unusedVariables false
theorem qX {n:Nat} : ∀(rs:List (List Int)),(∀r,r∈rs→r.length=n)→ ∀(i k:Nat) (hi:i<rs.length),k<n→lat rs.flatten (i*n+k)=lat rs[i] k
 | [], _, i, k, hi, _ => by simp at hi
 | r :: rs, h, 0, k, hi, hk => by
   have:=h r List.mem_cons_self
   simp[lat,List.flatten_cons,List.getElem?_append_left (show k<r.length by omega)]
 | r :: rs, h, i + 1, k, hi, hk => by
   have hr:=h r List.mem_cons_self
   have ih:=qX rs (fun r hr=>h r (List.mem_cons_of_mem _ hr)) i k (by simpa using hi) hk
   have e:(i+1)*n+k=r.length+(i*n+k):=by rw[hr,Nat.add_mul];omega
   rw[List.flatten_cons,e]
   simp only[lat,List.getD_eq_getElem?_getD] at ih ⊢
   rw[List.getElem?_append_right (by omega),Nat.add_sub_cancel_left,ih];rfl
theorem pM (s:Str):lZ s=(eC s).flatten:=by
 unfold lZ eC
 induction aH s.js with
 | nil => rfl
 | cons j js ih => simp [ih]
theorem jL (s:Str): ∀r,r∈eC s→r.length=s.ms.length:=by
 intro r hr
 unfold eC at hr
 obtain⟨j,_,hr⟩:=List.mem_flatMap.1 hr
 simp at hr
 rcases hr with rfl | rfl<;>simp
theorem Sy (s:Str) (n m:Nat) (h:m<n):(iv (aTo s n))[m]'(by simpa using h)= [.int .i64 (ent s (m / nC s) (m % nC s))]:=by simp[aTo]
theorem fD (s:Str) (l:List Int):(right s l).length=nR s:=by
 have e:right s l=lH s l (aH s.js).length:=by simp[right,lH]
 rw[e,mP s l _ (Nat.le_refl _)];rfl
theorem xJ (s:Str) (l:List Int): ∀(fs:List Int) (i:Nat) (h:i<fs.length),lat (fs.flatMap fun j=> [-lat l (2*j).toNat, -lat l (2*j+1).toNat]) (2*i)= -lat l (2*fs[i]).toNat∧lat (fs.flatMap fun j=> [-lat l (2*j).toNat, -lat l (2*j+1).toNat]) (2*i+1)= -lat l (2*fs[i]+1).toNat
 | [], i, h => by simp at h
 | f :: fs, 0, _ => by simp [lat]
 | f :: fs, i + 1, h => by
   have ih:=xJ s l fs i (by simpa using h)
   have e1:2*(i+1)=(2*i)+1+1:=by omega
   have e2:2*(i+1)+1=(2*i+1)+1+1:=by omega
   rw[e2,e1]
   simpa [lat] using ih
theorem vO (s:Str) (hs:SOk s):RO Tryz.prog 148 [.ptr s.c] (.sl (ivv (eC s))):=by
 have:=eH 2 (vN s hs) (Nr _)
 rwa [Vg] at this
def dPg (p:Pg):D:= .a [.c (.int .i64 p.rows),.c (.int .i64 p.bE),fl 1 (iv p.a),fl 1 (iv p.b),fl 1 (iv p.c)]
structure ABC where
 a:Int
 b:Int
 c:Int
structure Qk (bl : Int → Option Blk) (gr gp : Int) (p : ABC) : Prop where
 a0:0≤p.a
 b0:0≤p.b
 c0:0≤p.c
 ba: ¬p.b=p.a
 ca: ¬p.c=p.a
 cb: ¬p.c=p.b
 ar: ¬p.a=gr
 ap: ¬p.a=gp
 br: ¬p.b=gr
 bp: ¬p.b=gp
 cr: ¬p.c=gr
 cp: ¬p.c=gp
 fa:bl p.a=none
 fb:bl p.b=none
 fc:bl p.c=none
theorem ad {p:Prop} {a b:Int} (F:p) (h: ¬a=b):p∧(a=b)=False∧(b=a)=False:=⟨F,eq_false h,eq_false fun e=>h e.symm⟩
theorem an {p q:Prop} (F:p) (h:q):p∧q:=⟨F,h⟩
set_option maxHeartbeats 4000000 in
theorem tU (s:Str) (l:List Int) (hL:LOk s l):NW Tryz.prog 72 [.ptr s.c,.sl (iv l),.int .i64 0,.int .i64 0] (dPg (cI s l)):=by
 have hs:=hL.sok
 have h6:=hs.nj
 have h8:=hs.nm
 have hfr:=eW s.js s.js.length
 change(aH s.js).length≤s.js.length at hfr
 have hcn:nC s≤2*s.ms.length:=kE s.ms s.ms.length
 have hrn:nR s≤12:=by unfold nR;omega
 have er:(eC s).length=nR s:=by
  have e:eC s=uW s (aH s.js).length:=by simp[uW,eC]
  rw[e,mH s _ (Nat.le_refl _)];rfl
 have ec:(bE s.ms).length=nC s:=rfl
 refine iQ Tryz.func72 rfl rfl (by rw[Tryz.ntmps72];simp) fun bl=> ?_
 rw[Tryz.ntmps72,Tryz.results72]
 refine aE ?_
 simp
 intro gr aPR hbr
 refine aE ?_
 simp
 refine aD (vO s hs) ?_
 simp
 refine aD (pJ s (by omega)) ?_
 simp
 refine aE ?_
 have w1:IntKind.i64.wrap (nR s:Int)=nR s:=i64_in (by omega) (by omega)
 have w2:IntKind.i64.wrap (nC s:Int)=nC s:=i64_in (by omega) (by omega)
 simp[er,ec,w1,w2]
 intro gp aK1 hpr hbp
 obtain⟨nA,hA⟩: ∃n:Nat,n=nR s*nC s:=⟨_,rfl⟩
 have hA2:nA≤12*16:=by rw[hA];exact Nat.mul_le_mul (by omega) (by omega)
 have w3:IntKind.i64.wrap ((nR s:Int)*nC s)=nA:=by
  rw[hA]
  have:((nR s*nC s:Nat):Int)=nR s*nC s:=by simp
  rw[←this]
  exact i64_in (by omega) (by omega)
 let S:ABC→List (Nat×V):=fun _=> [(0,.ptr s.c),(1,.sl (iv l)),(8,.loc gr 5 0 0),(9,.sl (ivv (eC s))),(10,.sl (cv (bE s.ms))),(11,.loc gp 5 0 0)]
 let B:ABC→Int→Option Blk:=fun p=>upd (upd (upd (upd (upd bl gr (some ⟨5,[[.int .i64 0,.int .i64 0,.nils,.nils,.nils]]⟩)) gp (some ⟨5,[[.int .i64 (nR s),.int .i64 (nC s),.lsl p.a 1 0 nA,.lsl p.b 1 0 (nR s),.lsl p.c 1 0 (nC s)]]⟩)) p.a (some ⟨1,List.replicate nA [.int .i64 0]⟩)) p.b (some ⟨1,List.replicate (nR s) [.int .i64 0]⟩)) p.c (some ⟨1,List.replicate (nC s) [.int .i64 0]⟩)
 have leaf: ∀(n:Nat) (σ:St) (ga gb gc:Int),0≤ga→0≤gb→0≤gc→(¬gb=ga∧ ¬gc=ga∧ ¬gc=gb∧ ¬ga=gr∧ ¬ga=gp∧ ¬gb=gr∧ ¬gb=gp∧ ¬gc=gr∧ ¬gc=gp∧bl ga=none∧bl gb=none∧bl gc=none)→σ.n=n→(∀p,p∈S ⟨ga,gb,gc⟩→σ.sl p.1=p.2)→Sub (B ⟨ga,gb,gc⟩) σ.bl→
   ∃a,Qk bl gr gp a∧Fit (S a) n (B a) σ:=fun n σ ga gb gc h1 h2 h3 ⟨h4,h5,h6,h7,h8,h9,h10,h11,h12,h13,h14,h15⟩ h16 h17 h18=>⟨⟨ga,gb,gc⟩,⟨h1,h2,h3,h4,h5,h6,h7,h8,h9,h10,h11,h12,h13,h14,h15⟩,h16,h17,h18⟩
 refine jY S B (Qk bl gr gp) 113 ?_ ?_
 ·have F:=an (an (ad trivial (show ¬gp=gr from hpr)) hbr) hbp
  refine Ce aQ _ (Sub.refl _) [0,1,2,3,4,6,7,9,10] 9 12 (by kernel_rfl) ?_
  simp[w3]
  refine xK (i:=5) (j:=8) (m:=11) false false false (by kernel_rfl) rfl rfl (by kernel_rfl) rfl rfl (by kernel_rfl) rfl rfl (by kernel_rfl) ?_ ?_ ?_
  ·simp[F]
   refine⟨by omega,by unfold maxLen;omega,?_⟩
   intro ga hga
   intros
   have F:=an (ad (ad F (show ¬ga=gr by assumption)) (show ¬ga=gp by assumption)) (show bl ga=none by assumption)
   refine⟨by simp[F],?_⟩
   refine xK (i:=8) (j:=11) (m:=12) false false true (by kernel_rfl) rfl rfl (by kernel_rfl) rfl rfl (by kernel_rfl) rfl rfl (by kernel_rfl) ?_ ?_ ?_
   ·simp[F]
    refine⟨by omega,by unfold maxLen;omega,?_⟩
    intro gb hgb
    intros
    have F:=an (ad (ad (ad F (show ¬gb=gr by assumption)) (show ¬gb=gp by assumption)) (show ¬gb=ga by assumption)) (show bl gb=none by assumption)
    refine⟨by simp[F],?_⟩
    refine Dw 11 12 false true ?_ ?_
    ·simp[F]
     refine⟨by omega,by unfold maxLen;omega,?_⟩
     intro gc hgc
     intros
     have F:=an (ad (ad (ad (ad F (show ¬gc=gr by assumption)) (show ¬gc=gp by assumption)) (show ¬gc=ga by assumption)) (show ¬gc=gb by assumption)) (show bl gc=none by assumption)
     refine⟨by simp[F],?_⟩
     refine Dq 12 true ?_
     simp[F]
     refine Dq 13 true ?_
     simp[F]
     refine Dq 14 true ?_
     simp[F]
     refine Dq 15 true ?_
     simp[F]
     refine Dq 16 true ?_
     simp[F]
     refine Dq 17 true ?_
     simp[F]
     refine Dd ?_
     rw[aG]
     exact leaf _ _ ga gb gc hga hgb hgc (by simp[F]) rfl (by simp[S]) (by intro x y hx;simp only[B,aA] at hx ⊢;grind)
    ·simp[F]
     refine Dw 11 13 true true ?_ ?_
     ·simp[F]
      refine⟨by omega,by unfold maxLen;omega,?_⟩
      intro gc hgc
      intros
      have F:=an (ad (ad (ad (ad F (show ¬gc=gr by assumption)) (show ¬gc=gp by assumption)) (show ¬gc=ga by assumption)) (show ¬gc=gb by assumption)) (show bl gc=none by assumption)
      refine Dq 13 true ?_
      simp[F]
      refine Dq 14 true ?_
      simp[F]
      refine Dq 15 true ?_
      simp[F]
      refine Dq 16 true ?_
      simp[F]
      refine Dq 17 true ?_
      simp[F]
      refine Dd ?_
      rw[aG]
      exact leaf _ _ ga gb gc hga hgb hgc (by simp[F]) rfl (by simp[S]) (by intro x y hx;simp only[B,aA] at hx ⊢;grind)
     ·simp[F]
      refine Dw 11 14 true true ?_ ?_
      ·simp[F]
       refine⟨by omega,by unfold maxLen;omega,?_⟩
       intro gc hgc
       intros
       have F:=an (ad (ad (ad (ad F (show ¬gc=gr by assumption)) (show ¬gc=gp by assumption)) (show ¬gc=ga by assumption)) (show ¬gc=gb by assumption)) (show bl gc=none by assumption)
       refine Dq 14 true ?_
       simp[F]
       refine Dq 15 true ?_
       simp[F]
       refine Dq 16 true ?_
       simp[F]
       refine Dq 17 true ?_
       simp[F]
       refine Dd ?_
       rw[aG]
       exact leaf _ _ ga gb gc hga hgb hgc (by simp[F]) rfl (by simp[S]) (by intro x y hx;simp only[B,aA] at hx ⊢;grind)
      ·simp[F]
       refine Dw 11 15 true true ?_ ?_
       ·simp[F]
        refine⟨by omega,by unfold maxLen;omega,?_⟩
        intro gc hgc
        intros
        have F:=an (ad (ad (ad (ad F (show ¬gc=gr by assumption)) (show ¬gc=gp by assumption)) (show ¬gc=ga by assumption)) (show ¬gc=gb by assumption)) (show bl gc=none by assumption)
        refine Dq 15 true ?_
        simp[F]
        refine Dq 16 true ?_
        simp[F]
        refine Dq 17 true ?_
        simp[F]
        refine Dd ?_
        rw[aG]
        exact leaf _ _ ga gb gc hga hgb hgc (by simp[F]) rfl (by simp[S]) (by intro x y hx;simp only[B,aA] at hx ⊢;grind)
       ·simp[F]
        refine Dq 11 true ?_
        simp[F]
        refine⟨by omega,by unfold maxLen;omega,?_⟩
        intro gc hgc
        intros
        have F:=an (ad (ad (ad (ad F (show ¬gc=gr by assumption)) (show ¬gc=gp by assumption)) (show ¬gc=ga by assumption)) (show ¬gc=gb by assumption)) (show bl gc=none by assumption)
        refine Dq 16 true ?_
        simp[F]
        refine Dq 17 true ?_
        simp[F]
        refine Dd ?_
        rw[aG]
        exact leaf _ _ ga gb gc hga hgb hgc (by simp[F]) rfl (by simp[S]) (by intro x y hx;simp only[B,aA] at hx ⊢;grind)
   ·simp[F]
    refine⟨by omega,by unfold maxLen;omega,?_⟩
    intro gc hgc
    intros
    have F:=an (ad (ad (ad F (show ¬gc=gr by assumption)) (show ¬gc=gp by assumption)) (show ¬gc=ga by assumption)) (show bl gc=none by assumption)
    refine⟨by simp[F],?_⟩
    refine Dw 8 12 false true ?_ ?_
    ·simp[F]
     refine⟨by omega,by unfold maxLen;omega,?_⟩
     intro gb hgb
     intros
     have F:=an (ad (ad (ad (ad F (show ¬gb=gr by assumption)) (show ¬gb=gp by assumption)) (show ¬gb=ga by assumption)) (show ¬gb=gc by assumption)) (show bl gb=none by assumption)
     refine⟨by simp[F],?_⟩
     refine Dq 12 true ?_
     simp[F]
     refine Dq 13 true ?_
     simp[F]
     refine Dq 14 true ?_
     simp[F]
     refine Dq 15 true ?_
     simp[F]
     refine Dq 16 true ?_
     simp[F]
     refine Dq 17 true ?_
     simp[F]
     refine Dd ?_
     rw[aG]
     exact leaf _ _ ga gb gc hga hgb hgc (by simp[F]) rfl (by simp[S]) (by intro x y hx;simp only[B,aA] at hx ⊢;grind)
    ·simp[F]
     refine Dw 8 13 true true ?_ ?_
     ·simp[F]
      refine⟨by omega,by unfold maxLen;omega,?_⟩
      intro gb hgb
      intros
      have F:=an (ad (ad (ad (ad F (show ¬gb=gr by assumption)) (show ¬gb=gp by assumption)) (show ¬gb=ga by assumption)) (show ¬gb=gc by assumption)) (show bl gb=none by assumption)
      refine Dq 13 true ?_
      simp[F]
      refine Dq 14 true ?_
      simp[F]
      refine Dq 15 true ?_
      simp[F]
      refine Dq 16 true ?_
      simp[F]
      refine Dq 17 true ?_
      simp[F]
      refine Dd ?_
      rw[aG]
      exact leaf _ _ ga gb gc hga hgb hgc (by simp[F]) rfl (by simp[S]) (by intro x y hx;simp only[B,aA] at hx ⊢;grind)
     ·simp[F]
      refine Dq 8 true ?_
      simp[F]
      refine⟨by omega,by unfold maxLen;omega,?_⟩
      intro gb hgb
      intros
      have F:=an (ad (ad (ad (ad F (show ¬gb=gr by assumption)) (show ¬gb=gp by assumption)) (show ¬gb=ga by assumption)) (show ¬gb=gc by assumption)) (show bl gb=none by assumption)
      refine Dq 14 true ?_
      simp[F]
      refine Dq 15 true ?_
      simp[F]
      refine Dq 16 true ?_
      simp[F]
      refine Dq 17 true ?_
      simp[F]
      refine Dd ?_
      rw[aG]
      exact leaf _ _ ga gb gc hga hgb hgc (by simp[F]) rfl (by simp[S]) (by intro x y hx;simp only[B,aA] at hx ⊢;grind)
   ·simp[F]
    refine xK (i:=8) (j:=11) (m:=13) true true true (by kernel_rfl) rfl rfl (by kernel_rfl) rfl rfl (by kernel_rfl) rfl rfl (by kernel_rfl) ?_ ?_ ?_
    ·simp[F]
     refine⟨by omega,by unfold maxLen;omega,?_⟩
     intro gb hgb
     intros
     have F:=an (ad (ad (ad F (show ¬gb=gr by assumption)) (show ¬gb=gp by assumption)) (show ¬gb=ga by assumption)) (show bl gb=none by assumption)
     refine Dw 11 13 true true ?_ ?_
     ·simp[F]
      refine⟨by omega,by unfold maxLen;omega,?_⟩
      intro gc hgc
      intros
      have F:=an (ad (ad (ad (ad F (show ¬gc=gr by assumption)) (show ¬gc=gp by assumption)) (show ¬gc=ga by assumption)) (show ¬gc=gb by assumption)) (show bl gc=none by assumption)
      refine Dq 13 true ?_
      simp[F]
      refine Dq 14 true ?_
      simp[F]
      refine Dq 15 true ?_
      simp[F]
      refine Dq 16 true ?_
      simp[F]
      refine Dq 17 true ?_
      simp[F]
      refine Dd ?_
      rw[aG]
      exact leaf _ _ ga gb gc hga hgb hgc (by simp[F]) rfl (by simp[S]) (by intro x y hx;simp only[B,aA] at hx ⊢;grind)
     ·simp[F]
      refine Dw 11 14 true true ?_ ?_
      ·simp[F]
       refine⟨by omega,by unfold maxLen;omega,?_⟩
       intro gc hgc
       intros
       have F:=an (ad (ad (ad (ad F (show ¬gc=gr by assumption)) (show ¬gc=gp by assumption)) (show ¬gc=ga by assumption)) (show ¬gc=gb by assumption)) (show bl gc=none by assumption)
       refine Dq 14 true ?_
       simp[F]
       refine Dq 15 true ?_
       simp[F]
       refine Dq 16 true ?_
       simp[F]
       refine Dq 17 true ?_
       simp[F]
       refine Dd ?_
       rw[aG]
       exact leaf _ _ ga gb gc hga hgb hgc (by simp[F]) rfl (by simp[S]) (by intro x y hx;simp only[B,aA] at hx ⊢;grind)
      ·simp[F]
       refine Dw 11 15 true true ?_ ?_
       ·simp[F]
        refine⟨by omega,by unfold maxLen;omega,?_⟩
        intro gc hgc
        intros
        have F:=an (ad (ad (ad (ad F (show ¬gc=gr by assumption)) (show ¬gc=gp by assumption)) (show ¬gc=ga by assumption)) (show ¬gc=gb by assumption)) (show bl gc=none by assumption)
        refine Dq 15 true ?_
        simp[F]
        refine Dq 16 true ?_
        simp[F]
        refine Dq 17 true ?_
        simp[F]
        refine Dd ?_
        rw[aG]
        exact leaf _ _ ga gb gc hga hgb hgc (by simp[F]) rfl (by simp[S]) (by intro x y hx;simp only[B,aA] at hx ⊢;grind)
       ·simp[F]
        refine Dq 11 true ?_
        simp[F]
        refine⟨by omega,by unfold maxLen;omega,?_⟩
        intro gc hgc
        intros
        have F:=an (ad (ad (ad (ad F (show ¬gc=gr by assumption)) (show ¬gc=gp by assumption)) (show ¬gc=ga by assumption)) (show ¬gc=gb by assumption)) (show bl gc=none by assumption)
        refine Dq 16 true ?_
        simp[F]
        refine Dq 17 true ?_
        simp[F]
        refine Dd ?_
        rw[aG]
        exact leaf _ _ ga gb gc hga hgb hgc (by simp[F]) rfl (by simp[S]) (by intro x y hx;simp only[B,aA] at hx ⊢;grind)
    ·simp[F]
     refine⟨by omega,by unfold maxLen;omega,?_⟩
     intro gc hgc
     intros
     have F:=an (ad (ad (ad F (show ¬gc=gr by assumption)) (show ¬gc=gp by assumption)) (show ¬gc=ga by assumption)) (show bl gc=none by assumption)
     refine Dw 8 13 true true ?_ ?_
     ·simp[F]
      refine⟨by omega,by unfold maxLen;omega,?_⟩
      intro gb hgb
      intros
      have F:=an (ad (ad (ad (ad F (show ¬gb=gr by assumption)) (show ¬gb=gp by assumption)) (show ¬gb=ga by assumption)) (show ¬gb=gc by assumption)) (show bl gb=none by assumption)
      refine Dq 13 true ?_
      simp[F]
      refine Dq 14 true ?_
      simp[F]
      refine Dq 15 true ?_
      simp[F]
      refine Dq 16 true ?_
      simp[F]
      refine Dq 17 true ?_
      simp[F]
      refine Dd ?_
      rw[aG]
      exact leaf _ _ ga gb gc hga hgb hgc (by simp[F]) rfl (by simp[S]) (by intro x y hx;simp only[B,aA] at hx ⊢;grind)
     ·simp[F]
      refine Dq 8 true ?_
      simp[F]
      refine⟨by omega,by unfold maxLen;omega,?_⟩
      intro gb hgb
      intros
      have F:=an (ad (ad (ad (ad F (show ¬gb=gr by assumption)) (show ¬gb=gp by assumption)) (show ¬gb=ga by assumption)) (show ¬gb=gc by assumption)) (show bl gb=none by assumption)
      refine Dq 14 true ?_
      simp[F]
      refine Dq 15 true ?_
      simp[F]
      refine Dq 16 true ?_
      simp[F]
      refine Dq 17 true ?_
      simp[F]
      refine Dd ?_
      rw[aG]
      exact leaf _ _ ga gb gc hga hgb hgc (by simp[F]) rfl (by simp[S]) (by intro x y hx;simp only[B,aA] at hx ⊢;grind)
    ·simp[F]
     refine Dw 8 11 true true ?_ ?_
     ·simp[F]
      refine⟨by omega,by unfold maxLen;omega,?_⟩
      intro gb hgb
      intros
      have F:=an (ad (ad (ad F (show ¬gb=gr by assumption)) (show ¬gb=gp by assumption)) (show ¬gb=ga by assumption)) (show bl gb=none by assumption)
      refine Dw 11 14 true true ?_ ?_
      ·simp[F]
       refine⟨by omega,by unfold maxLen;omega,?_⟩
       intro gc hgc
       intros
       have F:=an (ad (ad (ad (ad F (show ¬gc=gr by assumption)) (show ¬gc=gp by assumption)) (show ¬gc=ga by assumption)) (show ¬gc=gb by assumption)) (show bl gc=none by assumption)
       refine Dq 14 true ?_
       simp[F]
       refine Dq 15 true ?_
       simp[F]
       refine Dq 16 true ?_
       simp[F]
       refine Dq 17 true ?_
       simp[F]
       refine Dd ?_
       rw[aG]
       exact leaf _ _ ga gb gc hga hgb hgc (by simp[F]) rfl (by simp[S]) (by intro x y hx;simp only[B,aA] at hx ⊢;grind)
      ·simp[F]
       refine Dw 11 15 true true ?_ ?_
       ·simp[F]
        refine⟨by omega,by unfold maxLen;omega,?_⟩
        intro gc hgc
        intros
        have F:=an (ad (ad (ad (ad F (show ¬gc=gr by assumption)) (show ¬gc=gp by assumption)) (show ¬gc=ga by assumption)) (show ¬gc=gb by assumption)) (show bl gc=none by assumption)
        refine Dq 15 true ?_
        simp[F]
        refine Dq 16 true ?_
        simp[F]
        refine Dq 17 true ?_
        simp[F]
        refine Dd ?_
        rw[aG]
        exact leaf _ _ ga gb gc hga hgb hgc (by simp[F]) rfl (by simp[S]) (by intro x y hx;simp only[B,aA] at hx ⊢;grind)
       ·simp[F]
        refine Dq 11 true ?_
        simp[F]
        refine⟨by omega,by unfold maxLen;omega,?_⟩
        intro gc hgc
        intros
        have F:=an (ad (ad (ad (ad F (show ¬gc=gr by assumption)) (show ¬gc=gp by assumption)) (show ¬gc=ga by assumption)) (show ¬gc=gb by assumption)) (show bl gc=none by assumption)
        refine Dq 16 true ?_
        simp[F]
        refine Dq 17 true ?_
        simp[F]
        refine Dd ?_
        rw[aG]
        exact leaf _ _ ga gb gc hga hgb hgc (by simp[F]) rfl (by simp[S]) (by intro x y hx;simp only[B,aA] at hx ⊢;grind)
     ·simp[F]
      refine⟨by omega,by unfold maxLen;omega,?_⟩
      intro gc hgc
      intros
      have F:=an (ad (ad (ad F (show ¬gc=gr by assumption)) (show ¬gc=gp by assumption)) (show ¬gc=ga by assumption)) (show bl gc=none by assumption)
      refine Dq 8 true ?_
      simp[F]
      refine⟨by omega,by unfold maxLen;omega,?_⟩
      intro gb hgb
      intros
      have F:=an (ad (ad (ad (ad F (show ¬gb=gr by assumption)) (show ¬gb=gp by assumption)) (show ¬gb=ga by assumption)) (show ¬gb=gc by assumption)) (show bl gb=none by assumption)
      refine Dq 14 true ?_
      simp[F]
      refine Dq 15 true ?_
      simp[F]
      refine Dq 16 true ?_
      simp[F]
      refine Dq 17 true ?_
      simp[F]
      refine Dd ?_
      rw[aG]
      exact leaf _ _ ga gb gc hga hgb hgc (by simp[F]) rfl (by simp[S]) (by intro x y hx;simp only[B,aA] at hx ⊢;grind)
  ·simp[F]
   refine⟨by omega,by unfold maxLen;omega,?_⟩
   intro gb hgb
   intros
   have F:=an (ad (ad F (show ¬gb=gr by assumption)) (show ¬gb=gp by assumption)) (show bl gb=none by assumption)
   refine⟨by simp[F],?_⟩
   refine Dw 5 11 false false ?_ ?_
   ·simp[F]
    refine⟨by omega,by unfold maxLen;omega,?_⟩
    intro ga hga
    intros
    have F:=an (ad (ad (ad F (show ¬ga=gr by assumption)) (show ¬ga=gp by assumption)) (show ¬ga=gb by assumption)) (show bl ga=none by assumption)
    refine⟨by simp[F],?_⟩
    refine Dw 11 12 false true ?_ ?_
    ·simp[F]
     refine⟨by omega,by unfold maxLen;omega,?_⟩
     intro gc hgc
     intros
     have F:=an (ad (ad (ad (ad F (show ¬gc=gr by assumption)) (show ¬gc=gp by assumption)) (show ¬gc=gb by assumption)) (show ¬gc=ga by assumption)) (show bl gc=none by assumption)
     refine⟨by simp[F],?_⟩
     refine Dq 12 true ?_
     simp[F]
     refine Dq 13 true ?_
     simp[F]
     refine Dq 14 true ?_
     simp[F]
     refine Dq 15 true ?_
     simp[F]
     refine Dq 16 true ?_
     simp[F]
     refine Dq 17 true ?_
     simp[F]
     refine Dd ?_
     rw[aG]
     exact leaf _ _ ga gb gc hga hgb hgc (by simp[F]) rfl (by simp[S]) (by intro x y hx;simp only[B,aA] at hx ⊢;grind)
    ·simp[F]
     refine Dw 11 13 true true ?_ ?_
     ·simp[F]
      refine⟨by omega,by unfold maxLen;omega,?_⟩
      intro gc hgc
      intros
      have F:=an (ad (ad (ad (ad F (show ¬gc=gr by assumption)) (show ¬gc=gp by assumption)) (show ¬gc=gb by assumption)) (show ¬gc=ga by assumption)) (show bl gc=none by assumption)
      refine Dq 13 true ?_
      simp[F]
      refine Dq 14 true ?_
      simp[F]
      refine Dq 15 true ?_
      simp[F]
      refine Dq 16 true ?_
      simp[F]
      refine Dq 17 true ?_
      simp[F]
      refine Dd ?_
      rw[aG]
      exact leaf _ _ ga gb gc hga hgb hgc (by simp[F]) rfl (by simp[S]) (by intro x y hx;simp only[B,aA] at hx ⊢;grind)
     ·simp[F]
      refine Dw 11 14 true true ?_ ?_
      ·simp[F]
       refine⟨by omega,by unfold maxLen;omega,?_⟩
       intro gc hgc
       intros
       have F:=an (ad (ad (ad (ad F (show ¬gc=gr by assumption)) (show ¬gc=gp by assumption)) (show ¬gc=gb by assumption)) (show ¬gc=ga by assumption)) (show bl gc=none by assumption)
       refine Dq 14 true ?_
       simp[F]
       refine Dq 15 true ?_
       simp[F]
       refine Dq 16 true ?_
       simp[F]
       refine Dq 17 true ?_
       simp[F]
       refine Dd ?_
       rw[aG]
       exact leaf _ _ ga gb gc hga hgb hgc (by simp[F]) rfl (by simp[S]) (by intro x y hx;simp only[B,aA] at hx ⊢;grind)
      ·simp[F]
       refine Dw 11 15 true true ?_ ?_
       ·simp[F]
        refine⟨by omega,by unfold maxLen;omega,?_⟩
        intro gc hgc
        intros
        have F:=an (ad (ad (ad (ad F (show ¬gc=gr by assumption)) (show ¬gc=gp by assumption)) (show ¬gc=gb by assumption)) (show ¬gc=ga by assumption)) (show bl gc=none by assumption)
        refine Dq 15 true ?_
        simp[F]
        refine Dq 16 true ?_
        simp[F]
        refine Dq 17 true ?_
        simp[F]
        refine Dd ?_
        rw[aG]
        exact leaf _ _ ga gb gc hga hgb hgc (by simp[F]) rfl (by simp[S]) (by intro x y hx;simp only[B,aA] at hx ⊢;grind)
       ·simp[F]
        refine Dq 11 true ?_
        simp[F]
        refine⟨by omega,by unfold maxLen;omega,?_⟩
        intro gc hgc
        intros
        have F:=an (ad (ad (ad (ad F (show ¬gc=gr by assumption)) (show ¬gc=gp by assumption)) (show ¬gc=gb by assumption)) (show ¬gc=ga by assumption)) (show bl gc=none by assumption)
        refine Dq 16 true ?_
        simp[F]
        refine Dq 17 true ?_
        simp[F]
        refine Dd ?_
        rw[aG]
        exact leaf _ _ ga gb gc hga hgb hgc (by simp[F]) rfl (by simp[S]) (by intro x y hx;simp only[B,aA] at hx ⊢;grind)
   ·simp[F]
    refine⟨by omega,by unfold maxLen;omega,?_⟩
    intro gc hgc
    intros
    have F:=an (ad (ad (ad F (show ¬gc=gr by assumption)) (show ¬gc=gp by assumption)) (show ¬gc=gb by assumption)) (show bl gc=none by assumption)
    refine⟨by simp[F],?_⟩
    refine Dq 5 false ?_
    simp[F]
    refine⟨by omega,by unfold maxLen;omega,?_⟩
    intro ga hga
    intros
    have F:=an (ad (ad (ad (ad F (show ¬ga=gr by assumption)) (show ¬ga=gp by assumption)) (show ¬ga=gb by assumption)) (show ¬ga=gc by assumption)) (show bl ga=none by assumption)
    refine⟨by simp[F],?_⟩
    refine Dq 12 true ?_
    simp[F]
    refine Dq 13 true ?_
    simp[F]
    refine Dq 14 true ?_
    simp[F]
    refine Dq 15 true ?_
    simp[F]
    refine Dq 16 true ?_
    simp[F]
    refine Dq 17 true ?_
    simp[F]
    refine Dd ?_
    rw[aG]
    exact leaf _ _ ga gb gc hga hgb hgc (by simp[F]) rfl (by simp[S]) (by intro x y hx;simp only[B,aA] at hx ⊢;grind)
  ·simp[F]
   refine⟨by omega,by unfold maxLen;omega,?_⟩
   intro gc hgc
   intros
   have F:=an (ad (ad F (show ¬gc=gr by assumption)) (show ¬gc=gp by assumption)) (show bl gc=none by assumption)
   refine⟨by simp[F],?_⟩
   refine Dw 5 8 false false ?_ ?_
   ·simp[F]
    refine⟨by omega,by unfold maxLen;omega,?_⟩
    intro ga hga
    intros
    have F:=an (ad (ad (ad F (show ¬ga=gr by assumption)) (show ¬ga=gp by assumption)) (show ¬ga=gc by assumption)) (show bl ga=none by assumption)
    refine⟨by simp[F],?_⟩
    refine Dw 8 12 false true ?_ ?_
    ·simp[F]
     refine⟨by omega,by unfold maxLen;omega,?_⟩
     intro gb hgb
     intros
     have F:=an (ad (ad (ad (ad F (show ¬gb=gr by assumption)) (show ¬gb=gp by assumption)) (show ¬gb=gc by assumption)) (show ¬gb=ga by assumption)) (show bl gb=none by assumption)
     refine⟨by simp[F],?_⟩
     refine Dq 12 true ?_
     simp[F]
     refine Dq 13 true ?_
     simp[F]
     refine Dq 14 true ?_
     simp[F]
     refine Dq 15 true ?_
     simp[F]
     refine Dq 16 true ?_
     simp[F]
     refine Dq 17 true ?_
     simp[F]
     refine Dd ?_
     rw[aG]
     exact leaf _ _ ga gb gc hga hgb hgc (by simp[F]) rfl (by simp[S]) (by intro x y hx;simp only[B,aA] at hx ⊢;grind)
    ·simp[F]
     refine Dw 8 13 true true ?_ ?_
     ·simp[F]
      refine⟨by omega,by unfold maxLen;omega,?_⟩
      intro gb hgb
      intros
      have F:=an (ad (ad (ad (ad F (show ¬gb=gr by assumption)) (show ¬gb=gp by assumption)) (show ¬gb=gc by assumption)) (show ¬gb=ga by assumption)) (show bl gb=none by assumption)
      refine Dq 13 true ?_
      simp[F]
      refine Dq 14 true ?_
      simp[F]
      refine Dq 15 true ?_
      simp[F]
      refine Dq 16 true ?_
      simp[F]
      refine Dq 17 true ?_
      simp[F]
      refine Dd ?_
      rw[aG]
      exact leaf _ _ ga gb gc hga hgb hgc (by simp[F]) rfl (by simp[S]) (by intro x y hx;simp only[B,aA] at hx ⊢;grind)
     ·simp[F]
      refine Dq 8 true ?_
      simp[F]
      refine⟨by omega,by unfold maxLen;omega,?_⟩
      intro gb hgb
      intros
      have F:=an (ad (ad (ad (ad F (show ¬gb=gr by assumption)) (show ¬gb=gp by assumption)) (show ¬gb=gc by assumption)) (show ¬gb=ga by assumption)) (show bl gb=none by assumption)
      refine Dq 14 true ?_
      simp[F]
      refine Dq 15 true ?_
      simp[F]
      refine Dq 16 true ?_
      simp[F]
      refine Dq 17 true ?_
      simp[F]
      refine Dd ?_
      rw[aG]
      exact leaf _ _ ga gb gc hga hgb hgc (by simp[F]) rfl (by simp[S]) (by intro x y hx;simp only[B,aA] at hx ⊢;grind)
   ·simp[F]
    refine⟨by omega,by unfold maxLen;omega,?_⟩
    intro gb hgb
    intros
    have F:=an (ad (ad (ad F (show ¬gb=gr by assumption)) (show ¬gb=gp by assumption)) (show ¬gb=gc by assumption)) (show bl gb=none by assumption)
    refine⟨by simp[F],?_⟩
    refine Dq 5 false ?_
    simp[F]
    refine⟨by omega,by unfold maxLen;omega,?_⟩
    intro ga hga
    intros
    have F:=an (ad (ad (ad (ad F (show ¬ga=gr by assumption)) (show ¬ga=gp by assumption)) (show ¬ga=gc by assumption)) (show ¬ga=gb by assumption)) (show bl ga=none by assumption)
    refine⟨by simp[F],?_⟩
    refine Dq 12 true ?_
    simp[F]
    refine Dq 13 true ?_
    simp[F]
    refine Dq 14 true ?_
    simp[F]
    refine Dq 15 true ?_
    simp[F]
    refine Dq 16 true ?_
    simp[F]
    refine Dq 17 true ?_
    simp[F]
    refine Dd ?_
    rw[aG]
    exact leaf _ _ ga gb gc hga hgb hgc (by simp[F]) rfl (by simp[S]) (by intro x y hx;simp only[B,aA] at hx ⊢;grind)
 rintro⟨ga,gb,gc⟩ ⟨a0,b0,c0,ba,ca,cb,ar,ap,br,bp,cr,cp,fa,fb,fc⟩
 simp only at a0 b0 c0 ba ca cb ar ap br bp cr cp fa fb fc
 simp only[S,B]
 clear leaf S B
 obtain⟨BB,hBB⟩: ∃BB:List (List V)→List (List V)→Int→Option Blk,BB=fun ea eb=>upd (upd (upd (upd (upd bl gr (some ⟨5,[[.int .i64 0,.int .i64 0,.nils,.nils,.nils]]⟩)) gp (some ⟨5,[[.int .i64 (nR s),.int .i64 (nC s),.lsl ga 1 0 nA,.lsl gb 1 0 (nR s),.lsl gc 1 0 (nC s)]]⟩)) ga (some ⟨1,ea⟩)) gb (some ⟨1,eb⟩)) gc (some ⟨1,List.replicate (nC s) [.int .i64 0]⟩):=⟨_,rfl⟩
 have hBr: ∀ea eb,BB ea eb gr=some ⟨5,[[.int .i64 0,.int .i64 0,.nils,.nils,.nils]]⟩:=fun ea eb=>by rw[hBB];simp[hpr,Ne.symm hpr,ar,br,cr,Ne.symm ar,Ne.symm br,Ne.symm cr]
 have hBp: ∀ea eb,BB ea eb gp=some ⟨5,[[.int .i64 (nR s),.int .i64 (nC s),.lsl ga 1 0 nA,.lsl gb 1 0 (nR s),.lsl gc 1 0 (nC s)]]⟩:=fun ea eb=>by rw[hBB];simp[ap,bp,cp,Ne.symm ap,Ne.symm bp,Ne.symm cp]
 have hBa: ∀ea eb,BB ea eb ga=some ⟨1,ea⟩:=fun ea eb=>by rw[hBB];simp[ba,ca,Ne.symm ba,Ne.symm ca]
 have hBb: ∀ea eb,BB ea eb gb=some ⟨1,eb⟩:=fun ea eb=>by rw[hBB];simp[cb,Ne.symm cb]
 have hBc: ∀ea eb,BB ea eb gc=some ⟨1,List.replicate (nC s) [.int .i64 0]⟩:=fun ea eb=>by rw[hBB];simp
 have hBs: ∀ea eb,Sub bl (BB ea eb):=fun ea eb=>by rw[hBB];simp[hbr,hbp,fa,fb,fc]
 have aBW: ∀ea eb e,upd (BB ea eb) ga (some ⟨1,e⟩)=BB e eb:=fun ea eb e=>by
  rw[hBB];funext x;simp only[aA];grind
 have aES: ∀ea eb e,upd (BB ea eb) gb (some ⟨1,e⟩)=BB ea e:=fun ea eb e=>by
  rw[hBB];funext x;simp only[aA];grind
 have hB0:upd (upd (upd (upd (upd bl gr (some ⟨5,[[.int .i64 0,.int .i64 0,.nils,.nils,.nils]]⟩)) gp (some ⟨5,[[.int .i64 (nR s),.int .i64 (nC s),.lsl ga 1 0 nA,.lsl gb 1 0 (nR s),.lsl gc 1 0 (nC s)]]⟩)) ga (some ⟨1,List.replicate nA [.int .i64 0]⟩)) gb (some ⟨1,List.replicate (nR s) [.int .i64 0]⟩)) gc (some ⟨1,List.replicate (nC s) [.int .i64 0]⟩)=BB (part (iv (aTo s nA)) [.int .i64 0] 0) (part (iv (right s l)) [.int .i64 0] 0):=by
  rw[hBB];simp[fD]
 rw[hB0]
 clear hB0 hBB
 refine aC ?_
 simp[er]
 refine aK (fun i:Nat=> [(0,.ptr s.c),(1,.sl (iv l)),(8,.loc gr 5 0 0),(10,.sl (cv (bE s.ms))),(11,.loc gp 5 0 0),(46,.sl (ivv (eC s))),(47,.int .i64 (nR s)),(48,.int .i64 i)]) (fun i=>BB (part (iv (aTo s nA)) [.int .i64 0] (i*nC s)) (part (iv (right s l)) [.int .i64 0] 0)) (fun i=>i≤nR s) (fun i=>nR s - i) 113 0 (Nat.zero_le _) ⟨rfl,by simp,sub_eq (by simp)⟩ ?_
 intro i hi
 refine aC ?_
 simp
 refine⟨fun h=> ?_,fun h=> ?_⟩
 ·have hie:i<(eC s).length:=by omega
  simp[hie]
  obtain⟨row,Lr⟩: ∃r,(eC s)[i]=r:=⟨_,rfl⟩
  have aOU:row.length=s.ms.length:=jL s row (Lr▸List.getElem_mem hie)
  rw[Lr]
  refine aK (fun c:Nat=> [(0,.ptr s.c),(1,.sl (iv l)),(8,.loc gr 5 0 0),(10,.sl (cv (bE s.ms))),(11,.loc gp 5 0 0),(12,.int .i64 i),(13,.sl (iv row)),(46,.sl (ivv (eC s))),(47,.int .i64 (nR s)),(48,.int .i64 i),(53,.sl (cv (bE s.ms))),(54,.int .i64 (nC s)),(55,.int .i64 c)]) (fun c=>BB (part (iv (aTo s nA)) [.int .i64 0] (i*nC s+c)) (part (iv (right s l)) [.int .i64 0] 0)) (fun c=>c≤nC s) (fun c=>nC s - c) 113 0 (Nat.zero_le _) ⟨rfl,by simp[ec],sub_eq (by simp)⟩ ?_
  intro c hc
  refine aC ?_
  simp
  refine⟨fun hcl=> ?_,fun hcl=> ?_⟩
  ·have hcc:c<(bE s.ms).length:=hcl
   obtain⟨⟨k0,k1⟩,k2⟩:=mY s c hcl
   have qc:(cv (bE s.ms))[c]? =some [.int .i64 (bV s c).1,.int .i64 (bV s c).2]:=by simp[cv,bV,hcc]
   simp[qc]
   intro g1 hg1 hb1
   have n1p:g1≠gp:=fun e=>by rw[e,hBp] at hb1;cases hb1
   have n1a:g1≠ga:=fun e=>by rw[e,hBa] at hb1;cases hb1
   have f1:=cP (hBs _ _) hb1
   obtain⟨⟨k,sg⟩,hk⟩: ∃k,bV s c=k:=⟨_,rfl⟩
   rw[hk] at k0 k1 k2 ⊢
   simp only at k0 k1 k2 ⊢
   have en:ent s i c=sg*lat row k.toNat:=by
    unfold ent
    rw[hk,pM,qX _ (jL s) i k.toNat hie (by omega),Lr]
   have bd: -100≤lat row k.toNat∧lat row k.toNat≤100:=by
    rw[←Lr,←qX _ (jL s) i k.toNat hie (by omega),←pM];exact L0 hs _
   have qr:(iv row)[k.toNat]? =some [.int .i64 (lat row k.toNat)]:=wD (by omega)
   have w6:IntKind.i64.wrap (sg*lat row k.toNat)=ent s i c:=by
    rw[en];rcases k2 with rfl | rfl<;>exact i64_in (by omega) (by omega)
   have mc:(i+1)*nC s≤nA:=by rw[hA];exact Nat.mul_le_mul_right _ h
   rw[Nat.add_mul] at mc
   have mi:((i*nC s:Nat):Int)=(i:Int)*nC s:=by simp
   have w4:IntKind.i64.wrap ((i:Int)*nC s)=(i:Int)*nC s:=i64_in (by omega) (by omega)
   have w5:IntKind.i64.wrap ((i:Int)*nC s+c)=(i:Int)*nC s+c:=i64_in (by omega) (by omega)
   have w7:IntKind.i64.wrap ((c:Int)+1)=c+1:=i64_in (by omega) (by omega)
   have e1:((i:Int)*nC s+c).toNat=i*nC s+c:=by omega
   have p1:0≤(i:Int)*nC s+c:=by omega
   have p2:(i:Int)*nC s+c<nA:=by omega
   have p3:k<row.length:=by omega
   have hlt:i*nC s+c<(iv (aTo s nA)).length:=by simp;omega
   have ps:=cE (iv (aTo s nA)) [.int .i64 0] (i*nC s+c) hlt [.int .i64 (ent s i c)] (by
    rw[Sy s nA _ (by omega),Nat.mul_comm i,Nat.mul_add_div (by omega),Nat.mul_add_mod,Nat.div_eq_of_lt hcl,Nat.mod_eq_of_lt hcl,Nat.add_zero])
   have hK:Sub (upd (upd bl gp (some ⟨5,[[.int .i64 (nR s),.int .i64 (nC s),.lsl ga 1 0 nA,.lsl gb 1 0 (nR s),.lsl gc 1 0 (nC s)]]⟩)) g1 (some ⟨2,[[.int .i64 k,.int .i64 sg]]⟩)) (upd (BB (part (iv (aTo s nA)) [.int .i64 0] (i*nC s+c)) (List.replicate (right s l).length [.int .i64 0])) g1 (some ⟨2,[[.int .i64 k,.int .i64 sg]]⟩)):=by
    refine M7 fun x y hx=> ?_
    rw[aA] at hx
    split at hx
    ·rename_i e;rw[e,hBp];exact hx
    ·exact hBs _ _ x y hx
   have hkr:k.toNat<row.length:=by omega
   have er2:row[k.toNat]'hkr=lat row k.toNat:=by simp[lat,hkr]
   refine bY aQ _ hK [0,1,2,3,4,5,6,7,8,9,10,11,12,13,14,15,16] 1 (by kernel_rfl) ?_
   simp[-cH,n1p,Ne.symm n1p,w4,w5,w6,qr,k0,p1,p2,p3,er2]
   refine Dz 17 ?_
   have pg:=eI (iv (aTo s nA)) [.int .i64 0] (i*nC s+c) hlt
   simp[n1a,Ne.symm n1a,hBa,e1,pg,ps,er2,w6]
   have hK2: ∀z,Sub (upd (upd bl gp (some ⟨5,[[.int .i64 (nR s),.int .i64 (nC s),.lsl ga 1 0 nA,.lsl gb 1 0 (nR s),.lsl gc 1 0 (nC s)]]⟩)) g1 (some ⟨2,[[.int .i64 k,.int .i64 sg]]⟩)) (upd (upd (BB (part (iv (aTo s nA)) [.int .i64 0] (i*nC s+c)) (List.replicate (right s l).length [.int .i64 0])) g1 (some ⟨2,[[.int .i64 k,.int .i64 sg]]⟩)) ga z):=by
    intro z x y hx
    have hxa:x≠ga:=fun e=>by
     rw[e,aA,if_neg (Ne.symm n1a),aA,if_neg ap,fa] at hx;cases hx
    rw[aA,if_neg hxa]
    exact hK x y hx
   refine⟨hK2 _,Dy ?_⟩
   simp[w7,aB]
   refine⟨c+1,by omega,by omega,rfl,by simp,?_⟩
   intro x y hx
   show upd (upd (BB _ _) g1 _) ga _ x=some y
   rw[aA,aA]
   split
   ·rename_i e;rw[e,hBa] at hx;exact hx
   ·rename_i e
    rw[if_neg (fun e=>by rw[e] at hx;rw[←aBW (part (iv (aTo s nA)) [.int .i64 0] (i*nC s+c)),aA,if_neg n1a,hb1] at hx;cases hx)]
    rw[←aBW (part (iv (aTo s nA)) [.int .i64 0] (i*nC s+c)),aA,if_neg e] at hx
    exact hx
  ·have:c=nC s:=by omega
   subst this
   have w7:IntKind.i64.wrap ((i:Int)+1)=i+1:=i64_in (by omega) (by omega)
   simp[w7,aB]
   exact⟨i+1,by omega,by omega,rfl,by simp,sub_eq (by rw[Nat.add_mul,Nat.one_mul])⟩
 ·have:i=nR s:=by omega
  subst this
  rw[←hA,fL _ _ _ (by simp)]
  refine aD (kC s (by omega)) ?_
  simp
  refine aK (fun i:Nat=> [(1,.sl (iv l)),(8,.loc gr 5 0 0),(11,.loc gp 5 0 0),(80,.sl (iv (aH s.js))),(81,.int .i64 (aH s.js).length),(82,.int .i64 i)]) (fun i=>BB (iv (aTo s nA)) (part (iv (right s l)) [.int .i64 0] (2*i))) (fun i=>i≤(aH s.js).length) (fun i=>(aH s.js).length - i) 113 0 (Nat.zero_le _) ⟨rfl,by simp,sub_eq (by simp)⟩ ?_
  intro i hi
  refine aC ?_
  simp
  refine⟨fun h=> ?_,fun h=> ?_⟩
  ·obtain⟨r1,r2⟩:=J3 (List.getElem_mem h)
   have ra:=xJ s l (aH s.js) i h
   simp[h]
   obtain⟨j,hj⟩: ∃j,(aH s.js)[i]=j:=⟨_,rfl⟩
   rw[hj] at r1 r2 ra ⊢
   change lat (right s l) (2*i)=_∧lat (right s l) (2*i+1)=_ at ra
   have a1:(2*j).toNat<l.length:=by rw[hL.n];omega
   have a2:(2*j+1).toNat<l.length:=by rw[hL.n];omega
   have b1:=hL.f _ a1
   have b2:=hL.f _ a2
   have q1:=wD a1
   have q2:=wD a2
   have w1:IntKind.i64.wrap (2*j)=2*j:=i64_in (by omega) (by omega)
   have w2:IntKind.i64.wrap (2*j+1)=2*j+1:=i64_in (by omega) (by omega)
   have w3:IntKind.i64.wrap (-lat l (2*j).toNat)=lat (right s l) (2*i):=by rw[ra.1];exact i64_in (by omega) (by omega)
   have w4:IntKind.i64.wrap (-lat l (2*j+1).toNat)=lat (right s l) (2*i+1):=by rw[ra.2];exact i64_in (by omega) (by omega)
   have w5:IntKind.i64.wrap ((i:Int)+1)=i+1:=i64_in (by omega) (by omega)
   have w6:IntKind.i64.wrap (2*(i:Int))=2*i:=i64_in (by omega) (by omega)
   have w7:IntKind.i64.wrap (2*(i:Int)+1)=2*i+1:=i64_in (by omega) (by omega)
   have p1:0≤2*j:=by omega
   have p2:0≤2*j+1:=by omega
   have p3:2*(i:Int)<nR s:=by unfold nR;omega
   have p4:2*(i:Int)+1<nR s:=by unfold nR;omega
   have t1:(2*(i:Int)).toNat=2*i:=by omega
   have t2:(2*(i:Int)+1).toNat=2*i+1:=by omega
   have hl1:2*i<(iv (right s l)).length:=by rw[iC,fD];omega
   have hl2:2*i+1<(iv (right s l)).length:=by rw[iC,fD];omega
   have hK:Sub (upd bl gp (some ⟨5,[[.int .i64 (nR s),.int .i64 (nC s),.lsl ga 1 0 nA,.lsl gb 1 0 (nR s),.lsl gc 1 0 (nC s)]]⟩)) (BB (iv (aTo s nA)) (part (iv (right s l)) [.int .i64 0] (2*i))):=by
    intro x y hx
    rw[aA] at hx
    split at hx
    ·rename_i e;rw[e,hBp];exact hx
    ·exact hBs _ _ x y hx
   have hK2: ∀e,Sub (upd bl gp (some ⟨5,[[.int .i64 (nR s),.int .i64 (nC s),.lsl ga 1 0 nA,.lsl gb 1 0 (nR s),.lsl gc 1 0 (nC s)]]⟩)) (BB (iv (aTo s nA)) e):=by
    intro e x y hx
    rw[aA] at hx
    split at hx
    ·rename_i e;rw[e,hBp];exact hx
    ·exact hBs _ _ x y hx
   have g1:=eI (iv (right s l)) [.int .i64 0] (2*i) hl1
   have g2:=eI (iv (right s l)) [.int .i64 0] (2*i+1) hl2
   have s1:=cE (iv (right s l)) [.int .i64 0] (2*i) hl1 [.int .i64 (lat (right s l) (2*i))] (by
    have:=wD (l:=right s l) (i:=2*i) (by simpa using hl1);rw[List.getElem?_eq_getElem hl1] at this;exact(Option.some.inj this).symm)
   have s2:=cE (iv (right s l)) [.int .i64 0] (2*i+1) hl2 [.int .i64 (lat (right s l) (2*i+1))] (by
    have:=wD (l:=right s l) (i:=2*i+1) (by simpa using hl2);rw[List.getElem?_eq_getElem hl2] at this;exact(Option.some.inj this).symm)
   refine bY aQ _ hK [0,1,2,3,4,5,6,7,8,9,10,11,12,13,14,15,16,17,18,19,20,21,22] 3 (by kernel_rfl) ?_
   have p5:0≤2*(i:Int):=by omega
   have p6:0≤2*(i:Int)+1:=by omega
   simp[-cH,w1,w2,w3,w4,w6,w7,q1,q2,p1,p2,p3,p4,p5,p6]
   refine rC (i:=23) (by kernel_rfl) (by rfl) (by rfl) ?_
   simp[hBb,t1,g1,s1,aES]
   refine⟨hK2 _,rC (i:=24) (by kernel_rfl) (by rfl) (by rfl) ?_⟩
   simp[p4,p6]
   refine⟨hK2 _,rC (i:=25) (by kernel_rfl) (by rfl) (by rfl) ?_⟩
   simp[hBb,t2,g2,s2,aES]
   refine⟨hK2 _,Dy ?_⟩
   simp[w5,aB]
   exact⟨i+1,by omega,by omega,rfl,by simp,sub_eq (by rw[Nat.mul_add])⟩
  ·have:i=(aH s.js).length:=by omega
   subst this
   have cO:part (iv (right s l)) [.int .i64 0] (2*(aH s.js).length)=iv (right s l):=by
    have e:(iv (right s l)).length=2*(aH s.js).length:=by rw[iC,fD];rfl
    rw[←e];exact fL _ _ _ (Nat.le_refl _)
   rw[cO]
   simp[hBp,hBr]
   refine eE [.agg [.int .i64 (nR s),.int .i64 (nC s),.lsl ga 1 0 nA,.lsl gb 1 0 (nR s),.lsl gc 1 0 (nC s)]] [ga,gb,gc] (by simp) ?_ (by simp[fa,fb,fc]) ?_
   ·show OwnD _ (.a _) (.agg _) _
    rw[OwnD]
    refine⟨_,rfl,jB (Ai _) (jB (Ai _) (jB (g1:= [ga]) (fZ.2 (.inr ⟨ga,by simp[cI,hA],rfl,?_,by omega⟩)) (jB (g1:= [gb]) (fZ.2 (.inr ⟨gb,by simp[cI,fD],rfl,?_,by omega⟩)) (jB (g1:= [gc]) (fZ.2 (.inr ⟨gc,by simp[cI],rfl,?_,by omega⟩)) Nc (by simp)) (by simp[Ne.symm cb])) (by simp[Ne.symm ba,Ne.symm ca])) (by simp)) (by simp)⟩
    ·simp[ar,hBa,cI,hA]
    ·simp[br,hBb,cI]
    ·simp[cr,hBc,cI,iv]
   ·intro x y hx
    have hxr:x≠gr:=fun e=>by rw[e,hbr] at hx;cases hx
    simp[hxr]
    exact hBs _ _ x y hx

end Go.Proofs.YticmgmemnpcbbaaGreat.Vm

namespace Go.Proofs.YticmgmemnpcbbaaGreat.Vm
open Go Go.Proofs
set_option linter.unusedSimpArgs false
set_option linter.unusedVariables false
def aL5 (row:List Int):List (Option Rat):=row.map fun(n:Int)=>some (n:Rat)
def aM1 (rows:List (List Int)):List (List (Option Rat)):=rows.map aL5
def To (l:List Int):List RT:=l.map fun(n:Int)=>ro (some (n:Rat))
def small (rows:List (List Int)):Prop:= ∀w,w∈rows→ ∀n,n∈w→ -100≤n∧n≤100
def aO5 (s:Str):MX:=if sOk s=true then⟨(eC s).length,s.ms.length,To (lZ s)⟩ else⟨0,0,[]⟩

def r6 (n:Int):Rat:=mkRat n 6
theorem kU {n:Int} (h:n.natAbs≤1000000000):fits (r6 n):=by
 have h1:(r6 n).num.natAbs≤n.natAbs:=by
  unfold r6
  rw[Rat.num_mkRat]
  simp only[show(6:Nat)≠0 by decide,if_false]
  exact Int.natAbs_ediv_le_natAbs _ _
 have h2:(r6 n).den≤6:=by
  unfold r6
  rw[Rat.den_mkRat]
  simp only[show(6:Nat)≠0 by decide,if_false]
  exact Nat.div_le_self _ _
 exact⟨aF.2 (Nat.lt_of_le_of_lt (show(r6 n).num.natAbs≤1000000000 by omega) (by decide+kernel)),aF.2 (Nat.lt_of_le_of_lt h2 (by decide+kernel))⟩
theorem wR (a b:Int):r6 a+r6 b=r6 (a+b):=by
 unfold r6
 rw[Rat.mkRat_add_mkRat _ _ (by decide) (by decide),←Int.add_mul]
 exact Rat.mkRat_mul_right (by decide)
theorem sN (a b:Int):(a:Rat)*r6 b=r6 (a*b):=by
 unfold r6
 rw[show(a:Rat)=mkRat a 1 from(Rat.mkRat_one _).symm,Rat.mkRat_mul_mkRat]
theorem uJ :(0:Rat)=r6 0:=by decide
def q6 (n:Int):Option Rat:=some (r6 n)
theorem tO {n:Int} (h:n.natAbs≤1000000000):okQ (q6 n):=fun q e=>by cases e;exact kU h
theorem R3 {a b:Int} (h:(a+b).natAbs≤1000000000):op2 (· + ·) (q6 a) (q6 b)=q6 (a+b):=by
 show fit (r6 a+r6 b)=some (r6 (a+b))
 rw[wR];unfold fit;rw[if_pos (kU h)]
theorem uD {a b:Int} (h:(a*b).natAbs≤1000000000):op2 (· * ·) (some (a:Rat)) (q6 b)=q6 (a*b):=by
 show fit ((a:Rat)*r6 b)=some (r6 (a*b))
 rw[sN];unfold fit;rw[if_pos (kU h)]
def dotTo (a u:List Int):Nat→Int
 | 0 => 0
 | n + 1 => dotTo a u n + lN a n * lN u n
def aGT (a b:List (Option Rat)):Nat→Option Rat
 | 0 => some 0
 | n + 1 => op2 (· + ·) (aGT a b n) (op2 (· * ·) (a.getD n none) (b.getD n none))

def aLH :Pg:=⟨0,0,[],[],[]⟩
def aPQ (s:Str) (l:List Int):Pg:=if lOk s l=true then cI s l else aLH
def aOC (p q:Pg):Bool:=decide (p.rows=q.rows)&& (decide (p.bE=q.bE)&& (decide (p.a=q.a)&& (decide (p.b=q.b)&& decide (p.c=q.c))))
def mkP (k:Nat) (p:Pg):Pg:=⟨p.rows,p.bE,marks k p.a.length,marks (k+p.a.length:Nat) p.b.length,marks (k+p.a.length+p.b.length:Nat) p.c.length⟩
def aOW (k:Nat) (p:Pg):Nat:=k+p.a.length+p.b.length+p.c.length

theorem Mg (p:Pg):(dPg p).dep 2:=by simp[dPg,D.dep,D.depL,kT]
theorem Vh (p:Pg):(dPg p).fz= .agg p.v:=by simp[dPg,D.fz,D.fzL,Pg.v]

def bv (bs:List Int):List (List V):=bs.map fun b=> [.int .u8 b]
@[simp] theorem Zw (bs : List Int) : (bv bs).length = bs.length := by simp [bv]
theorem Wf (bs:List Int) (i:Nat) (h:i<bs.length):(bv bs)[i]? =some [.int .u8 bs[i]]:=by simp[bv,h]
@[simp] theorem aIV (bs : List Int) (i : Nat) (h : i < (bv bs).length) : (bv bs)[i] = [.int .u8 (bs[i]'(by simpa using h))] := by simp [bv]
def cur (bs:List Int) (i h:Int):Blk:=⟨3,[[.sl (bv bs),.int .i64 i,.int .i64 h]]⟩
def lo8 (a:Int):Int:=IntKind.i64.wrap ((BitVec.ofInt 64 a &&& BitVec.ofInt 64 255).toNat)
theorem Hx (a:Int):0≤lo8 a∧lo8 a≤255:=by
 have h:(BitVec.ofInt 64 a &&& BitVec.ofInt 64 255).toNat≤255:=by
  rw[BitVec.toNat_and]
  exact Nat.le_trans Nat.and_le_right (by decide)
 unfold lo8
 rw[i64_in (by omega) (by omega)]
 omega
@[simp high] theorem H7 (P : Program) (t : TypeId) (a : Int) : binV P .and t (.int .i64 a) (.int .i64 255) = some (.int .i64 (lo8 a)) := rfl
def Cn (a:Int) (n:Nat):Int:=a.fdiv (2^n)
def Us (a b:Int):Int:=IntKind.i64.wrap ((BitVec.ofInt 64 a^^^BitVec.ofInt 64 b).toNat)
@[simp high] theorem Ov (P : Program) (t : TypeId) (a : Int) : binV P .shr t (.int .i64 a) (.int .u64 33) = some (.int .i64 (Cn a 33)) := rfl
@[simp high] theorem Oj (P : Program) (t : TypeId) (a : Int) : binV P .shr t (.int .i64 a) (.int .u64 45) = some (.int .i64 (Cn a 45)) := rfl
@[simp high] theorem Dt (P : Program) (t : TypeId) (a b : Int) : binV P .xor t (.int .i64 a) (.int .i64 b) = some (.int .i64 (Us a b)) := rfl
structure eS (bs : List Int) (i : Int) : Prop where
 n:bs.length≤1048576
 b: ∀x,x∈bs→0≤x∧x<256
 i0:0≤i
 i1:i≤bs.length
theorem vB {bl:Int→Option Blk} {K:V→(Int→Option Blk)→Prop} (bs:List Int) (i h g:Int) (hc:eS bs i) (hb:bl g=some (cur bs i h))
  (hK: ∀(x i' h':Int),0≤x∧x≤255→eS bs i'→K (.int .i64 x) (upd bl g (some (cur bs i' h')))):bJ Tryz.prog 169 [.loc g 3 0 0] bl K:=by
 obtain⟨hn,hbs,h0,h1⟩:=hc
 obtain⟨k,rfl⟩: ∃k:Nat,i=k:=⟨i.toNat,by omega⟩
 refine aZ Tryz.func169 rfl rfl (by rw[Tryz.ntmps169];simp) ?_
 rw[Tryz.ntmps169,Tryz.results169]
 refine aC ?_
 simp[hb,cur]
 generalize IntKind.i64.wrap (IntKind.i64.wrap (h*6364136223846793005)+1442695040888963407)=h2
 refine bQ aQ (by kernel_rfl) ?_
 simp[-binV, -intV,H7,Ov,Oj,Dt]
 obtain⟨x0,hx0⟩: ∃x,x=lo8 (Us (Cn h2 33) (Cn h2 45)):=⟨_,rfl⟩
 have bx:=Hx (Us (Cn h2 33) (Cn h2 45))
 rw[←hx0] at bx ⊢
 clear hx0
 refine bQ aQ (by kernel_rfl) ?_
 simp
 refine⟨fun hlt=> ?_,fun hlt=> ?_⟩
 ·have hk:k<bs.length:=by omega
  have q:=Wf bs k hk
  have w1:IntKind.i64.wrap ((k:Int)+1)=k+1:=i64_in (by omega) (by omega)
  refine bQ aQ (by kernel_rfl) ?_
  simp[hk,q,H7]
  rw[aX]
  refine⟨[_],by simp;rfl,?_⟩
  simp[w1]
  exact hK _ _ _ (Hx _) ⟨hn,hbs,by omega,by omega⟩
 ·rw[aX]
  refine⟨[_],by simp;rfl,?_⟩
  simp
  exact hK _ _ _ bx ⟨hn,hbs,h0,h1⟩
theorem aT {bl:Int→Option Blk} {K:V→(Int→Option Blk)→Prop} (bs:List Int) (i h g n:Int) (hn:1≤n∧n≤256) (hc:eS bs i) (hb:bl g=some (cur bs i h))
  (hK: ∀(x i' h':Int),0≤x∧x<n→eS bs i'→K (.int .i64 x) (upd bl g (some (cur bs i' h')))):bJ Tryz.prog 171 [.loc g 3 0 0,.int .i64 n] bl K:=by
 refine aZ Tryz.func171 rfl rfl (by rw[Tryz.ntmps171];simp) ?_
 rw[Tryz.ntmps171,Tryz.results171]
 refine aC ?_
 simp
 refine⟨fun h1=>by omega,fun h1=>⟨fun h2=> ?_,fun h2=>by omega⟩⟩
 refine vB bs i h g hc hb fun x i' h' hx hc'=> ?_
 have hm:x.tmod n=x % n:=Int.tmod_eq_emod_of_nonneg hx.1
 have m1:=Int.emod_nonneg x (show n≠0 by omega)
 have m2:=Int.emod_lt_of_pos x (show 0<n by omega)
 have n0: ¬ n=0:=by omega
 simp[n0]
 rw[aX]
 refine⟨[_],by simp;rfl,?_⟩
 simp
 rw[hm]
 exact hK _ _ _ ⟨m1,m2⟩ hc'
theorem pK {bl:Int→Option Blk} {K:V→(Int→Option Blk)→Prop} (bs:List Int) (i h g n:Int) (hn:1≤n∧n≤256) (hc:eS bs i) (hb:bl g=some (cur bs i h))
  (hK: ∀(x:Bool) (i' h':Int),eS bs i'→K (.bool x) (upd bl g (some (cur bs i' h')))):bJ Tryz.prog 179 [.loc g 3 0 0,.int .i64 n] bl K:=by
 refine aZ Tryz.func179 rfl rfl (by rw[Tryz.ntmps179];simp) ?_
 rw[Tryz.ntmps179,Tryz.results179]
 refine aC ?_
 simp
 refine aT bs i h g n hn hc hb fun x i' h' hx hc'=> ?_
 simp
 rw[aX]
 refine⟨[_],by simp;rfl,?_⟩
 exact hK _ _ _ hc'
theorem lO {bl:Int→Option Blk} {K:V→(Int→Option Blk)→Prop} (bs:List Int) (i h g g2:Int) (xs:List Int) (hn:1≤xs.length∧xs.length≤256) (hc:eS bs i) (hb:bl g=some (cur bs i h)) (h2:bl g2=some ⟨1,iv xs⟩) (hne:g2≠g) (h0:0≤g2)
  (hK: ∀(x i' h':Int),x∈xs→eS bs i'→K (.int .i64 x) (upd bl g (some (cur bs i' h')))):bJ Tryz.prog 172 [.loc g 3 0 0,.lsl g2 1 0 xs.length] bl K:=by
 refine aZ Tryz.func172 rfl rfl (by rw[Tryz.ntmps172];simp) ?_
 rw[Tryz.ntmps172,Tryz.results172]
 refine aC ?_
 simp
 refine aT bs i h g xs.length (by omega) hc hb fun x i' h' hx hc'=> ?_
 obtain⟨m,rfl⟩: ∃m:Nat,x=m:=⟨x.toNat,by omega⟩
 have hm:m<xs.length:=by omega
 simp[hm,hne,h2]
 rw[aX]
 refine⟨[_],by simp;rfl,?_⟩
 exact hK _ _ _ (List.getElem_mem hm) hc'

def msk (a b:Int):Int:=IntKind.i64.wrap ((BitVec.ofInt 64 a &&& BitVec.ofInt 64 b).toNat)
theorem M6 (P:Program) (t:TypeId) (a b:Int):binV P .and t (.int .i64 a) (.int .i64 b)=some (.int .i64 (msk a b)):=rfl
theorem zV (P:Program) (t:TypeId) (a b:Int):binV P .add t (.int .i64 a) (.int .i64 b)=some (.int .i64 (IntKind.i64.wrap (a+b))):=rfl
theorem zN (P:Program) (t:TypeId) (a b:Int):binV P .mul t (.int .i64 a) (.int .i64 b)=some (.int .i64 (IntKind.i64.wrap (a*b))):=rfl
theorem zG {bl:Int→Option Blk} {K:V→(Int→Option Blk)→Prop} (bs:List Int) (hn:bs.length≤1048576)
  (hK: ∀(g h:Int),0≤g→bl g=none→K (.loc g 3 0 0) (upd bl g (some (cur bs 0 h)))):bJ Tryz.prog 70 [.sl (bv bs)] bl K:=by
 refine aZ Tryz.func70 rfl rfl (by rw[Tryz.ntmps70];simp) ?_
 rw[Tryz.ntmps70,Tryz.results70]
 refine aC ?_
 simp
 refine aK (fun p:Nat×Int=> [(0,.sl (bv bs)),(3,.int .i64 p.2),(4,.int .i64 p.1)]) (fun _=>bl) (fun p=>p.1≤bs.length) (fun p=>bs.length - p.1) 32 (0,_) (Nat.zero_le _) ⟨rfl,by simp;rfl,Sub.refl _⟩ ?_
 rintro⟨i,h⟩ hi
 simp only at hi
 refine aC ?_
 simp
 refine aV [(0,.sl (bv bs)),(3,.int .i64 h),(4,.int .i64 i)] _ bl 15 (.bool (decide (i<bs.length)&& decide (i<4000))) ⟨rfl,by simp,Sub.refl _⟩ rfl ?_ ?_
 ·simp
  refine⟨fun h=>by rw[decide_eq_true h,Bool.true_and];exact decide_eq_decide.2 (by omega),fun h1 h2=>by omega⟩
 have w1:IntKind.i64.wrap ((i:Int)+1)=i+1:=i64_in (by omega) (by omega)
 simp[-binV, -intV,M6,zV,zN]
 refine⟨fun h1 h2=> ?_,fun h1=> ?_⟩
 ·simp[-binV, -intV,M6,zV,zN,h1,w1]
  rw[aB]
  exact⟨(i+1,msk (IntKind.i64.wrap (IntKind.i64.wrap (IntKind.i64.wrap (h*73)+IntKind.i64.wrap bs[i])+7)) 1073741823),by simp only;omega,by simp only;omega,rfl,by simp,Sub.refl _⟩
 ·intro g hg hb
  rw[aX]
  refine⟨[_],by simp;rfl,?_⟩
  exact hK g h hg hb
theorem By {bl:Int→Option Blk} {K:V→(Int→Option Blk)→Prop} (bs:List Int) (n:Nat) (hn:bs.length≤1048576) (hb: ∀x,x∈bs→0≤x∧x<256) (hn2:n≤1048576)
  (hK: ∀(g i h:Int),0≤g→bl g=none→eS bs i→K (.loc g 3 0 0) (upd bl g (some (cur bs i h)))):bJ Tryz.prog 92 [.sl (bv bs),.int .i64 n] bl K:=by
 refine aZ Tryz.func92 rfl rfl (by rw[Tryz.ntmps92];simp) ?_
 rw[Tryz.ntmps92,Tryz.results92]
 refine aC ?_
 simp
 refine zG bs hn fun g h hg0 hg=> ?_
 simp
 refine aK (fun p:Nat×Int×Int=> [(1,.int .i64 n),(5,.loc g 3 0 0),(6,.int .i64 p.1)]) (fun p=>upd bl g (some (cur bs p.2.1 p.2.2))) (fun p=>p.1≤n∧eS bs p.2.1) (fun p=>n - p.1) 17 (0,0,h) ⟨Nat.zero_le _,hn,hb,Int.le_refl _,by simp⟩ ⟨rfl,by simp,sub_eq rfl⟩ ?_
 rintro⟨k,i,h⟩ ⟨hk,hc⟩
 simp only at hk hc
 refine aC ?_
 simp
 refine⟨fun h1=> ?_,fun h1=> ?_⟩
 ·refine vB bs i h g hc (by simp) fun x i' h' hx hc'=> ?_
  have w1:IntKind.i64.wrap ((k:Int)+1)=k+1:=i64_in (by omega) (by omega)
  simp[w1]
  rw[aB]
  exact⟨(k+1,i',h'),⟨by simp only;omega,hc'⟩,by simp only;omega,rfl,by simp,sub_eq (by simp)⟩
 ·rw[aX]
  refine⟨[_],by simp;rfl,?_⟩
  exact hK g i h hg0 hg hc

structure LD where
 k:Nat
 ns:List Int
 i:Int
 h:Int
theorem P0 (ns:List Int) (i:Nat) (x:Int):(iv ns).set i [.int .i64 x]=iv (ns.set i x):=by simp[iv,List.map_set]
theorem S4 {ns:List Int} {i:Nat} {x:Int} (h: ∀y,y∈ns→ -8≤y∧y≤8) (hx: -8≤x∧x≤8): ∀y,y∈ns.set i x→ -8≤y∧y≤8:=by
 intro y hy
 rcases List.mem_or_eq_of_mem_set hy with hy | rfl
 ·exact h y hy
 ·exact hx
theorem U5 {bl:Int→Option Blk} {K:V→(Int→Option Blk)→Prop} (bs:List Int) (i h g:Int) (s:Str) (hj:1≤s.js.length∧s.js.length≤6) (hc:eS bs i) (hb:bl g=some (cur bs i h))
  (hK: ∀(g2:Int) (ns:List Int) (i' h':Int) bl',0≤g2→bl g2=none→ns.length=2*s.js.length→(∀x,x∈ns→ -8≤x∧x≤8)→eS bs i'→bl' g=some (cur bs i' h')→bl' g2=some ⟨1,iv ns⟩→(∀x y,x≠g→bl x=some y→bl' x=some y)→K (.lsl g2 1 0 (2*s.js.length)) bl'):
  bJ Tryz.prog 105 [.loc g 3 0 0,.agg s.c] bl K:=by
 refine aZ Tryz.func105 rfl rfl (by rw[Tryz.ntmps105];simp) ?_
 rw[Tryz.ntmps105,Tryz.results105]
 refine aC ?_
 have w0:IntKind.i64.wrap (2*(s.js.length:Int))=2*s.js.length:=i64_in (by omega) (by omega)
 simp[Str.c,w0]
 intro gs Of hgs
 refine⟨2*s.js.length,by simp,by simp,by omega,by unfold maxLen;omega,fun g2 hg2 h2=> ?_⟩
 have ngs:gs≠g:=fun e=>by rw[e,hb] at hgs;cases hgs
 simp at h2
 obtain⟨n2s,hb2⟩:=h2
 have n2g:g2≠g:=fun e=>by rw[e,hb] at hb2;cases hb2
 have er:List.replicate (2*s.js.length) [V.int IntKind.i64 0]=iv (List.replicate (2*s.js.length) 0):=by simp[iv]
 simp[n2s,Ne.symm n2s,er]
 refine aK (fun p:LD=> [(0,.loc g 3 0 0),(3,.loc gs 2 0 0),(5,.lsl g2 1 0 (2*s.js.length)),(14,.sl (jv s.js)),(15,.int .i64 s.js.length),(16,.int .i64 p.k)]) (fun p=>upd (upd (upd bl gs (some ⟨2,[[.sl (jv s.js),.sl (mv s.ms)]]⟩)) g2 (some ⟨1,iv p.ns⟩)) g (some (cur bs p.i p.h)))
  (fun p=>p.k≤s.js.length∧eS bs p.i∧p.ns.length=2*s.js.length∧ ∀x,x∈p.ns→ -8≤x∧x≤8) (fun p=>s.js.length - p.k) 48 ⟨0,List.replicate (2*s.js.length) 0,i,h⟩ ⟨Nat.zero_le _,hc,by simp,fun x hx=>by simp at hx;omega⟩ ⟨rfl,by simp,fun x y hx=>by simp only[aA] at hx ⊢;grind⟩ ?_
 rintro⟨k,ns,i',h'⟩ ⟨hk,hc',hl,hr⟩
 simp only at hk hc' hl hr
 refine aC ?_
 simp
 refine⟨fun h1=> ?_,fun h1=> ?_⟩
 ·simp[h1,J.c]
  intro g7 hg7 h7g h72 h7s hb7
  refine⟨fun hf=> ?_,fun hf=> ?_⟩
  ·have w2:IntKind.i64.wrap (2*(k:Int))=2*k:=i64_in (by omega) (by omega)
   have w3:IntKind.i64.wrap (2*(k:Int)+1)=2*k+1:=i64_in (by omega) (by omega)
   have p1:0≤2*(k:Int):=by omega
   have p2:0≤2*(k:Int)+1:=by omega
   have p3:2*(k:Int)<2*s.js.length:=by omega
   have p4:2*(k:Int)+1<2*s.js.length:=by omega
   have t1:(2*(k:Int)).toNat=2*k:=by omega
   have t2:(2*(k:Int)+1).toNat=2*k+1:=by omega
   refine aT bs i' h' g 7 (by omega) hc' (by simp[Ne.symm h7g]) fun x i1 h1' hx hc1=> ?_
   have w4:IntKind.i64.wrap (x - 3)=x - 3:=i64_in (by omega) (by omega)
   have k1:2*k<ns.length:=by omega
   simp[w2,w3,w4,p1,p2,p3,p4,t1,t2,h7g,Ne.symm h7g,h72,Ne.symm h72,n2g,Ne.symm n2g,k1]
   refine⟨h1,aT bs i1 h1' g 9 (by omega) hc1 (by simp[Ne.symm n2g]) fun y i2 h2' hy hc2=> ?_⟩
   have w5:IntKind.i64.wrap (-y)= -y:=i64_in (by omega) (by omega)
   have k2:2*k+1<ns.length:=by omega
   have w1:IntKind.i64.wrap ((k:Int)+1)=k+1:=i64_in (by omega) (by omega)
   simp[w1,w5,p2,p4,t2,n2g,Ne.symm n2g,k2,P0]
   rw[aB]
   refine⟨⟨k+1,(ns.set (2*k) (x - 3)).set (2*k+1) (-y),i2,h2'⟩,⟨by simp only;omega,hc2,by simp[hl],S4 (S4 hr (by omega)) (by omega)⟩,by simp only;omega,rfl,by simp,?_⟩
   intro u z hx
   simp only[aA] at hx ⊢
   grind
  ·have w1:IntKind.i64.wrap ((k:Int)+1)=k+1:=i64_in (by omega) (by omega)
   simp[w1]
   rw[aB]
   exact⟨⟨k+1,ns,i',h'⟩,⟨by simp only;omega,hc',hl,hr⟩,by simp only;omega,rfl,by simp,by simp[h7g,h72,h7s,hb7]⟩
 ·have n8:1≤(8:Int)∧(8:Int)≤256:=by omega
  refine pK bs i' h' g 8 n8 hc' (by simp) fun x i1 h1' hc1=> ?_
  cases x
  ·simp
   rw[aX]
   refine⟨[_],by simp;rfl,?_⟩
   refine hK g2 ns i1 h1' _ hg2 hb2 hl hr hc1 (by simp) (by simp[n2g]) fun u z hu hz=> ?_
   have e1:u≠gs:=fun e=>by rw[e,hgs] at hz;cases hz
   have e2:u≠g2:=fun e=>by rw[e,hb2] at hz;cases hz
   simp[hu,e1,e2,hz]
  ·have w6:IntKind.i64.wrap (2*(s.js.length:Int) - 1)=2*s.js.length - 1:=i64_in (by omega) (by omega)
   have p5:0≤2*(s.js.length:Int) - 1:=by omega
   have p6:2*(s.js.length:Int) - 1<2*s.js.length:=by omega
   have t3:(2*(s.js.length:Int) - 1).toNat=2*s.js.length - 1:=by omega
   have k3:2*s.js.length - 1<ns.length:=by omega
   simp[w6,p5,p6,t3,n2g,Ne.symm n2g,k3,P0]
   refine⟨by omega,?_⟩
   rw[aX]
   refine⟨[_],by simp;rfl,?_⟩
   refine hK g2 (ns.set (2*s.js.length - 1) 4) i1 h1' _ hg2 hb2 (by simp[hl]) (S4 hr (by omega)) hc1 (by simp[Ne.symm n2g]) (by simp) fun u z hu hz=> ?_
   have e1:u≠gs:=fun e=>by rw[e,hgs] at hz;cases hz
   have e2:u≠g2:=fun e=>by rw[e,hb2] at hz;cases hz
   simp[hu,e1,e2,hz]

def Ul (bl:Int→Option Blk) (K:V→(Int→Option Blk)→Prop) (bs:List Int) (g:Int):Prop:=
 ∀(s:Str) (i' h':Int) bl',sOk s=true→3≤s.js.length→eS bs i'→bl' g=some (cur bs i' h')→(∀x y,x≠g→bl x=some y→bl' x=some y)→K (.agg s.c) bl'
def nmA :ByteArray:= { data:= #[97] }
def nmB :ByteArray:= { data:= #[98] }
def nmC :ByteArray:= { data:= #[99] }
def nmD :ByteArray:= { data:= #[100] }
def js3 (x1 x2 x3 x4 x5 x6:Int):List J:= [⟨nmA, -1 - x1,x2,true⟩,⟨nmB,3+x3,x4,true⟩,⟨nmC,x5 - 1, -1 - x6,false⟩]
def ms2 (x7:Int):List Mb:= [⟨0,2,1⟩,⟨1,2,x7⟩]
theorem R0 {js:List J} {ms:List Mb} (hj:js.length≤6) (hm:ms.length≤8) (h1: ∀j,j∈js→j.ok=true) (h2:(js.map (·.name)).Nodup) (h3: ∀m,m∈ms→mOk js m=true):sOk ⟨js,ms⟩=true:=by
 unfold sOk
 simp only[Bool.and_eq_true,decide_eq_true_eq]
 refine⟨⟨⟨hj,hm⟩,fun i hi=>⟨h1 _ (List.getElem_mem hi),?_⟩⟩,List.all_eq_true.2 h3⟩
 refine nG hi (fun j hj hlt=> ?_) (by simp)
 have:=List.pairwise_iff_getElem.1 h2 j i (by simpa using hj) (by simpa using hi) hlt
 simpa using this
theorem nms :isName nmA=true∧isName nmB=true∧isName nmC=true∧isName nmD=true:=by decide
theorem Ly {x1 x2 x3 x4 x5 x6 x7:Int} (h1:0≤x1∧x1<4) (h2:0≤x2∧x2<3) (h3:0≤x3∧x3<4) (h4:0≤x4∧x4<3) (h5:0≤x5∧x5<4) (h6:0≤x6∧x6<4) (h7:1≤x7∧x7≤3):sOk ⟨js3 x1 x2 x3 x4 x5 x6,ms2 x7⟩=true:=by
 obtain⟨na,nb,nc,nd⟩:=nms
 refine R0 (by simp[js3]) (by simp[ms2]) (fun j hj=> ?_) (by show([nmA,nmB,nmC]:List ByteArray).Nodup;decide) (fun m hm=> ?_)
 ·simp only[js3,List.mem_cons,List.not_mem_nil,or_false] at hj
  rcases hj with rfl | rfl | rfl<;>simp[J.ok,na,nb,nc]<;>omega
 ·simp only[ms2,List.mem_cons,List.not_mem_nil,or_false] at hm
  rcases hm with rfl | rfl<;>simp[mOk,js3,jat]<;>omega
def js4 (x1 x2 x3 x4 x5 x6 x8:Int):List J:=js3 x1 x2 x3 x4 x5 x6++ [⟨nmD,x8 - 1, -7,true⟩]
def ms3 (x7 x9:Int):List Mb:=ms2 x7++ [⟨3,2,x9⟩]
theorem Kc {x1 x2 x3 x4 x5 x6 x7 x8 x9:Int} (h1:0≤x1∧x1<4) (h2:0≤x2∧x2<3) (h3:0≤x3∧x3<4) (h4:0≤x4∧x4<3) (h5:0≤x5∧x5<4) (h6:0≤x6∧x6<4) (h7:1≤x7∧x7≤3) (h8:0≤x8∧x8<5) (h9:1≤x9∧x9≤3):sOk ⟨js4 x1 x2 x3 x4 x5 x6 x8,ms3 x7 x9⟩=true:=by
 obtain⟨na,nb,nc,nd⟩:=nms
 refine R0 (by simp[js4,js3]) (by simp[ms3,ms2]) (fun j hj=> ?_) (by show([nmA,nmB,nmC,nmD]:List ByteArray).Nodup;decide) (fun m hm=> ?_)
 ·simp only[js4,js3,List.cons_append,List.nil_append,List.mem_cons,List.not_mem_nil,or_false] at hj
  rcases hj with rfl | rfl | rfl | rfl<;>simp[J.ok,na,nb,nc,nd]<;>omega
 ·simp only[ms3,ms2,List.cons_append,List.nil_append,List.mem_cons,List.not_mem_nil,or_false] at hm
  rcases hm with rfl | rfl | rfl<;>simp[mOk,js4,js3,jat]<;>omega
theorem X3 {bl:Int→Option Blk} {K:V→(Int→Option Blk)→Prop} (bs:List Int) (i h g:Int) (hc:eS bs i) (hb:bl g=some (cur bs i h)) (hK:Ul bl K bs g):
  bJ Tryz.prog 220 [.loc g 3 0 0] bl K:=by
 refine aZ Tryz.func220 rfl rfl (by rw[Tryz.ntmps220];simp) ?_
 rw[Tryz.ntmps220,Tryz.results220]
 refine aE ?_
 simp
 intro ga Hv hga
 have nag:ga≠g:=fun e=>by rw[e,hb] at hga;cases hga
 refine aE ?_
 simp
 intro gs Of aP hgs
 have nsg:gs≠g:=fun e=>by rw[e,hb] at hgs;cases hgs
 refine aE ?_
 simp
 refine aT bs i h g 4 (by omega) hc (by simp[nag,nsg,Ne.symm nag,Ne.symm nsg,aP,Ne.symm aP,hb]) fun x1 i1 h1 hx1 hc1=> ?_
 have w1:IntKind.i64.wrap (-1 - x1)= -1 - x1:=i64_in (by omega) (by omega)
 simp[nag,nsg,Ne.symm nag,Ne.symm nsg,aP,Ne.symm aP,w1]
 refine aT bs i1 h1 g 3 (by omega) hc1 (by simp[nag,nsg,Ne.symm nag,Ne.symm nsg,aP,Ne.symm aP,hb]) fun x2 i2 h2 hx2 hc2=> ?_
 simp[nag,nsg,Ne.symm nag,Ne.symm nsg,aP,Ne.symm aP]
 refine aT bs i2 h2 g 4 (by omega) hc2 (by simp[nag,nsg,Ne.symm nag,Ne.symm nsg,aP,Ne.symm aP,hb]) fun x3 i3 h3 hx3 hc3=> ?_
 have w3:IntKind.i64.wrap (3+x3)=3+x3:=i64_in (by omega) (by omega)
 simp[nag,nsg,Ne.symm nag,Ne.symm nsg,aP,Ne.symm aP,w3]
 refine aT bs i3 h3 g 3 (by omega) hc3 (by simp[nag,nsg,Ne.symm nag,Ne.symm nsg,aP,Ne.symm aP,hb]) fun x4 i4 h4 hx4 hc4=> ?_
 simp[nag,nsg,Ne.symm nag,Ne.symm nsg,aP,Ne.symm aP]
 refine aT bs i4 h4 g 4 (by omega) hc4 (by simp[nag,nsg,Ne.symm nag,Ne.symm nsg,aP,Ne.symm aP,hb]) fun x5 i5 h5 hx5 hc5=> ?_
 have w5:IntKind.i64.wrap (x5 - 1)=x5 - 1:=i64_in (by omega) (by omega)
 simp[nag,nsg,Ne.symm nag,Ne.symm nsg,aP,Ne.symm aP,w5]
 refine aT bs i5 h5 g 4 (by omega) hc5 (by simp[nag,nsg,Ne.symm nag,Ne.symm nsg,aP,Ne.symm aP,hb]) fun x6 i6 h6 hx6 hc6=> ?_
 have w6:IntKind.i64.wrap (-1 - x6)= -1 - x6:=i64_in (by omega) (by omega)
 simp[nag,nsg,Ne.symm nag,Ne.symm nsg,aP,Ne.symm aP,w6]
 intro g5 hg5 n5g n5s n5a hb5
 simp[nag,nsg,Ne.symm nag,Ne.symm nsg,aP,Ne.symm aP,n5g,n5s,n5a,Ne.symm n5g,Ne.symm n5s,Ne.symm n5a,show List.range 3= [0,1,2] from rfl]
 refine aE ?_
 simp[nag,nsg,Ne.symm nag,Ne.symm nsg,aP,Ne.symm aP,n5g,n5s,n5a,Ne.symm n5g,Ne.symm n5s,Ne.symm n5a]
 intro g6 hg6 n6s n65 n6g _ n6a hb6
 refine lO bs i6 h6 g g6 [1,1,1,3] (by simp) hc6 (by simp[n6g,Ne.symm n6g,nag,nsg,Ne.symm nag,Ne.symm nsg,aP,Ne.symm aP,Ne.symm n5g]) (by simp[iv,show List.range 4= [0,1,2,3] from rfl]) n6g hg6 fun x7 i7 h7 hx7 hc7=> ?_
 simp[nag,nsg,Ne.symm nag,Ne.symm nsg,aP,Ne.symm aP,n5g,n5s,n5a,Ne.symm n5g,Ne.symm n5s,Ne.symm n5a,n6s,n65,n6g,n6a,Ne.symm n6s,Ne.symm n65,Ne.symm n6g,Ne.symm n6a]
 intro g7 hg7 n7g n76 n7s n75 _ _ n7a hb7
 simp[nag,nsg,Ne.symm nag,Ne.symm nsg,aP,Ne.symm aP,n5g,n5s,n5a,Ne.symm n5g,Ne.symm n5s,Ne.symm n5a,n6s,n65,n6g,n6a,Ne.symm n6s,Ne.symm n65,Ne.symm n6g,Ne.symm n6a,n7g,n76,n7s,n75,n7a,Ne.symm n7g,Ne.symm n76,Ne.symm n7s,Ne.symm n75,Ne.symm n7a,show List.range 2= [0,1] from rfl]
 have aDZ:x7=1∨x7=3:=by simpa using hx7
 obtain⟨b0,hb0⟩: ∃b0,b0=upd bl g none:=⟨_,rfl⟩
 have b0g:b0 g=none:=by rw[hb0];simp
 have b0k: ∀x,x≠g→b0 x=bl x:=fun x hx=>by rw[hb0,aA,if_neg hx]
 have b0a:b0 ga=none:=by rw[b0k _ nag];exact hga
 have b0s:b0 gs=none:=by rw[b0k _ nsg];exact hgs
 have b05:b0 g5=none:=by rw[b0k _ n5g];exact hb5
 have b07:b0 g7=none:=by rw[b0k _ n7g];exact hb7
 clear hb0
 refine gV [(0,.loc g 3 0 0),(2,.loc ga 2 0 0),(3,.loc gs 2 0 0)] 54 (upd (upd (upd (upd (upd b0 ga (some ⟨2,[[.nils,.nils]]⟩)) g5 (some ⟨4,jv (js3 x1 x2 x3 x4 x5 x6)⟩)) g7 (some ⟨3,mv (ms2 x7)⟩)) gs (some ⟨2,[[.lsl g5 4 0 3,.lsl g7 3 0 2]]⟩)) g (some (cur bs i7 h7))) ⟨rfl,by simp,by
  simp only[jv,mv,js3,ms2,List.map,J.c,Mb.c,nmA,nmB,nmC,nmD]
  intro z b hz
  have:=b0k z
  simp only[aA] at hz ⊢
  grind⟩ ?_
 clear hb hga hgs hb5 hb6 hb7
 refine aE ?_
 simp
 refine pK bs i7 h7 g 2 (by omega) hc7 (by simp[n5g,n5s,n5a,Ne.symm n5g,Ne.symm n5s,Ne.symm n5a,n7g,n7s,n75,n7a,Ne.symm n7g,Ne.symm n7s,Ne.symm n75,Ne.symm n7a,nag,nsg,Ne.symm nag,Ne.symm nsg,aP,Ne.symm aP]) fun x8 i8 h8 hc8=> ?_
 cases x8
 ·simp
  refine bZ 2 3 (.ptr (Str.mk (js3 x1 x2 x3 x4 x5 x6) (ms2 x7)).c) (upd (upd b0 ga (some ⟨2,[[.nils,.nils]]⟩)) g (some (cur bs i8 h8))) (by intro z b hz;simp only[aA] at hz ⊢;grind) (by simp[frz,dropB,jv,mv,J.c,Mb.c,js3,ms2,V.cl,Int.not_lt.2 hg5,Int.not_lt.2 hg7,Str.c,b05,b07,b0s,n5g,n5s,n5a,Ne.symm n5g,Ne.symm n5s,Ne.symm n5a,n7g,n7s,n75,n7a,Ne.symm n7g,Ne.symm n7s,Ne.symm n75,Ne.symm n7a,nag,nsg,Ne.symm nag,Ne.symm nsg,aP,Ne.symm aP]) ?_
  refine aC ?_
  simp[Str.c,nag,Ne.symm nag]
  rw[aX]
  refine⟨[_],by simp[nag];rfl,?_⟩
  exact hK ⟨js3 x1 x2 x3 x4 x5 x6,ms2 x7⟩ i8 h8 _ (Ly (by omega) (by omega) (by omega) (by omega) (by omega) (by omega) (by omega)) (by simp[js3]) hc8 (by simp[nag,Ne.symm nag]) (fun x y hx hy=>by have:=b0k x hx;simp only[aA];grind)
 ·simp
  refine pP aQ (upd (upd (upd b0 ga (some ⟨2,[[.nils,.nils]]⟩)) g7 (some ⟨3,mv (ms2 x7)⟩)) gs (some ⟨2,[[.lsl g5 4 0 3,.lsl g7 3 0 2]]⟩)) (by intro z b hz;simp only[aA] at hz ⊢;grind) [0,1,2] 7 9 (by kernel_rfl) ?_
  simp[n5g,n5s,n5a,Ne.symm n5g,Ne.symm n5s,Ne.symm n5a,n7g,n7s,n75,n7a,Ne.symm n7g,Ne.symm n7s,Ne.symm n75,Ne.symm n7a,nag,nsg,Ne.symm nag,Ne.symm nsg,aP,Ne.symm aP]
  refine Dz 3 ?_
  simp
  refine aT bs i8 h8 g 5 (by omega) hc8 (by simp[n5g,n5s,n5a,Ne.symm n5g,Ne.symm n5s,Ne.symm n5a,n7g,n7s,n75,n7a,Ne.symm n7g,Ne.symm n7s,Ne.symm n75,Ne.symm n7a,nag,nsg,Ne.symm nag,Ne.symm nsg,aP,Ne.symm aP]) fun x9 i9 h9 hx9 hc9=> ?_
  have w9:IntKind.i64.wrap (x9 - 1)=x9 - 1:=i64_in (by omega) (by omega)
  simp
  refine⟨by intro z b hz;simp only[aA] at hz ⊢;grind,Dz 4 ?_⟩
  simp[w9]
  refine⟨by intro z b hz;simp only[aA] at hz ⊢;grind,Dz 5 ?_⟩
  simp
  refine⟨by intro z b hz;simp only[aA] at hz ⊢;grind,Dz 6 ?_⟩
  simp[n5g,n5s,n5a,Ne.symm n5g,Ne.symm n5s,Ne.symm n5a,n7g,n7s,n75,n7a,Ne.symm n7g,Ne.symm n7s,Ne.symm n75,Ne.symm n7a,nag,nsg,Ne.symm nag,Ne.symm nsg,aP,Ne.symm aP]
  intro g9 hg9 n9g n9s n97 n95 n9a b09
  try simp[n5g,n5s,n5a,Ne.symm n5g,Ne.symm n5s,Ne.symm n5a,n7g,n7s,n75,n7a,Ne.symm n7g,Ne.symm n7s,Ne.symm n75,Ne.symm n7a,nag,nsg,Ne.symm nag,Ne.symm nsg,aP,Ne.symm aP,n9g,Ne.symm n9g,n9s,Ne.symm n9s,n97,Ne.symm n97,n95,Ne.symm n95,n9a,Ne.symm n9a]
  refine⟨by intro z b hz;simp only[aA,aJ] at hz ⊢;grind,Dz 7 ?_⟩
  simp[n5g,n5s,n5a,Ne.symm n5g,Ne.symm n5s,Ne.symm n5a,n7g,n7s,n75,n7a,Ne.symm n7g,Ne.symm n7s,Ne.symm n75,Ne.symm n7a,nag,nsg,Ne.symm nag,Ne.symm nsg,aP,Ne.symm aP,n9g,Ne.symm n9g,n9s,Ne.symm n9s,n97,Ne.symm n97,n95,Ne.symm n95,n9a,Ne.symm n9a,appV,elsV,Int.not_lt.2 hg5,Int.not_lt.2 hg9,js3]
  intro g0 hg0 hh
  obtain⟨n0g,n0s,n07,n0a,b00⟩: ¬ g0=g∧ ¬ g0=gs∧ ¬ g0=g7∧ ¬ g0=ga∧b0 g0=none:=by
   by_cases e:g0=g5
   ·rw[e];exact⟨n5g,n5s,Ne.symm n75,n5a,b05⟩
   ·obtain⟨_,q1,q2,q3,_,q4,q5⟩:=hh e;exact⟨q1,q2,q3,q4,q5⟩
  clear hh
  refine⟨by intro z b hz;simp only[aA,aJ] at hz ⊢;grind,Dz 8 ?_⟩
  simp[n5g,n5s,n5a,Ne.symm n5g,Ne.symm n5s,Ne.symm n5a,n7g,n7s,n75,n7a,Ne.symm n7g,Ne.symm n7s,Ne.symm n75,Ne.symm n7a,nag,nsg,Ne.symm nag,Ne.symm nsg,aP,Ne.symm aP,n9g,Ne.symm n9g,n9s,Ne.symm n9s,n97,Ne.symm n97,n95,Ne.symm n95,n9a,Ne.symm n9a,n0g,Ne.symm n0g,n0s,Ne.symm n0s,n07,Ne.symm n07,n0a,Ne.symm n0a]
  refine⟨by intro z b hz;simp only[aA,aJ] at hz ⊢;grind,bX (i:=9) (by kernel_rfl) rfl rfl rfl ?_⟩
  simp[n5g,n5s,n5a,Ne.symm n5g,Ne.symm n5s,Ne.symm n5a,n7g,n7s,n75,n7a,Ne.symm n7g,Ne.symm n7s,Ne.symm n75,Ne.symm n7a,nag,nsg,Ne.symm nag,Ne.symm nsg,aP,Ne.symm aP,n9g,Ne.symm n9g,n9s,Ne.symm n9s,n97,Ne.symm n97,n95,Ne.symm n95,n9a,Ne.symm n9a,n0g,Ne.symm n0g,n0s,Ne.symm n0s,n07,Ne.symm n07,n0a,Ne.symm n0a]
  refine Dy ?_
  try simp
  refine gV [(0,.loc g 3 0 0),(2,.loc ga 2 0 0),(3,.loc gs 2 0 0)] 54 (upd (upd (upd (upd (upd b0 ga (some ⟨2,[[.nils,.nils]]⟩)) g0 (some ⟨4,jv (js4 x1 x2 x3 x4 x5 x6 x9)⟩)) g7 (some ⟨3,mv (ms2 x7)⟩)) gs (some ⟨2,[[.lsl g0 4 0 4,.lsl g7 3 0 2]]⟩)) g (some (cur bs i9 h9))) ⟨rfl,by simp,by
   simp only[jv,mv,js4,js3,ms2,List.map,J.c,Mb.c,nmA,nmB,nmC,nmD,List.cons_append,List.nil_append]
   intro z b hz
   simp only[aA,aJ] at hz ⊢
   grind⟩ ?_
  refine pP aQ (upd (upd (upd b0 ga (some ⟨2,[[.nils,.nils]]⟩)) g0 (some ⟨4,jv (js4 x1 x2 x3 x4 x5 x6 x9)⟩)) gs (some ⟨2,[[.lsl g0 4 0 4,.lsl g7 3 0 2]]⟩)) (by intro z b hz;simp only[aA,aJ] at hz ⊢;grind) [0,1,2] 7 9 (by kernel_rfl) ?_
  simp[n7g,n7s,n7a,Ne.symm n7g,Ne.symm n7s,Ne.symm n7a,nag,nsg,Ne.symm nag,Ne.symm nsg,aP,Ne.symm aP,n0g,Ne.symm n0g,n0s,Ne.symm n0s,n07,Ne.symm n07,n0a,Ne.symm n0a]
  refine Dz 3 ?_
  simp[n7g,n7s,n7a,Ne.symm n7g,Ne.symm n7s,Ne.symm n7a,nag,nsg,Ne.symm nag,Ne.symm nsg,aP,Ne.symm aP,n0g,Ne.symm n0g,n0s,Ne.symm n0s,n07,Ne.symm n07,n0a,Ne.symm n0a,show List.range 3= [0,1,2] from rfl]
  intro gb hgb nbg nbs nb7 nb0 nba b0b
  refine⟨by intro z b hz;simp only[aA,aJ] at hz ⊢;grind,Dz 4 ?_⟩
  simp[n7g,n7s,n7a,Ne.symm n7g,Ne.symm n7s,Ne.symm n7a,nag,nsg,Ne.symm nag,Ne.symm nsg,aP,Ne.symm aP,n0g,Ne.symm n0g,n0s,Ne.symm n0s,n07,Ne.symm n07,n0a,Ne.symm n0a,nbg,Ne.symm nbg,nbs,Ne.symm nbs,nb7,Ne.symm nb7,nb0,Ne.symm nb0,nba,Ne.symm nba]
  refine lO bs i9 h9 g gb [1,2,3] (by simp) hc9 (by simp[n7g,n7s,n7a,Ne.symm n7g,Ne.symm n7s,Ne.symm n7a,nag,nsg,Ne.symm nag,Ne.symm nsg,aP,Ne.symm aP,n0g,Ne.symm n0g,n0s,Ne.symm n0s,n07,Ne.symm n07,n0a,Ne.symm n0a,nbg,Ne.symm nbg,nbs,Ne.symm nbs,nb7,Ne.symm nb7,nb0,Ne.symm nb0,nba,Ne.symm nba]) (by simp[iv]) nbg hgb fun xb ib hb hxb hcb=> ?_
  have aL9:xb=1∨xb=2∨xb=3:=by simpa using hxb
  simp
  refine⟨by intro z b hz;simp only[aA,aJ] at hz ⊢;grind,Dz 5 ?_⟩
  simp
  refine⟨by intro z b hz;simp only[aA,aJ] at hz ⊢;grind,Dz 6 ?_⟩
  simp[n7g,n7s,n7a,Ne.symm n7g,Ne.symm n7s,Ne.symm n7a,nag,nsg,Ne.symm nag,Ne.symm nsg,aP,Ne.symm aP,n0g,Ne.symm n0g,n0s,Ne.symm n0s,n07,Ne.symm n07,n0a,Ne.symm n0a,nbg,Ne.symm nbg,nbs,Ne.symm nbs,nb7,Ne.symm nb7,nb0,Ne.symm nb0,nba,Ne.symm nba]
  intro gc hgc _ ncb ncg ncs nc7 nc0 nca b0c
  try simp[n7g,n7s,n7a,Ne.symm n7g,Ne.symm n7s,Ne.symm n7a,nag,nsg,Ne.symm nag,Ne.symm nsg,aP,Ne.symm aP,n0g,Ne.symm n0g,n0s,Ne.symm n0s,n07,Ne.symm n07,n0a,Ne.symm n0a,nbg,Ne.symm nbg,nbs,Ne.symm nbs,nb7,Ne.symm nb7,nb0,Ne.symm nb0,nba,Ne.symm nba,ncb,Ne.symm ncb,ncg,Ne.symm ncg,ncs,Ne.symm ncs,nc7,Ne.symm nc7,nc0,Ne.symm nc0,nca,Ne.symm nca]
  refine⟨by intro z b hz;simp only[aA,aJ] at hz ⊢;grind,Dz 7 ?_⟩
  simp[n7g,n7s,n7a,Ne.symm n7g,Ne.symm n7s,Ne.symm n7a,nag,nsg,Ne.symm nag,Ne.symm nsg,aP,Ne.symm aP,n0g,Ne.symm n0g,n0s,Ne.symm n0s,n07,Ne.symm n07,n0a,Ne.symm n0a,nbg,Ne.symm nbg,nbs,Ne.symm nbs,nb7,Ne.symm nb7,nb0,Ne.symm nb0,nba,Ne.symm nba,ncb,Ne.symm ncb,ncg,Ne.symm ncg,ncs,Ne.symm ncs,nc7,Ne.symm nc7,nc0,Ne.symm nc0,nca,Ne.symm nca,appV,elsV,Int.not_lt.2 hg7,Int.not_lt.2 hgc,ms2]
  intro gd hgd hh
  obtain⟨ndg,nds,nd0,nda,b0d⟩: ¬ gd=g∧ ¬ gd=gs∧ ¬ gd=g0∧ ¬ gd=ga∧b0 gd=none:=by
   by_cases e:gd=g7
   ·rw[e];exact⟨n7g,n7s,Ne.symm n07,n7a,b07⟩
   ·have:=hh e;grind
  clear hh
  refine⟨by intro z b hz;simp only[aA,aJ] at hz ⊢;grind,Dz 8 ?_⟩
  simp[n7g,n7s,n7a,Ne.symm n7g,Ne.symm n7s,Ne.symm n7a,nag,nsg,Ne.symm nag,Ne.symm nsg,aP,Ne.symm aP,n0g,Ne.symm n0g,n0s,Ne.symm n0s,n07,Ne.symm n07,n0a,Ne.symm n0a,nbg,Ne.symm nbg,nbs,Ne.symm nbs,nb7,Ne.symm nb7,nb0,Ne.symm nb0,nba,Ne.symm nba,ncb,Ne.symm ncb,ncg,Ne.symm ncg,ncs,Ne.symm ncs,nc7,Ne.symm nc7,nc0,Ne.symm nc0,nca,Ne.symm nca,ndg,Ne.symm ndg,nds,Ne.symm nds,nd0,Ne.symm nd0,nda,Ne.symm nda]
  refine⟨by intro z b hz;simp only[aA,aJ] at hz ⊢;grind,bX (i:=9) (by kernel_rfl) rfl rfl rfl ?_⟩
  simp[n7g,n7s,n7a,Ne.symm n7g,Ne.symm n7s,Ne.symm n7a,nag,nsg,Ne.symm nag,Ne.symm nsg,aP,Ne.symm aP,n0g,Ne.symm n0g,n0s,Ne.symm n0s,n07,Ne.symm n07,n0a,Ne.symm n0a,nbg,Ne.symm nbg,nbs,Ne.symm nbs,nb7,Ne.symm nb7,nb0,Ne.symm nb0,nba,Ne.symm nba,ncb,Ne.symm ncb,ncg,Ne.symm ncg,ncs,Ne.symm ncs,nc7,Ne.symm nc7,nc0,Ne.symm nc0,nca,Ne.symm nca,ndg,Ne.symm ndg,nds,Ne.symm nds,nd0,Ne.symm nd0,nda,Ne.symm nda]
  refine Dy ?_
  try simp
  refine gV [(0,.loc g 3 0 0),(2,.loc ga 2 0 0),(3,.loc gs 2 0 0)] 54 (upd (upd (upd (upd (upd b0 ga (some ⟨2,[[.nils,.nils]]⟩)) g0 (some ⟨4,jv (js4 x1 x2 x3 x4 x5 x6 x9)⟩)) gd (some ⟨3,mv (ms3 x7 xb)⟩)) gs (some ⟨2,[[.lsl g0 4 0 4,.lsl gd 3 0 3]]⟩)) g (some (cur bs ib hb))) ⟨rfl,by simp,by
   simp only[jv,mv,js4,js3,ms3,ms2,List.map,J.c,Mb.c,nmA,nmB,nmC,nmD,List.cons_append,List.nil_append]
   intro z b hz
   simp only[aA,aJ] at hz ⊢
   grind⟩ ?_
  refine bZ 2 3 (.ptr (Str.mk (js4 x1 x2 x3 x4 x5 x6 x9) (ms3 x7 xb)).c) (upd (upd b0 ga (some ⟨2,[[.nils,.nils]]⟩)) g (some (cur bs ib hb))) (by intro z b hz;simp only[aA,aJ] at hz ⊢;grind) (by simp[frz,dropB,jv,mv,J.c,Mb.c,js4,js3,ms3,ms2,V.cl,Int.not_lt.2 hg0,Int.not_lt.2 hgd,Str.c,b00,b0d,b0s,n7g,n7s,n7a,Ne.symm n7g,Ne.symm n7s,Ne.symm n7a,nag,nsg,Ne.symm nag,Ne.symm nsg,aP,Ne.symm aP,n0g,Ne.symm n0g,n0s,Ne.symm n0s,n07,Ne.symm n07,n0a,Ne.symm n0a,ndg,Ne.symm ndg,nds,Ne.symm nds,nd0,Ne.symm nd0,nda,Ne.symm nda]) ?_
  refine aC ?_
  simp[Str.c,nag,Ne.symm nag]
  rw[aX]
  refine⟨[_],by simp[nag];rfl,?_⟩
  have hok:=Kc hx1 hx2 hx3 hx4 hx5 hx6 (x7:=x7) (by rcases aDZ with h | h<;>rw[h]<;>decide) hx9 (x9:=xb) (by rcases aL9 with h | h | h<;>rw[h]<;>decide)
  exact hK ⟨js4 x1 x2 x3 x4 x5 x6 x9,ms3 x7 xb⟩ ib hb _ hok (by simp[js4,js3]) hcb (by simp[nag,Ne.symm nag]) (fun x y hx hy=>by have:=b0k x hx;simp only[aA];grind)

theorem Cg {P:Program} {ops:Array Oper} {blK:Int→Option Blk} {tl:Nat→Bool} {K:St→Prop} {l:Array Bool} {σ:St} (is:List Nat) (fuel:Nat) (hs:Sub blK σ.bl) (hn:(is.all (fun i=>decide (i<ops.size))&& hoistB ops is l && yO ops tl is)=true)
  (h:HoistF P (ops.toList.map (·.dst)) blK (is.filterMap fun i=>ops[i]?) (iM P ops blK tl K fuel (gA is l)) σ):iM P ops blK tl K (fuel+is.length) l σ:=by
 simp only[Bool.and_eq_true] at hn
 exact lM fuel is l σ (jC hn.2) hn.1.2 hs (iO _ is σ (filter_some is hn.1.1) h)
def tj (x1 x2 x3 x4 x5 x6:Int):List J:= [⟨nmA, -2,x1,true⟩,⟨nmB,6,x2,true⟩,⟨nmC,x3, -1 - x4,false⟩,⟨nmD,3+x5, -1 - x6,false⟩]
structure TD where
 n:Nat
 ms:List Mb
 g:Int
 i:Int
 h:Int
def zO (m:Mb):Prop:=(m.a=0∨m.a=1∨m.a=2∨m.a=3)∧(m.b=1∨m.b=2∨m.b=3)∧(1≤m.kind∧m.kind≤3)∧((m.a≤1∧2≤m.b)∨(m.a=2∧m.b=3)∨(m.a=3∧m.b=1))
theorem Tt {x1 x2 x3 x4 x5 x6:Int} {ms:List Mb} (h1:0≤x1∧x1<3) (h2:0≤x2∧x2<3) (h3:0≤x3∧x3<2) (h4:0≤x4∧x4<3) (h5:0≤x5∧x5<2) (h6:0≤x6∧x6<3) (hl:ms.length≤5) (hm: ∀m,m∈ms→zO m):sOk ⟨tj x1 x2 x3 x4 x5 x6,ms⟩=true:=by
 obtain⟨na,nb,nc,nd⟩:=nms
 refine R0 (by simp[tj]) (by omega) (fun j hj=> ?_) (by show([nmA,nmB,nmC,nmD]:List ByteArray).Nodup;decide) (fun m hmm=> ?_)
 ·simp only[tj,List.mem_cons,List.not_mem_nil,or_false] at hj
  rcases hj with rfl | rfl | rfl | rfl<;>simp[J.ok,na,nb,nc,nd]<;>omega
 ·obtain⟨q1,q2,q3,q4⟩:=hm m hmm
  obtain⟨ma,mb,mk⟩:=m
  simp only at q1 q2 q3 q4
  rcases q1 with rfl | rfl | rfl | rfl<;>rcases q2 with rfl | rfl | rfl<;>simp[mOk,tj,jat] at q4 ⊢ <;>omega
theorem Et {bl:Int→Option Blk} {gs g1 g2:Int} {js:List J} {ms:List Mb} (h0:0≤g1) (h0':0≤g2) (hs:bl gs=some ⟨2,[[.lsl g1 4 0 js.length,.lsl g2 3 0 ms.length]]⟩) (h1:bl g1=some ⟨4,jv js⟩) (h2:bl g2=some ⟨3,mv ms⟩):frz bl 2 (.loc gs 2 0 0)=some (.ptr (Str.mk js ms).c):=by
 have e1:=cM (bl:=bl) (bl0:=fun _=>none) (n:=js.length) h0 rfl h1 (by simp) (aDW js)
 have e2:=cM (bl:=bl) (bl0:=fun _=>none) (n:=ms.length) h0' rfl h2 (by simp) (aCE ms)
 change frz bl 1 _=_ at e1
 change frz bl 1 _=_ at e2
 rw[kH hs]
 simp[e1,e2,Str.c]
theorem Dl {bl:Int→Option Blk} {K:V→(Int→Option Blk)→Prop} (bs:List Int) (i h g:Int) (hc:eS bs i) (hb:bl g=some (cur bs i h)) (hK:Ul bl K bs g):
  bJ Tryz.prog 219 [.loc g 3 0 0] bl K:=by
 refine aZ Tryz.func219 rfl rfl (by rw[Tryz.ntmps219];simp) ?_
 rw[Tryz.ntmps219,Tryz.results219]
 refine aE ?_
 simp
 intro ga Hv hga
 have nag:ga≠g:=fun e=>by rw[e,hb] at hga;cases hga
 refine aE ?_
 simp
 intro gs Of aP hgs
 have nsg:gs≠g:=fun e=>by rw[e,hb] at hgs;cases hgs
 refine aE ?_
 simp
 refine aT bs i h g 3 (by omega) hc (by simp[nag,nsg,Ne.symm nag,Ne.symm nsg,aP,Ne.symm aP,hb]) fun x1 i1 h1 hx1 hc1=> ?_
 simp[nag,nsg,Ne.symm nag,Ne.symm nsg,aP,Ne.symm aP]
 refine aT bs i1 h1 g 3 (by omega) hc1 (by simp[nag,nsg,Ne.symm nag,Ne.symm nsg,aP,Ne.symm aP,hb]) fun x2 i2 h2 hx2 hc2=> ?_
 simp[nag,nsg,Ne.symm nag,Ne.symm nsg,aP,Ne.symm aP]
 refine aT bs i2 h2 g 2 (by omega) hc2 (by simp[nag,nsg,Ne.symm nag,Ne.symm nsg,aP,Ne.symm aP,hb]) fun x3 i3 h3 hx3 hc3=> ?_
 simp[nag,nsg,Ne.symm nag,Ne.symm nsg,aP,Ne.symm aP]
 refine aT bs i3 h3 g 3 (by omega) hc3 (by simp[nag,nsg,Ne.symm nag,Ne.symm nsg,aP,Ne.symm aP,hb]) fun x4 i4 h4 hx4 hc4=> ?_
 have w4:IntKind.i64.wrap (-1 - x4)= -1 - x4:=i64_in (by omega) (by omega)
 simp[nag,nsg,Ne.symm nag,Ne.symm nsg,aP,Ne.symm aP,w4]
 refine aT bs i4 h4 g 2 (by omega) hc4 (by simp[nag,nsg,Ne.symm nag,Ne.symm nsg,aP,Ne.symm aP,hb]) fun x5 i5 h5 hx5 hc5=> ?_
 have w5:IntKind.i64.wrap (3+x5)=3+x5:=i64_in (by omega) (by omega)
 simp[nag,nsg,Ne.symm nag,Ne.symm nsg,aP,Ne.symm aP,w5]
 refine aT bs i5 h5 g 3 (by omega) hc5 (by simp[nag,nsg,Ne.symm nag,Ne.symm nsg,aP,Ne.symm aP,hb]) fun x6 i6 h6 hx6 hc6=> ?_
 have w6:IntKind.i64.wrap (-1 - x6)= -1 - x6:=i64_in (by omega) (by omega)
 simp[nag,nsg,Ne.symm nag,Ne.symm nsg,aP,Ne.symm aP,w6]
 intro g5 hg5 n5g n5s n5a hb5
 simp[nag,nsg,Ne.symm nag,Ne.symm nsg,aP,Ne.symm aP,n5g,Ne.symm n5g,n5s,Ne.symm n5s,n5a,Ne.symm n5a,show List.range 4= [0,1,2,3] from rfl]
 refine aE ?_
 simp[nag,nsg,Ne.symm nag,Ne.symm nsg,aP,Ne.symm aP,n5g,Ne.symm n5g,n5s,Ne.symm n5s,n5a,Ne.symm n5a]
 intro g6 hg6 n6s n65 n6g _ n6a hb6
 refine lO bs i6 h6 g g6 [1,2,3] (by simp) hc6 (by simp[nag,nsg,Ne.symm nag,Ne.symm nsg,aP,Ne.symm aP,n5g,Ne.symm n5g,n5s,Ne.symm n5s,n5a,Ne.symm n5a,n6g,Ne.symm n6g]) (by simp[iv,show List.range 3= [0,1,2] from rfl]) n6g hg6 fun x7 i7 h7 hx7 hc7=> ?_
 simp[nag,nsg,Ne.symm nag,Ne.symm nsg,aP,Ne.symm aP,n5g,Ne.symm n5g,n5s,Ne.symm n5s,n5a,Ne.symm n5a,n6s,Ne.symm n6s,n65,Ne.symm n65,n6g,Ne.symm n6g,n6a,Ne.symm n6a]
 intro g7 hg7 n7g n76 n7s n75 _ _ n7a hb7
 simp[nag,nsg,Ne.symm nag,Ne.symm nsg,aP,Ne.symm aP,n5g,Ne.symm n5g,n5s,Ne.symm n5s,n5a,Ne.symm n5a,n6s,Ne.symm n6s,n65,Ne.symm n65,n6g,Ne.symm n6g,n6a,Ne.symm n6a,n7g,Ne.symm n7g,n76,Ne.symm n76,n7s,Ne.symm n7s,n75,Ne.symm n75,n7a,Ne.symm n7a,show List.range 3= [0,1,2] from rfl]
 have aDZ:x7=1∨x7=2∨x7=3:=by simpa using hx7
 obtain⟨b0,hb0⟩: ∃b0,b0=upd bl g none:=⟨_,rfl⟩
 have b0g:b0 g=none:=by rw[hb0];simp
 have b0k: ∀x,x≠g→b0 x=bl x:=fun x hx=>by rw[hb0,aA,if_neg hx]
 have b0a:b0 ga=none:=by rw[b0k _ nag];exact hga
 have b0s:b0 gs=none:=by rw[b0k _ nsg];exact hgs
 have b05:b0 g5=none:=by rw[b0k _ n5g];exact hb5
 have b07:b0 g7=none:=by rw[b0k _ n7g];exact hb7
 clear hb0
 refine gV [(0,.loc g 3 0 0),(2,.loc ga 2 0 0),(3,.loc gs 2 0 0)] 56 (upd (upd (upd (upd (upd b0 ga (some ⟨2,[[.nils,.nils]]⟩)) g5 (some ⟨4,jv (tj x1 x2 x3 x4 x5 x6)⟩)) g7 (some ⟨3,mv [⟨0,2,1⟩,⟨2,3,x7⟩,⟨3,1,1⟩]⟩)) gs (some ⟨2,[[.lsl g5 4 0 4,.lsl g7 3 0 3]]⟩)) g (some (cur bs i7 h7))) ⟨rfl,by simp,by
  simp only[jv,mv,tj,List.map,J.c,Mb.c,nmA,nmB,nmC,nmD]
  intro z b hz
  have:=b0k z
  simp only[aA] at hz ⊢
  grind⟩ ?_
 clear hb hga hgs hb5 hb6 hb7
 refine aE ?_
 simp
 refine aT bs i7 h7 g 3 (by omega) hc7 (by simp[nag,nsg,Ne.symm nag,Ne.symm nsg,aP,Ne.symm aP,n5g,Ne.symm n5g,n5s,Ne.symm n5s,n5a,Ne.symm n5a,n7g,n7s,n7a,Ne.symm n7g,Ne.symm n7s,Ne.symm n7a]) fun x8 i8 h8 hx8 hc8=> ?_
 simp
 refine aK (fun p:TD=> [(0,.loc g 3 0 0),(2,.loc ga 2 0 0),(3,.loc gs 2 0 0),(4,.int .i64 p.n)]) (fun p=>upd (upd (upd (upd (upd b0 ga (some ⟨2,[[.nils,.nils]]⟩)) g5 (some ⟨4,jv (tj x1 x2 x3 x4 x5 x6)⟩)) p.g (some ⟨3,mv p.ms⟩)) gs (some ⟨2,[[.lsl g5 4 0 4,.lsl p.g 3 0 p.ms.length]]⟩)) g (some (cur bs p.i p.h)))
  (fun p=>(p.n≤2∧p.ms.length+p.n≤5)∧(∀m,m∈p.ms→zO m)∧eS bs p.i∧(0≤p.g∧ ¬ p.g=g∧ ¬ p.g=gs∧ ¬ p.g=g5∧ ¬ p.g=ga∧b0 p.g=none)) (fun p=>p.n) 56 ⟨x8.toNat,[⟨0,2,1⟩,⟨2,3,x7⟩,⟨3,1,1⟩],g7,i8,h8⟩
  ⟨⟨by simp only;omega,by simp;omega⟩,fun m hm=> ?_,hc8,hg7,n7g,n7s,n75,n7a,b07⟩ ⟨rfl,by simp;omega,by intro z b hz;simp only[aA] at hz ⊢;grind⟩ ?_
 ·simp only[List.mem_cons,List.not_mem_nil,or_false] at hm
  rcases hm with rfl | rfl | rfl
  ·unfold zO;simp
  ·unfold zO;simp;omega
  ·unfold zO;simp
 rintro⟨n,ms,gm,ic,hcu⟩ ⟨⟨hn,hml⟩,hms,hcc,hgm,nmg,lX,nm5,nma,b0m⟩
 simp only at hn hml hms hcc hgm nmg lX nm5 nma b0m
 refine aC ?_
 simp
 refine⟨fun hp=> ?_,fun hp=> ?_⟩
 ·refine pP aQ (upd (upd (upd b0 ga (some ⟨2,[[.nils,.nils]]⟩)) g5 (some ⟨4,jv (tj x1 x2 x3 x4 x5 x6)⟩)) gs (some ⟨2,[[.lsl g5 4 0 4,.lsl gm 3 0 ms.length]]⟩)) (by intro z b hz;simp only[aA,aJ] at hz ⊢;grind) [0,1,2,4,7] 10 14 (by kernel_rfl) ?_
  simp[nag,nsg,Ne.symm nag,Ne.symm nsg,aP,Ne.symm aP,n5g,Ne.symm n5g,n5s,Ne.symm n5s,n5a,Ne.symm n5a,nmg,Ne.symm nmg,lX,Ne.symm lX,nm5,Ne.symm nm5,nma,Ne.symm nma]
  refine Dz 3 ?_
  simp
  refine aT bs ic hcu g 2 (by omega) hcc (by simp[nag,nsg,Ne.symm nag,Ne.symm nsg,aP,Ne.symm aP,n5g,Ne.symm n5g,n5s,Ne.symm n5s,n5a,Ne.symm n5a,nmg,Ne.symm nmg,lX,Ne.symm lX,nm5,Ne.symm nm5,nma,Ne.symm nma]) fun y1 j1 k1 hy1 hd1=> ?_
  simp
  refine⟨by intro z b hz;simp only[aA,aJ] at hz ⊢;grind,Dz 5 ?_⟩
  simp
  refine aT bs j1 k1 g 2 (by omega) hd1 (by simp) fun y2 j2 k2 hy2 hd2=> ?_
  have wy2:IntKind.i64.wrap (2+y2)=2+y2:=i64_in (by omega) (by omega)
  simp
  refine⟨by intro z b hz;simp only[aA,aJ] at hz ⊢;grind,Cg (fuel:=7) [6] (by intro z b hz;simp only[aA,aJ] at hz ⊢;grind) (by kernel_rfl) ?_⟩
  simp[wy2]
  refine Dz 8 ?_
  simp
  refine aT bs j2 k2 g 3 (by omega) hd2 (by simp) fun y3 j3 k3 hy3 hd3=> ?_
  have wy3:IntKind.i64.wrap (1+y3)=1+y3:=i64_in (by omega) (by omega)
  simp
  refine⟨by intro z b hz;simp only[aA,aJ] at hz ⊢;grind,Dz 9 ?_⟩
  simp[wy3]
  refine⟨by intro z b hz;simp only[aA,aJ] at hz ⊢;grind,Dz 10 ?_⟩
  simp
  refine⟨by intro z b hz;simp only[aA,aJ] at hz ⊢;grind,Dz 11 ?_⟩
  simp
  intro gc hgc ncg ncs ncm nc5 nca b0c
  refine⟨by intro z b hz;simp only[aA,aJ] at hz ⊢;grind,Dz 12 ?_⟩
  simp[nag,nsg,Ne.symm nag,Ne.symm nsg,aP,Ne.symm aP,n5g,Ne.symm n5g,n5s,Ne.symm n5s,n5a,Ne.symm n5a,nmg,Ne.symm nmg,lX,Ne.symm lX,nm5,Ne.symm nm5,nma,Ne.symm nma,ncg,Ne.symm ncg,ncs,Ne.symm ncs,ncm,Ne.symm ncm,nc5,Ne.symm nc5,nca,Ne.symm nca,appV,elsV,Int.not_lt.2 hgm,Int.not_lt.2 hgc]
  refine⟨by omega,fun gd hgd hh=> ?_⟩
  obtain⟨ndg,nds,nd5,nda,b0d⟩: ¬ gd=g∧ ¬ gd=gs∧ ¬ gd=g5∧ ¬ gd=ga∧b0 gd=none:=by
   by_cases e:gd=gm
   ·rw[e];exact⟨nmg,lX,nm5,nma,b0m⟩
   ·have:=hh e;grind
  clear hh
  refine⟨by intro z b hz;simp only[aA,aJ] at hz ⊢;grind,Dz 13 ?_⟩
  simp[nag,nsg,Ne.symm nag,Ne.symm nsg,aP,Ne.symm aP,n5g,Ne.symm n5g,n5s,Ne.symm n5s,n5a,Ne.symm n5a,nmg,Ne.symm nmg,lX,Ne.symm lX,nm5,Ne.symm nm5,nma,Ne.symm nma,ncg,Ne.symm ncg,ncs,Ne.symm ncs,ncm,Ne.symm ncm,nc5,Ne.symm nc5,nca,Ne.symm nca,ndg,Ne.symm ndg,nds,Ne.symm nds,nd5,Ne.symm nd5,nda,Ne.symm nda]
  refine⟨by intro z b hz;simp only[aA,aJ] at hz ⊢;grind,bX (i:=14) (by kernel_rfl) rfl rfl rfl ?_⟩
  simp[nag,nsg,Ne.symm nag,Ne.symm nsg,aP,Ne.symm aP,n5g,Ne.symm n5g,n5s,Ne.symm n5s,n5a,Ne.symm n5a,nmg,Ne.symm nmg,lX,Ne.symm lX,nm5,Ne.symm nm5,nma,Ne.symm nma,ncg,Ne.symm ncg,ncs,Ne.symm ncs,ncm,Ne.symm ncm,nc5,Ne.symm nc5,nca,Ne.symm nca,ndg,Ne.symm ndg,nds,Ne.symm nds,nd5,Ne.symm nd5,nda,Ne.symm nda]
  refine Dy ?_
  have wn:IntKind.i64.wrap ((n:Int) - 1)=((n - 1:Nat):Int):=by rw[i64_in (by omega) (by omega)];omega
  simp[wn,aB]
  have emv:List.take ms.length (mv ms)++ [[V.int IntKind.i64 y1,V.int IntKind.i64 (2+y2),V.int IntKind.i64 (1+y3)]]=mv (ms++ [⟨y1,2+y2,1+y3⟩]):=by
   rw[←Dh ms,List.take_length];simp[mv,Mb.c]
  refine⟨⟨n - 1,ms++ [⟨y1,2+y2,1+y3⟩],gd,j3,k3⟩,⟨⟨by simp only;omega,by simp;omega⟩,fun m hm=> ?_,hd3,hgd,ndg,nds,nd5,nda,b0d⟩,by simp only;omega,rfl,by simp,?_⟩
  ·rcases List.mem_append.1 hm with hm | hm
   ·exact hms m hm
   ·obtain rfl:m=_:=by simpa using hm
    unfold zO;simp only;omega
  ·rw[emv]
   intro z b hz
   simp only[aA,aJ,List.length_append,List.length_singleton] at hz ⊢
   grind
 ·refine bZ 2 3 (.ptr (Str.mk (tj x1 x2 x3 x4 x5 x6) ms).c) (upd (upd b0 ga (some ⟨2,[[.nils,.nils]]⟩)) g (some (cur bs ic hcu))) (by intro z b hz;simp only[aA,aJ] at hz ⊢;grind) (Et (g1:=g5) (g2:=gm) hg5 hgm (by simp[dropB,tj,b0s,nag,nsg,Ne.symm nag,Ne.symm nsg,aP,Ne.symm aP,n5g,Ne.symm n5g,n5s,Ne.symm n5s,n5a,Ne.symm n5a,nmg,Ne.symm nmg,lX,Ne.symm lX,nm5,Ne.symm nm5,nma,Ne.symm nma]) (by simp[dropB,b05,nag,nsg,Ne.symm nag,Ne.symm nsg,aP,Ne.symm aP,n5g,Ne.symm n5g,n5s,Ne.symm n5s,n5a,Ne.symm n5a,nmg,Ne.symm nmg,lX,Ne.symm lX,nm5,Ne.symm nm5,nma,Ne.symm nma]) (by simp[dropB,b0m,nag,nsg,Ne.symm nag,Ne.symm nsg,aP,Ne.symm aP,n5g,Ne.symm n5g,n5s,Ne.symm n5s,n5a,Ne.symm n5a,nmg,Ne.symm nmg,lX,Ne.symm lX,nm5,Ne.symm nm5,nma,Ne.symm nma])) ?_
  refine aC ?_
  simp[Str.c,nag,Ne.symm nag]
  rw[aX]
  refine⟨[_],by simp[nag];rfl,?_⟩
  have hok:=Tt hx1 hx2 hx3 hx4 hx5 hx6 (ms:=ms) (by omega) hms
  exact hK ⟨tj x1 x2 x3 x4 x5 x6,ms⟩ ic hcu _ hok (by simp[tj]) hcc (by simp[nag,Ne.symm nag]) (fun x y hx hy=>by have:=b0k x hx;simp only[aA];grind)
theorem Y3 {bl:Int→Option Blk} {K:V→(Int→Option Blk)→Prop} (bs:List Int) (i h g:Int) (hc:eS bs i) (hb:bl g=some (cur bs i h)) (hK:Ul bl K bs g):
  bJ Tryz.prog 144 [.loc g 3 0 0] bl K:=by
 refine aZ Tryz.func144 rfl rfl (by rw[Tryz.ntmps144];simp) ?_
 rw[Tryz.ntmps144,Tryz.results144]
 refine aC ?_
 simp
 intro ga Hv hga
 have nag:ga≠g:=fun e=>by rw[e,hb] at hga;cases hga
 refine pK bs i h g 3 (by omega) hc (by simp[nag,Ne.symm nag,hb]) fun x i1 h1 hc1=> ?_
 have hK2: ∀(s:Str) (i' h':Int) bl',sOk s=true→3≤s.js.length→eS bs i'→bl' g=some (cur bs i' h')→(∀x y,x≠g→upd (upd bl ga (some ⟨2,[[.nils,.nils]]⟩)) g (some (cur bs i1 h1)) x=some y→bl' x=some y)→K (.agg s.c) (upd bl' ga (some ⟨2,[s.c]⟩)):=fun s i' h' bl' q1 q2 q3 q4 q5=>
  hK s i' h' _ q1 q2 q3 (by simp[Ne.symm nag,q4]) (fun x y hx hy=>by
   have e1:x≠ga:=fun e=>by rw[e,hga] at hy;cases hy
   rw[aA,if_neg e1]
   exact q5 x y hx (by rw[aA,if_neg hx,aA,if_neg e1];exact hy))
 have aFK: ∀bl':Int→Option Blk,(∀x y,x≠g→upd (upd bl ga (some ⟨2,[[.nils,.nils]]⟩)) g (some (cur bs i1 h1)) x=some y→bl' x=some y)→bl' ga=some ⟨2,[[.nils,.nils]]⟩:=fun bl' q=>q ga _ nag (by simp[nag])
 cases x
 ·simp
  refine X3 bs i1 h1 g hc1 (by simp) fun s i' h' bl' q1 q2 q3 q4 q5=> ?_
  have e2:=aFK bl' q5
  simp[Str.c,e2]
  rw[aX]
  refine⟨[_],by simp;rfl,?_⟩
  exact hK2 s i' h' bl' q1 q2 q3 q4 q5
 ·simp
  refine Dl bs i1 h1 g hc1 (by simp) fun s i' h' bl' q1 q2 q3 q4 q5=> ?_
  have e2:=aFK bl' q5
  simp[Str.c,e2]
  rw[aX]
  refine⟨[_],by simp;rfl,?_⟩
  exact hK2 s i' h' bl' q1 q2 q3 q4 q5

theorem Il {js:List J} {ns:List Int} (hl:ns.length=2*js.length) (h: ∀x,x∈ns→ -8≤x∧x≤8):jJ js ns=true:=by
 unfold jJ
 rw[Bool.and_eq_true]
 refine⟨by simpa using hl,List.all_eq_true.2 fun x hx=> ?_⟩
 have:=h x hx
 simp[iJ];omega
theorem Vd {s:Str} (h:sOk s=true):s.js.length≤6:=by
 unfold sOk at h
 simp only[Bool.and_eq_true,decide_eq_true_eq] at h
 exact h.1.1.1
theorem Q0 {bl:Int→Option Blk} {K:V→(Int→Option Blk)→Prop} (bs:List Int) (i h g:Int) (hc:eS bs i) (hb:bl g=some (cur bs i h))
  (hK: ∀(s:Str) (ns:List Int) bl',lOk s ns=true→3≤s.js.length→(∀x,x∈ns→ -8≤x∧x≤8)→(∀x y,x≠g→bl x=some y→bl' x=some y)→K (.tup [.agg s.c,.sl (iv ns)]) bl'):
  bJ Tryz.prog 69 [.loc g 3 0 0] bl K:=by
 refine aZ Tryz.func69 rfl rfl (by rw[Tryz.ntmps69];simp) ?_
 rw[Tryz.ntmps69,Tryz.results69]
 refine aE ?_
 simp
 intro ga Hv hga
 have nag:ga≠g:=fun e=>by rw[e,hb] at hga;cases hga
 refine aE ?_
 simp
 refine Y3 bs i h g hc (by simp[Ne.symm nag,hb]) fun s i1 h1 b1 q1 q2 q3 q4 q5=> ?_
 have ea:b1 ga=some ⟨2,[[.nils,.nils]]⟩:=q5 ga _ nag (by simp)
 have q6: ∀x y,x≠g→bl x=some y→b1 x=some y:=fun x y hx hy=>q5 x y hx (by rw[aA,if_neg (fun e=>by rw[e,hga] at hy;cases hy)];exact hy)
 have hnj:=Vd q1
 simp[Str.c]
 intro g4 hg4 hb4
 have n4g:g4≠g:=fun e=>by rw[e,q4] at hb4;cases hb4
 have n4a:g4≠ga:=fun e=>by rw[e,ea] at hb4;cases hb4
 have b04:bl g4=none:=by
  rcases e:bl g4 with _ | y
  ·rfl
  ·rw[q6 g4 y n4g e] at hb4;cases hb4
 refine aE ?_
 refine bY aQ (upd (upd bl g none) g4 (some ⟨2,[s.c]⟩)) (by
  intro z b hz
  have:=q6 z
  simp only[aA,Str.c] at hz ⊢
  grind) [0,1,2] 3 (by kernel_rfl) ?_
 simp[Str.c,n4g,n4a,Ne.symm n4g,Ne.symm n4a]
 refine Dz 3 ?_
 simp
 refine U5 bs i1 h1 g s ⟨by omega,hnj⟩ q3 (by simp[Ne.symm n4g,q4]) fun g2 ns i2 h2 b2 hg2 hb2 hl hr hc2 hbg aK6 hk2=> ?_
 have n2g:g2≠g:=fun e=>by rw[e] at hb2;simp[Ne.symm n4g,q4] at hb2
 have n24:g2≠g4:=fun e=>by rw[e] at hb2;simp at hb2
 have n2a:g2≠ga:=fun e=>by rw[e] at hb2;simp[Ne.symm n4a,ea] at hb2
 have b12:b1 g2=none:=by simpa [n24] using hb2
 have b02:bl g2=none:=by
  rcases e:bl g2 with _ | y
  ·rfl
  ·rw[q6 g2 y n2g e] at b12;cases b12
 have ea2:b2 ga=some ⟨2,[[.nils,.nils]]⟩:=hk2 ga _ nag (by simp[Ne.symm n4a,ea])
 have e42:b2 g4=some ⟨2,[s.c]⟩:=hk2 g4 _ n4g (by simp[Str.c])
 have hs2: ∀x y,x≠g→bl x=some y→b2 x=some y:=fun x y hx hy=>hk2 x y hx (by rw[aA,if_neg (fun e=>by rw[e,b04] at hy;cases hy)];exact q6 x y hx hy)
 have mK: ∀X:Option Blk,Sub (upd (upd bl g none) g4 (some ⟨2,[s.c]⟩)) (upd b2 ga X):=fun X z b hz=>by
  have:=hs2 z
  simp only[aA] at hz ⊢
  grind
 have Pr:Sub (upd (upd bl g none) g4 (some ⟨2,[s.c]⟩)) b2:=fun z b hz=>by
  have:=hs2 z
  simp only[aA] at hz ⊢
  grind
 simp only[Str.c] at mK Pr
 simp
 refine⟨Pr,Dz 4 ?_⟩
 simp[ea2]
 refine⟨mK _,Dz 5 ?_⟩
 simp
 refine⟨mK _,Dy ?_⟩
 simp
 refine bZ 1 3 (.sl (iv ns)) (upd (upd bl g none) ga (some ⟨2,[s.c]⟩)) (fun z b hz=>by
  have:=hs2 z
  simp only[aA,Str.c] at hz ⊢
  grind) (by
   have e:=cM (bl:=upd b2 ga (some ⟨2,[s.c]⟩)) (bl0:=upd (upd bl g none) ga (some ⟨2,[s.c]⟩)) (sz:=1) (n:=2*s.js.length) hg2 (by simp[n2a,n2g,b02]) (els:=iv ns) (by simp[n2a,aK6]) (by simpa using hl) (lS ns)
   simpa [Str.c] using e) ?_
 refine aC ?_
 simp
 rw[aX]
 refine⟨[.agg s.c,.sl (iv ns)],by simp[Str.c],?_⟩
 refine hK s ns _ (by unfold lOk;rw[q1,Il hl hr];rfl) q2 hr (fun x y hx hy=> ?_)
 have e1:x≠ga:=fun e=>by rw[e,hga] at hy;cases hy
 simp[aA,hx,e1,hy]
theorem M9 {bl:Int→Option Blk} {K:V→(Int→Option Blk)→Prop} (bs:List Int) (hn:bs.length≤1048576) (hbs: ∀x,x∈bs→0≤x∧x<256)
  (hK: ∀(s:Str) (ns:List Int) bl',lOk s ns=true→3≤s.js.length→(∀x,x∈ns→ -8≤x∧x≤8)→Sub bl bl'→K (.tup [.agg s.c,.sl (iv ns)]) bl'):
  bJ Tryz.prog 15 [.sl (bv bs)] bl K:=by
 refine aZ Tryz.func15 rfl rfl (by rw[Tryz.ntmps15];simp) ?_
 rw[Tryz.ntmps15,Tryz.results15]
 refine aC ?_
 simp
 intro ga Hv hga
 refine zG bs hn fun g h hg0 hg=> ?_
 have nga:g≠ga:=fun e=>by rw[e] at hg;simp at hg
 have bg:bl g=none:=by simpa [nga] using hg
 simp
 refine Q0 bs 0 h g ⟨hn,hbs,by omega,by omega⟩ (by simp) fun s ns b1 q1 q1a q1b q2=> ?_
 have ea:b1 ga=some ⟨2,[[.nils,.nils]]⟩:=q2 ga _ (Ne.symm nga) (by simp[Ne.symm nga])
 simp[Str.c,ea]
 rw[aX]
 refine⟨[.agg s.c,.sl (iv ns)],by simp[Str.c],?_⟩
 refine hK s ns _ q1 q1a q1b (fun x y hy=> ?_)
 have e1:x≠ga:=fun e=>by rw[e,hga] at hy;cases hy
 have e2:x≠g:=fun e=>by rw[e,bg] at hy;cases hy
 show upd b1 ga (some ⟨2,[[.sl (jv s.js),.sl (mv s.ms)]]⟩) x=some y
 rw[aA,if_neg e1]
 exact q2 x y e2 (by simp[aA,e1,e2,hy])

theorem tL {neg:Bool} {a:Nat} (h:a≤1000) (hn:neg=true→a≠0):mF neg (lim a)=true:=by
 unfold mF
 rw[A0 (aF.2 (Nat.lt_of_le_of_lt h (by decide+kernel)))]
 cases neg
 ·rfl
 ·simp[cW,hn rfl]
theorem U4 (x y:Int) (hx:x.natAbs≤1000) (hy:y.natAbs≤1000):RO Tryz.prog 234 [.agg (biC x),.agg (biC y)] (.agg (ro (J2 (decide (x<0) !=decide (y<0)) x.natAbs y.natAbs)).c):=by
 have lx:(lim x.natAbs).length≤60:=aF.2 (Nat.lt_of_le_of_lt hx (by decide+kernel))
 have ly:(lim y.natAbs).length≤60:=aF.2 (Nat.lt_of_le_of_lt hy (by decide+kernel))
 have kx:=kD (decide (x<0)) (lim x.natAbs) (by omega)
 have ky:=kD (decide (y<0)) (lim y.natAbs) (by omega)
 rw[tL hx (fun h=>by simp at h;omega)] at kx
 rw[tL hy (fun h=>by simp at h;omega)] at ky
 have hL:=Cp (decide (x<0) !=decide (y<0)) x.natAbs y.natAbs lx ly
 generalize ro (J2 (decide (x<0) !=decide (y<0)) x.natAbs y.natAbs)=z at hL ⊢
 refine aI Tryz.func234 rfl rfl (by rw[Tryz.ntmps234];simp) fun bl=> ?_
 rw[Tryz.ntmps234,Tryz.results234]
 refine aE ?_
 simp[bA]
 intro g hg0 hg g2 hg2 h2g hb2 g3 hg3 h32 h3g hb3
 refine aE ?_
 simp
 refine dN [(2,.loc g 2 0 0),(3,.loc g2 2 0 0),(4,.loc g3 3 0 0)] _ (upd (upd (upd bl g (some ⟨2,[biC x]⟩)) g2 (some ⟨2,[biC y]⟩)) g3 (some ⟨3,[[.bool false,.nils,.nils]]⟩)) 12 (.bool false) (upd (upd (upd bl g (some ⟨2,[biC x]⟩)) g2 (some ⟨2,[biC y]⟩)) g3 (some ⟨3,[[.bool false,.nils,.nils]]⟩)) ⟨rfl,by simp,sub_eq (by simp[bA])⟩ rfl ?_ ?_
 ·simp[bA,h2g,Ne.symm h2g,h32,Ne.symm h32,h3g,Ne.symm h3g]
  refine aD kx ?_
  simp[bA,h2g,Ne.symm h2g,h32,Ne.symm h32,h3g,Ne.symm h3g]
  refine aD ky ?_
  simp
 simp
 refine aC ?_
 simp[bA,h2g,Ne.symm h2g,h32,Ne.symm h32,h3g,Ne.symm h3g]
 refine aD hL ?_
 simp[RT.c]
 exact aN [.agg z.c] 1 (by simp[RT.c]) (by simp[frz,RT.c,V.cl]) (by intro u b hz;simp only[aA] at hz ⊢;grind)
theorem Nk (n:Int) (d:Int) (hn: -10≤n∧n≤10) (hd:d=1∨d=2∨d=3): ∃u:Int,J2 (decide (n<0) !=decide (d<0)) n.natAbs d.natAbs=q6 u∧ -60≤u∧u≤60:=by
 have hd0:decide (d<0)=false:=by rcases hd with rfl | rfl | rfl<;>rfl
 rw[hd0,Bool.bne_false]
 unfold J2
 rw[Bc]
 rcases hd with rfl | rfl | rfl
 ·refine⟨n*6,?_,by omega,by omega⟩
  have:mkRat n (1:Int).natAbs=r6 (n*6):=(Rat.mkRat_mul_right (d:=1) (a:=6) (by decide)).symm
  rw[if_neg (by decide),this];unfold fit q6;rw[if_pos (kU (by omega))]
 ·refine⟨n*3,?_,by omega,by omega⟩
  have:mkRat n (2:Int).natAbs=r6 (n*3):=(Rat.mkRat_mul_right (d:=2) (a:=3) (by decide)).symm
  rw[if_neg (by decide),this];unfold fit q6;rw[if_pos (kU (by omega))]
 ·refine⟨n*2,?_,by omega,by omega⟩
  have:mkRat n (3:Int).natAbs=r6 (n*2):=(Rat.mkRat_mul_right (d:=3) (a:=2) (by decide)).symm
  rw[if_neg (by decide),this];unfold fit q6;rw[if_pos (kU (by omega))]
theorem Fc (n d:Int) (hn: -10≤n∧n≤10) (hd:d=1∨d=2∨d=3): ∃u:Int,(-60≤u∧u≤60)∧RO Tryz.prog 170 [.int .i64 n,.int .i64 d] (.agg (ro (q6 u)).c):=by
 obtain⟨u,eu,hu⟩:=Nk n d hn hd
 refine⟨u,hu,?_⟩
 have h1:=tG n (by omega)
 have h2:=tG d (by omega)
 have h3:=U4 n d (by omega) (by omega)
 rw[eu] at h3
 generalize ro (q6 u)=z at h3 ⊢
 refine aI Tryz.func170 rfl rfl (by rw[Tryz.ntmps170];simp) fun bl=> ?_
 rw[Tryz.ntmps170,Tryz.results170]
 refine aC ?_
 simp
 intro g hg0 hg
 refine aD h1 ?_
 simp
 refine aD h2 ?_
 simp
 refine aD h3 ?_
 simp[RT.c]
 exact aN [.agg z.c] 1 (by simp[RT.c]) (by simp[frz,RT.c,V.cl]) (by simp[hg])
theorem Ca {bl:Int→Option Blk} {K:V→(Int→Option Blk)→Prop} (bs:List Int) (i h g:Int) (hc:eS bs i) (hb:bl g=some (cur bs i h))
  (hK: ∀(u i' h':Int) bl', -60≤u∧u≤60→eS bs i'→bl' g=some (cur bs i' h')→(∀x y,x≠g→bl x=some y→bl' x=some y)→K (.agg (ro (q6 u)).c) bl'):bJ Tryz.prog 94 [.loc g 3 0 0] bl K:=by
 refine aZ Tryz.func94 rfl rfl (by rw[Tryz.ntmps94];simp) ?_
 rw[Tryz.ntmps94,Tryz.results94]
 refine aC ?_
 simp
 intro ga Hv hga
 have nag:ga≠g:=fun e=>by rw[e,hb] at hga;cases hga
 refine aT bs i h g 21 (by omega) hc (by simp[Ne.symm nag,hb]) fun x1 i1 h1 hx1 hc1=> ?_
 have w1:IntKind.i64.wrap (x1 - 10)=x1 - 10:=i64_in (by omega) (by omega)
 simp[w1,nag,Ne.symm nag]
 intro g5 hg5 n5g n5a hb5
 refine lO bs i1 h1 g g5 [1,1,1,2,3] (by simp) hc1 (by simp[Ne.symm n5g]) (by simp[iv,show List.range 5= [0,1,2,3,4] from rfl]) n5g hg5 fun x2 i2 h2 hx2 hc2=> ?_
 have aKE:x2=1∨x2=2∨x2=3:=by simpa using hx2
 obtain⟨u,hu,hR⟩:=Fc (x1 - 10) x2 (by omega) aKE
 have hK2:=fun bl'=>hK u i2 h2 bl' hu hc2
 generalize ro (q6 u)=z at hR hK2
 simp
 refine aD hR ?_
 simp[RT.c,nag,Ne.symm nag,n5g,n5a,Ne.symm n5g,Ne.symm n5a]
 rw[aX]
 refine⟨[.agg z.c],by simp[RT.c],?_⟩
 exact hK2 _ (by simp[Ne.symm nag]) (fun x y hx hy=>by simp only[aA];grind)
structure MD where
 us:List Int
 g:Int
 i:Int
 h:Int
 b:Int→Option Blk
def rq6 (us:List Int):List RT:=us.map fun u=>ro (q6 u)
@[simp] theorem S9 (us : List Int) : (rq6 us).length = us.length := by simp [rq6]

def MX.fit (m:MX):Prop:=tV m.cells 1048576∧aKK m.cells≤100000000
def aON (k:Nat) (m:MX):MX:=⟨m.r,m.c,mkQs k m.cells⟩

def aPE (cells:List (List (Option Rat))) (v:List (Option Rat)):List (Option Rat):=cells.map fun row=>aGT row v row.length

def aE9 (s:Str) (l:List Int) (j x y:Int):Bool:=lOk s l && (decide (0≤j)&& decide (j<s.js.length))&& (decide (-200≤x)&& decide (x≤200))&& (decide (-200≤y)&& decide (y≤200))&&
 iJ (lat l (2*j.toNat)+x)&& iJ (lat l (2*j.toNat+1)+y)
def aLE (l:List Int) (j x:Int):List Int:=l.set (2*j.toNat) (lat l (2*j.toNat)+x)
def aKP (l:List Int) (j x y:Int):List Int:=(aLE l j x).set (2*j.toNat+1) (lat l (2*j.toNat+1)+y)
def aO6 (s:Str) (l:List Int) (j x y:Int):List Int:=if aE9 s l j x y=true then aKP l j x y else []
def aN6 (ns:List Int) (b:Bool):D:= .t [fl 1 (iv ns),.c (.bool b)]

end Go.Proofs.YticmgmemnpcbbaaGreat.Vm

namespace Go.Proofs.YticmgmemnpcbbaaGreat.Vm
open Go Go.Proofs
set_option linter.unusedSimpArgs false
set_option linter.unusedVariables false

def szW :List (List Int)→Int→Int
 | [], left => left
 | w :: ws, left => if less left w.length < 0 then -1 else szW ws (less left w.length)
def aO2 (ws:List (List Int)) (left:Int):Int:=if less left ws.length<0 then -1 else szW ws (less left ws.length)
def aNW (ws:List (List Int)) (i:Nat):Nat:=(ws.take i).flatten.length
def aNU (bl:Int→Option Blk) (n:Nat) (v:V) (gs:List Int):Prop:= ∃rows els,rows.length=n∧((rows= []∧v= .nils∧gs= [])∨ ∃g gs',v= .lsl g 1 0 n∧gs=g::gs'∧g∉gs'∧bl g=some ⟨1,els⟩∧(g<0→els= [])∧OwnR bl 1 rows els gs')
structure St2 where
 i:Nat
 b:Int→Option Blk
structure aOM (ws : List (List Int)) : Prop where
 n:ws.length≤140737488351232
 w: ∀w,w∈ws→w.length≤140737488351232

def mixC (ws:List (List Int)) (wt:List Int) (i:Nat):Nat→Int
 | 0 => 0
 | c + 1 => mixC ws wt i c + lat wt c * lat (ws.getD c []) i
def aD3 (m:Nat) (ws:List (List Int)) (wt:List Int) (c:Nat):List Int:=(List.range m).map fun i=>mixC ws wt i c
def cOk (s:Str) (ws:List (List Int)) (wt:List Int) (c:Nat):Bool:=jJ s.js (ws.getD c [])&& (decide (0≤lat wt c)&& decide (lat wt c≤100))
def aFV (s:Str) (ws:List (List Int)) (wt:List Int):Bool:=decide (ws.length=wt.length)&& decide (ws.length≤10)&& sOk s && decide (∀c,c<ws.length→cOk s ws wt c=true)&& jJ s.js (aD3 (2*s.js.length) ws wt ws.length)
def aOP (s:Str) (ws:List (List Int)) (wt:List Int):List Int:=if aFV s ws wt=true then aD3 (2*s.js.length) ws wt ws.length else []

end Go.Proofs.YticmgmemnpcbbaaGreat.Vm

namespace Go.Proofs.YticmgmemnpcbbaaGreat.Vm
open Go Go.Proofs
set_option linter.unusedSimpArgs false
set_option linter.unusedVariables false
theorem aGN {s:Str} (h:sOk s=true):s.sz:=by
 have hs:=rZ h
 have h1:=hs.nj
 have h2:=hs.nm
 refine⟨by omega,by omega,fun j hj=> ?_⟩
 unfold sOk at h
 simp only[Bool.and_eq_true,decide_eq_true_eq] at h
 obtain⟨i,hi,rfl⟩:=List.getElem_of_mem hj
 have:=(h.1.2 i hi).1
 unfold J.ok isName at this
 simp only[Bool.and_eq_true,decide_eq_true_eq] at this
 omega
theorem Jr {cs:List V} (h:CO Tryz.prog 22 cs): ∃ns:List Int,cs= [.sl (bv ns)]∧ns.length≤140737488351232∧ ∀n,n∈ns→0≤n∧n<256:=by
 obtain⟨xs,rfl,hx,hl⟩:=Ew Tryz.underlying22 h
 rw[show Tryz.prog.bytesOf 5=1 by kernel_rfl] at hl
 have: ∃ns:List Int,xs=bv ns∧ ∀n,n∈ns→0≤n∧n<256:=by
  clear hl h
  induction xs with
  | nil => exact ⟨[], rfl, fun n hn => by cases hn⟩
  | cons x xs ih =>
    obtain⟨ns,rfl,hns⟩:=ih fun y hy=>hx y (List.mem_cons_of_mem _ hy)
    obtain⟨n,rfl,hn⟩:=Rn Tryz.underlying5 (hx x List.mem_cons_self)
    refine⟨n::ns,rfl,fun m hm=> ?_⟩
    rcases List.mem_cons.1 hm with rfl | hm
    ·have:=wf_u8 hn;omega
    ·exact hns m hm
 obtain⟨ns,rfl,hns⟩:=this
 exact⟨ns,rfl,by simp at hl;omega,hns⟩

def aMZ (P:Program) (ops:Array Oper) (blK:Int→Option Blk) (last:List Nat) (K:St→Prop):List (List Nat×Nat)→St→Prop
 | [] => HoistF P (ops.toList.map (·.dst)) blK (last.filterMap fun i => ops[i]?) K
 | (is, i) :: r => HoistF P (ops.toList.map (·.dst)) blK (is.filterMap fun i => ops[i]?) (HStep P ops blK i (aMZ P ops blK last K r))
def hIdx (last:List Nat):List (List Nat×Nat)→List Nat
 | [] => last
 | (is, i) :: r => is ++ i :: hIdx last r

theorem G4 (a b:RT) (hm:a.m.length≤140737488351232) (hd:a.d.length≤140737488351232):RO Tryz.prog 31 [.agg a.c,.agg b.c] (.bool (decide (a=b))):=by
 have e:decide (a=b)=(decide (a.neg=b.neg)&& decide (a.m=b.m)&& decide (a.d=b.d)):=by
  cases a;cases b;simp[Bool.and_assoc]
 rw[e]
 refine aI Tryz.func31 rfl rfl (by rw[Tryz.ntmps31];simp) fun bl=> ?_
 rw[Tryz.ntmps31,Tryz.results31]
 refine aE ?_
 simp[RT.c]
 intro g1 hg1 hb1 g2 hg2 h21 hb2
 refine bZ 1 2 (.ptr a.c) (upd bl g2 (some ⟨3,[b.c]⟩)) (by intro z y hz;simp only[aA,RT.c] at hz ⊢;grind) (by simp[frz,dropB,hb1,h21,Ne.symm h21,RT.c,V.cl]) ?_
 refine bZ 1 3 (.ptr b.c) bl (by simp[hb2]) (by simp[frz,dropB,hb2,RT.c,V.cl]) ?_
 refine aE ?_
 simp
 refine aV [(2,.ptr a.c),(3,.ptr b.c)] _ bl 4 (.bool (decide (a.neg=b.neg)&& decide (a.m=b.m)&& decide (a.d=b.d))) ⟨rfl,by simp,Sub.refl _⟩ rfl ?_ ?_
 ·simp[RT.c]
  refine⟨fun h1=> ?_,fun h1=>by simp[h1]⟩
  refine aD (oP a.m b.m hm) ?_
  simp[h1]
  refine⟨fun h2=> ?_,fun h2=>by simp[h2]⟩
  refine aD (oP a.d b.d hd) ?_
  simp[h2]
 simp
 refine aC ?_
 simp
 exact aN [.bool _] 0 (by simp;rfl) (by simp[frz]) (Sub.refl _)
def aOK (s:Str) (us:List Int):List Int:=(eC s).map fun w=>dotTo w us s.ms.length

def dMf (m:MX):List D:= [.c (.int .i64 m.r),.c (.int .i64 m.c),fl 3 (rv m.cells)]

structure MOk (m : MX) (r c : Nat) : Prop where
 hr:m.r=r
 hc:m.c=c
 r24:r≤24
 c24:c≤24
 len:m.cells.length=r*c
 ok:gI m.cells=true
 fq:tV m.cells 1048576
def trC (cells:List RT) (r c k:Nat) (i:Nat):List RT:=(List.range i).map fun i=>cells.getD (i*c+k) rz
def aKS (cells:List RT) (r c k i:Nat):List RT:=((List.range k).flatMap fun k=>trC cells r c k r)++trC cells r c k i
def trM (m:MX) (r c:Nat):MX:=⟨c,r,aKS m.cells r c c 0⟩

abbrev MF :=Nat→Nat→Option Rat
def aOJ (M:MF) (i j:Nat) (v:Option Rat):MF:=fun a b=>if a=i∧b=j then v else M a b
def aC9 (r c:Nat) (M:MF):List RT:=(List.range (r*c)).map fun t=>ro (M (t / c) (t % c))
def I2 (M:MF) (i n:Nat):MF:=fun a b=>if a=i then M n b else if a=n then M i b else M a b
def aME (M:MF) (n:Nat) (p:Option Rat):MF:=fun a b=>if a=n then op2 (· / ·) (M a b) p else M a b
def aBD (M:MF) (n k:Nat):MF:=fun a b=>if a=n∨nm (M a k)=0 then M a b else op2 (· - ·) (M a b) (op2 (· * ·) (M a k) (M n b))
def Qn (M:MF) (n k i:Nat):MF:=aBD (aME (I2 M i n) n (I2 M i n n k)) n k
def Ah (M:MF) (r k:Nat) (n:Nat):Nat:=if n<r then if nm (M n k)=0 then Ah M r k (n+1) else n else r
termination_by r - n
def okM (r c:Nat) (M:MF):Bool:=(List.range r).all fun i=>(List.range c).all fun j=>(M i j).isSome
structure RS where
 M:MF
 P:List Nat
def Lt (r c k:Nat) (s:RS):Option RS:=
 if s.P.length<r then
  if Ah s.M r k s.P.length=r then some s
  else if okM r c (Qn s.M s.P.length k (Ah s.M r k s.P.length))=true then some ⟨Qn s.M s.P.length k (Ah s.M r k s.P.length),s.P++ [k]⟩ else none
 else some s
def redTo (r c:Nat) (M:MF):Nat→Option RS
 | 0 => some ⟨M, []⟩
 | k + 1 => (redTo r c M k).bind (Lt r c k)
structure RI (r c k : Nat) (s : RS) : Prop where
 le:s.P.length≤r
 ok:okM r c s.M=true
 fit: ∀i j,okQ (s.M i j)
 zero: ∀i j,s.P.length≤i→i<r→j<k→j<c→s.M i j=some 0
 piv: ∀n (h:n<s.P.length),s.P[n]<k
 inc: ∀m n (hm:m<n) (hn:n<s.P.length),s.P[m]<s.P[n]
def Zs (r c n k:Nat) (M:MF):Prop:= ∀i j,n≤i→i<r→j<k→j<c→M i j=some 0
def aMW (M:MF) (n k:Nat) (p:Option Rat):MF:=fun a b=>if a=n∧k≤b then op2 (· / ·) (M a b) p else M a b
def Tw (M:MF) (n k:Nat):MF:=fun a b=>if a=n∨nm (M a k)=0∨b<k∨nm (M n b)=0 then M a b else op2 (· - ·) (M a b) (op2 (· * ·) (M a k) (M n b))
def aNI (M:MF) (n k i:Nat):MF:=Tw (aMW (I2 M i n) n k (I2 M i n n k)) n k

def aOL (M:MF) (n k i:Nat):MF:=fun a b=>if a<i then Tw M n k a b else M a b
def aO0 (M:MF) (n k i j:Nat):MF:=fun a b=>if a<i∨a=i∧b<j then Tw M n k a b else M a b

def pz (P:List Nat):List Int:=P.map fun(m:Nat)=>(m:Int)
def aOG (M:MF) (i n j:Nat):MF:=fun a b=>if b<j then I2 M i n a b else M a b
def aN2 (M:MF) (n k j:Nat) (p:Option Rat):MF:=fun a b=>if a=n∧k≤b∧b<j then op2 (· / ·) (M a b) p else M a b
inductive Kp (r c : Nat) (M : MF) : MF → List Nat → Prop
 | good (s : RS) (h : redTo r c M c = some s) (P : List Nat) (e : P = s.P) : Kp r c M s.M P
 | bad (X : MF) (P : List Nat) (h : redTo r c M c = none) (ho : okM r c X = false) : Kp r c M X P
structure LR where
 k:Nat
 s:RS
 gp:Int
 gf:Int
 fs:List RT

def aOQ (cells:List RT) (c:Nat):MF:=fun i j=>rd (cells.getD (i*c+j) rz)
def aOY (r c:Nat) (M:MF):V:=match redTo r c M c with
 | some s => .tup [.agg [.int .i64 r, .int .i64 c, .sl (rv (aC9 r c s.M))], .sl (iv (pz s.P)), .bool true]
 | none => .tup [.agg [.int .i64 0, .int .i64 0, .sl []], .sl [], .bool false]

def ix :List Nat→Nat→Option Nat
 | [], _ => none
 | p :: ps, j => if p = j then some 0 else (ix ps j).map (· + 1)
def Ry (M:MF) (P:List Nat) (k j:Nat):Option Rat:=match ix P j with
 | some i => (M i k).map (- ·)
 | none => if j = k then some 1 else some 0
def aCV (M:MF) (P:List Nat) (c k:Nat):List (Option Rat):=(List.range c).map (Ry M P k)
def Uk (P:List Nat) (n:Nat):List Nat:=(List.range n).filter fun k=>(ix P k).isNone
def Lu (M:MF) (P:List Nat) (c n:Nat):List (List (Option Rat)):=(Uk P n).map (aCV M P c)

def rvv (ls:List (List RT)):List (List V):=ls.map fun w=> [.sl (rv w)]
def aPF (r c:Nat) (M:MF):List (List RT)×Bool:=match redTo r c M c with
 | some s => ((Lu s.M s.P c c).map cV, true)
 | none => ([], false)
def aOZ (x:List (List RT)×Bool):V:= .tup [.sl (rvv x.1),.bool x.2]
structure NG where
 k:Nat
 g:Int
end Go.Proofs.YticmgmemnpcbbaaGreat.Vm

namespace Go.Proofs.YticmgmemnpcbbaaGreat.Vm
open Go Go.RowKit Go.Proofs
set_option linter.unusedSimpArgs false
set_option linter.unusedVariables false
theorem jM {α:Type} {l:Array α} {i j:Nat} {x:α} (d:α) (h:i≠j):(l.setIfInBounds i x).getD j d=l.getD j d:=by simp[Array.getD_eq_getD_getElem?,Array.getElem?_setIfInBounds_ne h]
def pureOp :Op→Bool
 | .move _ | .nilCheck _ | .fieldAddr .. | .indexAddr .. => true
 | _ => false
theorem SV.pure {P:Program} {blK:Int→Option Blk} {o:Oper} {σ:St} {v:V} (hp:pureOp o.op=true) (h:SV P blK o σ v):SV P (fun _=>none) o σ v:=by
 rcases h with ⟨hq,hT⟩| ⟨c,f,p,n,ys,ho,hc,hp2,hro⟩
 ·refine .inl ⟨hq,?_⟩
  have fin: ∀ {v':V},(σ.fH blK).put o.dst v'=(σ.fH blK).put o.dst v→(σ.fH fun _=>none).put o.dst v'=(σ.fH fun _=>none).put o.dst v:=by
   intro v' h
   cases hd:o.dst with
   | none => rfl
   | some d =>
     rw[hd] at h
     have h2:upd σ.sl d v'=upd σ.sl d v:=congrArg St.sl h
     show({ n:=σ.n,sl:=upd σ.sl d v',bl:=fun _=>none } :St)= { n:=σ.n,sl:=upd σ.sl d v,bl:=fun _=>none }
     rw[h2]
  unfold Vm.T at hT ⊢
  cases ho:o.op<;>rw[ho] at hT hp<;>simp only[eN] at hT ⊢ <;>try (simp[pureOp] at hp;done)
  case move x=>exact fin hT
  case nilCheck x=>obtain⟨u,h1,h2⟩:=hT;exact⟨u,h1,fin h2⟩
  case fieldAddr=>obtain⟨u,h1,h2⟩:=hT;exact⟨u,h1,fin h2⟩
  case indexAddr=>obtain⟨u,h1,h2⟩:=hT;exact⟨u,h1,fin h2⟩
 ·rw[ho] at hp;simp[pureOp] at hp
theorem DY.pure {P:Program} {ops:Array Oper} {blK:Int→Option Blk} {o:Oper} {σ:St} {v:V} (hp:pureOp o.op=true) (h:DY P ops blK o σ v):DY P ops (fun _=>none) o σ v:=by
 unfold DY at h ⊢
 split
 ·rename_i hg;simp only[hg] at h;exact h.pure hp
 ·rename_i j b hg
  simp only[hg] at h
  split
  ·rename_i d hd
   simp only[hd] at h
   rcases fR h with ⟨q,hq,h1,h2⟩| ⟨hq,h1⟩
   ·rw[hq];exact⟨fun hh=>(h1 hh).pure hp,h2⟩
   ·rw[hq];exact h1
  ·rename_i hd;simp only[hd] at h
section
variable {P : Program} {ops : Array Oper}
theorem Ec {blK:Int→Option Blk} {tl:Nat→Bool} {K:St→Prop} {i:Nat} {oi:Oper} {v:V} (hi:ops[i]? =some oi) (hti:tl i=false): ∀(fuel:Nat) (l:Array Bool) (σ:St),
  (∀j oj,ops[j]? =some oj→j≠i→l.getD j true=false→(∀e∈oj.after,Region.binds .any e=true→e.on≠i)→oi.apart ops oj=true)→(late tl l i=false→Sub blK σ.bl)→
  i∈Region.ready .any ops l→DY P ops (fun _=>none) oi σ v→DL P ops blK tl K fuel (l.setIfInBounds i true) (σ.put oi.dst v)→DL P ops blK tl K (fuel+1) l σ:=by
 have hbl: ∀(σ:St),(σ.put oi.dst v).bl=σ.bl:=fun σ=>by cases oi.dst<;>rfl
 have zL: ∀(σ:St),Sub (fun _=>none) σ.bl:=fun σ g b h=>by cases h
 intro fuel
 induction fuel with
 | zero =>
   intro l σ _ hS hr hy H
   refine⟨fun h=>(by rw[h] at hr;cases hr),fun j hj=> ?_⟩
   by_cases hji:j=i
   ·subst hji;exact hy.step hi (zL σ) ⟨fun h=>by rw[hbl];exact hS h,H⟩
   ·have:=ready_mono hj hji
    rw[H.1] at this
    cases this
 | succ fuel ih =>
   intro l σ tC hS hr hy H
   refine⟨fun h=>(by rw[h] at hr;cases hr),fun j hj=> ?_⟩
   by_cases hji:j=i
   ·subst hji;exact hy.step hi (zL σ) ⟨fun h=>by rw[hbl];exact hS h,H⟩
   ·have h1:=H.2 j (ready_mono hj hji)
    obtain⟨D9,oj,hoj,cO⟩:=mem_ready.1 hj
    have Q2: ∀e∈oj.after,Region.binds .any e=true→e.on≠i:=fun e he hb heq=>by
     have h1:=cO e he hb
     have h0:=(mem_ready.1 hr).1
     rw[heq] at h1
     rcases Nat.lt_or_ge i l.size with h' | h'
     ·simp[h'] at h0 h1;rw[h0] at h1;cases h1
     ·simp[Array.getElem?_eq_none h'] at h1
    have h2:=DY.put hoj (tC j oj hoj hji D9 Q2) hy h1
    have vH: ∀k ok,ops[k]? =some ok→k≠i→(l.setIfInBounds j true).getD k true=false→
      (∀e∈ok.after,Region.binds .any e=true→e.on≠i)→oi.apart ops ok=true:=fun k ok hk hki hun hno=>by
     refine tC k ok hk hki ?_ hno
     by_cases hjk:j=k
     ·subst hjk;exact D9
     ·rw[jM true hjk] at hun;exact hun
    refine F3 h2 fun σ' ⟨h3,h4,h5⟩=> ?_
    have aMB:(σ'.put oi.dst v).bl=σ'.bl:=hbl σ'
    have hS':late tl (l.setIfInBounds j true) i=false→Sub blK σ'.bl:=fun hl=>by
     rw[←aMB]
     refine h4 ?_
     unfold late at hl ⊢
     rw[Bool.or_eq_false_iff,List.any_eq_false] at hl ⊢
     have hjs:j<l.size:=by
      rcases Nat.lt_or_ge j l.size with h' | h'
      ·exact h'
      ·simp[Array.getD_eq_getD_getElem?,Array.getElem?_eq_none h'] at D9
     have htj:tl j=false:=by
      have:=hl.2 j (by simp[hjs])
      rw[Array.getD_eq_getD_getElem?,Array.getElem?_setIfInBounds_self_of_lt hjs] at this
      simpa using this
     refine⟨htj,fun k hk hh=> ?_⟩
     simp only[Bool.and_eq_true] at hh
     have hkj:k≠j:=fun e=>by rw[e,htj] at hh;cases hh.1
     have hki:k≠i:=fun e=>by rw[e,hti] at hh;cases hh.1
     refine hl.2 k (by simpa using hk) ?_
     rw[jM false (Ne.symm hki)] at hh
     rw[jM false (Ne.symm hkj),hh.1,hh.2];rfl
    refine⟨fun h=>hS' ?_,ih (l.setIfInBounds j true) σ' vH hS' (ready_mono hr (Ne.symm hji)) h3 ?_⟩
    ·unfold late at h ⊢
     rw[Bool.or_eq_false_iff,List.any_eq_false] at h ⊢
     refine⟨hti,fun k hk hh=> ?_⟩
     simp only[Bool.and_eq_true] at hh
     by_cases hkj:k=j
     ·subst hkj;rw[h.1] at hh;cases hh.1
     ·rw[jM false (Ne.symm hkj)] at hh
      exact h.2 k (by simpa using hk) (by rw[hh.1,hh.2];rfl)
    ·rw[Array.setIfInBounds_comm _ _ hji]
     exact h5
theorem yU {blK:Int→Option Blk} {tl:Nat→Bool} {K:St→Prop} (fuel:Nat): ∀(is:List Nat) (l:Array Bool) (σ:St),(∀i,i∈is→tl i=false)→(∀k,tl k=true→l.getD k false=false)→(∀i,i∈is→(∃o,ops[i]? =some o∧pureOp o.op=true)∨ ∀j oj,tl j=true→ops[j]? =some oj→ ∃e∈oj.after,Region.binds .any e=true∧e.on=i)→hoistB ops is l=true→Sub blK σ.bl→
  Hoist P ops blK is (DL P ops blK tl K fuel (gA is l)) σ→DL P ops blK tl K (fuel+is.length) l σ
 | [], l, σ, _, _, _, _, _, h => h
 | i :: is, l, σ, hI, hN, hT, hB, hs, h => by
   simp only[hoistB,Bool.and_eq_true] at hB
   obtain⟨⟨hr,hf⟩,hB'⟩:=hB
   unfold Hoist at h
   split at h
   ·rename_i o ho
    obtain⟨v,hy,hK⟩:=h
    have:fuel+(i::is).length=(fuel+is.length)+1:=by simp;omega
    rw[this]
    have hN': ∀k,tl k=true→(l.setIfInBounds i true).getD k false=false:=fun k hk=>by
     by_cases hki:i=k
     ·subst hki;rw[hI i List.mem_cons_self] at hk;cases hk
     ·rw[jM false hki];exact hN k hk
    have next:=yU fuel is (l.setIfInBounds i true) (σ.put o.dst v) (fun i hi=>hI i (List.mem_cons_of_mem _ hi)) hN' (fun i hi=>hT i (List.mem_cons_of_mem _ hi)) hB' (by cases o.dst<;>exact hs) hK
    rcases hT i List.mem_cons_self with ⟨o',ho',hp⟩| hT'
    ·rw[ho] at ho';cases ho'
     exact Ec ho (hI i List.mem_cons_self) _ _ _ (Region.free_spec ho hf) (fun _=>hs) (by simpa using hr) (hy.pure hp) next
    ·exact N9 ho (hI i List.mem_cons_self) hT' _ _ _ (Region.free_spec ho hf) hN (by simpa using hr) hs hy next
   ·exact h.elim
def tailP (ops:Array Oper) (tl:Nat→Bool) (is:List Nat):Bool:=is.all fun i=>(match ops[i]? with | some o=>pureOp o.op | none=>false)|| yO ops tl [i]
theorem sL {id:Nat} {K:Ex→St→Prop} {σ:St} (hm:P.follows .mixedOrders=true) (blK:Int→Option Blk) (hs:Sub blK σ.bl) (is:List Nat) (fuel n:Nat) (hn:(ops.size==fuel+is.length && is.all (fun i=>decide (i<ops.size))&& hoistB ops is (Array.replicate ops.size false)&& tailP ops (fun j=>decide (n≤j)) is && is.all (fun i=>decide (i<n)))=true)
  (h:HoistF P (ops.toList.map (·.dst)) blK (is.filterMap fun i=>ops[i]?) (DL P ops blK (fun j=>decide (n≤j)) (K .normal) fuel (gA is (Array.replicate ops.size false))) σ):AW P (.region id ops true) K σ:=by
 simp only[Bool.and_eq_true,beq_iff_eq] at hn
 refine H6 hm blK (tl:=fun j=>decide (n≤j)) ?_
 have:=yU (P:=P) (ops:=ops) (blK:=blK) (tl:=fun j=>decide (n≤j)) (K:=K .normal) fuel is (Array.replicate ops.size false) σ
  (fun i hi=>by have:=List.all_eq_true.1 hn.2 i hi;simp at this ⊢;exact this) (fun k _=>by
    rw[Array.getD_eq_getD_getElem?,Array.getElem?_replicate];split<;>rfl) (fun i hi=>by
    have h5:=List.all_eq_true.1 hn.1.2 i hi
    rw[Bool.or_eq_true] at h5
    rcases h5 with h5 | h5
    ·refine .inl ?_
     split at h5
     ·rename_i o ho;exact⟨o,ho,h5⟩
     ·cases h5
    ·exact .inr (jC h5 i (by simp))) hn.1.1.2 hs (iO _ is σ (filter_some is hn.1.1.1.2) h)
 rw[←hn.1.1.1.1] at this
 exact this
end
end Go.Proofs.YticmgmemnpcbbaaGreat.Vm

namespace Go.Proofs.YticmgmemnpcbbaaGreat.Vm
open Go Go.Proofs
set_option linter.unusedSimpArgs false
set_option linter.unusedVariables false
structure jX (b : Int → Option Blk) (g0 : Int) (ids : List Int) (r c : Nat) (M : MF) : Prop where
 len:ids.length=r
 top:b g0=some ⟨1,ids.map fun g=> [.lsl g 1 0 c]⟩
 row: ∀(i:Nat) (g:Int),ids[i]? =some g→b g=some ⟨1,fvs (rowOf c M i)⟩
 pos: ∀g,g∈ids→0≤g
 inj: ∀(i j:Nat) (g:Int),ids[i]? =some g→ids[j]? =some g→i=j
 no0:g0∉ids
theorem tD {c:Nat} {M M':MF} {i:Nat} (h: ∀j,j<c→M i j=M' i j):rowOf c M i=rowOf c M' i:=by
 unfold rowOf
 exact List.map_congr_left fun j hj=>h j (by simpa using hj)
theorem jX.congr {b:Int→Option Blk} {g0:Int} {ids:List Int} {r c:Nat} {M M':MF} (h:jX b g0 ids r c M) (hM: ∀i j,i<r→j<c→M i j=M' i j):jX b g0 ids r c M':=
 ⟨h.len,h.top,fun i g hi=>by
   rw[h.row i g hi,tD fun j hj=>hM i j (by rw[←h.len];exact(List.getElem?_eq_some_iff.1 hi).1) hj],h.pos,h.inj,h.no0⟩
theorem jX.put {b:Int→Option Blk} {g0 g:Int} {ids:List Int} {r c i:Nat} {M M':MF} (h:jX b g0 ids r c M) (hi:ids[i]? =some g) (hM: ∀a j,a≠i→j<c→M a j=M' a j):jX (upd b g (some ⟨1,fvs (rowOf c M' i)⟩)) g0 ids r c M':=by
 have hm:=List.mem_of_getElem? hi
 refine⟨h.len,?_,fun k g' hk=> ?_,h.pos,h.inj,h.no0⟩
 ·rw[aL _ _ _ _ (fun e=>h.no0 (by rw[e];exact hm))];exact h.top
 ·by_cases e:k=i
  ·subst e
   rw[hi] at hk;cases hk
   rw[bO]
  ·have hne:g'≠g:=fun e2=>e (h.inj k i g (by rw[hk,e2]) hi)
   rw[aL _ _ _ _ hne,h.row k g' hk,tD fun j hj=>hM k j e hj]
theorem jX.gL {b b':Int→Option Blk} {g0:Int} {ids:List Int} {r c:Nat} {M:MF} (h:jX b g0 ids r c M) (hk: ∀x y,x=g0∨x∈ids→b x=some y→b' x=some y):jX b' g0 ids r c M:=
 ⟨h.len,hk _ _ (.inl rfl) h.top,fun i g hi=>hk _ _ (.inr (List.mem_of_getElem? hi)) (h.row i g hi),h.pos,h.inj,h.no0⟩
def aNG (ids:List Int) (i n:Nat) (gi gn:Int):List Int:=(ids.set i gn).set n gi
structure aNL (b : Int → Option Blk) (gr g0 gp : Int) (ids : List Int) (r c : Nat) (s : RS) (d : Option Rat) : Prop where
 dW:jX b g0 ids r c s.M
 hd:b gr=some ⟨5,[[.int .i64 r,.int .i64 c,.lsl g0 1 0 r,.lsl gp 1 0 s.P.length,fv d]]⟩
 pv:b gp=some ⟨1,iv (pz s.P)⟩
 pn:gp<0→s.P= []
 dq:okQ d
 g00:0≤g0
 d1:gr≠g0
 d2:gr∉ids
 d3:gp≠gr
 d4:gp≠g0
 d5:gp∉ids
def Fr (bl b:Int→Option Blk) (gr g0:Int) (ids:List Int):Prop:= ∀x y,bl x=some y→x≠gr→x≠g0→x∉ids→b x=some y
def aOS (M:MF) (n k i j:Nat):MF:=fun a b=>if a<i∨a=i∧b<j then aBD M n k a b else M a b
end Go.Proofs.YticmgmemnpcbbaaGreat.Vm

namespace Go.Proofs.YticmgmemnpcbbaaGreat.Lp
set_option linter.unusedSimpArgs false
set_option linter.unusedVariables false
def S :Nat→(Nat→Rat)→Rat
 | 0, _ => 0
 | n + 1, f => S n f + f n
theorem aR {f g:Nat→Rat} : ∀ {n:Nat},(∀i,i<n→f i=g i)→S n f=S n g
 | 0, _ => rfl
 | n + 1, h => by rw [S, S, aR (n := n) fun i hi => h i (by omega), h n (by omega)]
theorem fV {f:Nat→Rat} : ∀ {n:Nat},(∀i,i<n→f i=0)→S n f=0
 | 0, _ => rfl
 | n + 1, h => by rw [S, fV (n := n) fun i hi => h i (by omega), h n (by omega)]; grind
theorem sY (f g:Nat→Rat): ∀n,S n (fun i=>f i+g i)=S n f+S n g
 | 0 => by simp [S]; grind
 | n + 1 => by rw [S, S, S, sY f g n]; grind
theorem wU (f g:Nat→Rat): ∀n,S n (fun i=>f i - g i)=S n f - S n g
 | 0 => by simp [S]; grind
 | n + 1 => by rw [S, S, S, wU f g n]; grind
theorem fG (a:Rat) (f:Nat→Rat): ∀n,S n (fun i=>a*f i)=a*S n f
 | 0 => by simp [S]
 | n + 1 => by rw [S, S, fG a f n]; grind
theorem kY (a:Rat) (f:Nat→Rat) (n:Nat):S n (fun i=>f i*a)=S n f*a:=by
 rw[show(fun i=>f i*a)=fun i=>a*f i from funext fun i=>Rat.mul_comm _ _,fG,Rat.mul_comm]
theorem lC (f:Nat→Nat→Rat) (m:Nat): ∀n,S n (fun i=>S m fun j=>f i j)=S m fun j=>S n fun i=>f i j
 | 0 => by
   rw[S];symm;exact fV fun i _=>rfl
 | n + 1 => by
   rw[S,lC f m n,←sY]
   rfl
theorem cJ {f:Nat→Rat} {k:Nat} : ∀ {n:Nat},k<n→(∀i,i<n→i≠k→f i=0)→S n f=f k
 | n + 1, hk, h => by
   rw[S]
   by_cases e:k=n
   ·subst e
    rw[fV fun i hi=>h i (by omega) (by omega)]
    grind
   ·rw[cJ (n:=n) (by omega) fun i hi hik=>h i (by omega) hik,h n (by omega) (by omega)]
    grind
theorem gS {f:Nat→Rat} : ∀ {n:Nat},(∀i,i<n→0≤f i)→0≤S n f
 | 0, _ => Rat.le_refl
 | n + 1, h => by
   have h1:=gS (n:=n) fun i hi=>h i (by omega)
   have h2:=h n (by omega)
   rw[S];grind
theorem Iu {f:Nat→Rat} {k:Nat} : ∀ {n:Nat},(∀i,i<n→0≤f i)→k<n→0<f k→0<S n f
 | n + 1, h, hk, hp => by
   have h1:=gS (n:=n) fun i hi=>h i (by omega)
   have h2:=h n (by omega)
   rw[S]
   by_cases e:k=n
   ·subst e;grind
   ·have:=Iu (n:=n) (fun i hi=>h i (by omega)) (by omega) hp
    grind
def skip (v:Nat→Nat→Rat) (j:Nat):Nat→Nat→Rat:=fun c i=>v (if c<j then c else c+1) (i+1)
def sg (j:Nat):Rat:=if j % 2=0 then 1 else -1
theorem Ni (j:Nat):sg (j+1)= - sg j:=by
 unfold sg
 by_cases h:j % 2=0
 ·rw[if_pos h,if_neg (by omega)]
 ·rw[if_neg h,if_pos (by omega)];grind
def det :Nat→(Nat→Nat→Rat)→Rat
 | 0, _ => 1
 | m + 1, v => S (m + 1) fun j => sg j * v j 0 * det m (skip v j)
theorem oC : ∀ {m:Nat} {v w:Nat→Nat→Rat},(∀j i,j<m→i<m→v j i=w j i)→det m v=det m w
 | 0, _, _, _ => rfl
 | m + 1, v, w, h => by
   rw[det,det]
   refine aR fun j hj=> ?_
   rw[h j 0 hj (by omega),oC (m:=m) (v:=skip v j) (w:=skip w j) fun c i hc hi=> ?_]
   unfold skip
   split
   ·exact h c (i+1) (by omega) (by omega)
   ·exact h (c+1) (i+1) (by omega) (by omega)
def put (v:Nat→Nat→Rat) (p:Nat) (x:Nat→Rat):Nat→Nat→Rat:=fun j=>if j=p then x else v j
theorem J0 (v:Nat→Nat→Rat) (p:Nat) (x:Nat→Rat):skip (put v p x) p=skip v p:=by
 funext c i
 unfold skip put
 split<;>(rw[if_neg (by omega)])
theorem mM (v:Nat→Nat→Rat) (p j:Nat) (x:Nat→Rat) (h:p≠j):skip (put v p x) j=put (skip v j) (if p<j then p else p - 1) fun i=>x (i+1):=by
 funext c i
 unfold skip put
 by_cases h1:c<j
 ·by_cases h2:p<j
  ·simp only[h1,h2,if_true]
   split<;>rfl
  ·simp only[h1,h2,if_true,if_false]
   rw[if_neg (by omega),if_neg (by omega)]
 ·by_cases h2:p<j
  ·simp only[h1,h2,if_true,if_false]
   rw[if_neg (by omega),if_neg (by omega)]
  ·simp only[h1,h2,if_false]
   by_cases h3:c+1=p
   ·rw[if_pos h3,if_pos (by omega)]
   ·rw[if_neg h3,if_neg (by omega)]
theorem nX (a b:Rat) (x y:Nat→Rat): ∀ {m:Nat} {p:Nat} (v:Nat→Nat→Rat),p<m→det m (put v p fun i=>a*x i+b*y i)=a*det m (put v p x)+b*det m (put v p y)
 | 0, p, v, hp => by omega
 | m + 1, p, v, hp => by
   rw[det,det,det,←fG,←fG,←sY]
   refine aR fun j hj=> ?_
   by_cases h:p=j
   ·subst h
    simp only[J0]
    simp only[put,if_true]
    grind
   ·rw[mM _ _ _ _ h,mM _ _ _ _ h,mM _ _ _ _ h]
    have ih:=nX a b (fun i=>x (i+1)) (fun i=>y (i+1)) (m:=m) (p:=if p<j then p else p - 1) (skip v j) (by split<;>omega)
    rw[ih]
    have e: ∀z:Nat→Rat,put v p z j 0=v j 0:=fun z=>by simp[put,Ne.symm h]
    simp only[e]
    grind
theorem oH : ∀ {m:Nat} {p:Nat} (v:Nat→Nat→Rat),p+1<m→(∀i,i<m→v p i=v (p+1) i)→det m v=0
 | 0, p, v, hp, h => by omega
 | m + 1, p, v, hp, h => by
   rw[det]
   have hz: ∀j,j<m+1→j≠p→j≠p+1→sg j*v j 0*det m (skip v j)=0:=fun j hj h1 h2=>by
    have:det m (skip v j)=0:=by
     by_cases h3:j<p
     ·refine oH (p:=p - 1) _ (by omega) fun i hi=> ?_
      unfold skip
      rw[if_neg (by omega),if_neg (by omega),show p - 1+1=p by omega]
      exact h (i+1) (by omega)
     ·refine oH (p:=p) _ (by omega) fun i hi=> ?_
      unfold skip
      rw[if_pos (by omega),if_pos (by omega)]
      exact h (i+1) (by omega)
    rw[this];grind
   have he:det m (skip v p)=det m (skip v (p+1)):=oC fun c i hc hi=>by
    unfold skip
    by_cases h1:c<p
    ·rw[if_pos h1,if_pos (by omega)]
    ·by_cases h2:c=p
     ·subst h2
      rw[if_neg (by omega),if_pos (by omega)]
      exact(h (i+1) (by omega)).symm
     ·rw[if_neg (by omega),if_neg (by omega)]
   have h0:=h 0 (by omega)
   have key: ∀n,n≤m+1→S n (fun j=>sg j*v j 0*det m (skip v j))=if n=p+1 then sg p*v p 0*det m (skip v p) else 0:=by
    intro n
    induction n with
    | zero => intro _; rw [if_neg (by omega)]; rfl
    | succ n ih =>
      intro hn
      rw[S,ih (by omega)]
      by_cases e1:n=p
      ·subst e1
       rw[if_neg (by omega),if_pos rfl];grind
      ·by_cases e2:n=p+1
       ·subst e2
        rw[if_pos rfl,if_neg (by omega),Ni,he,h0];grind
       ·rw[if_neg (by omega),if_neg (by omega),hz n (by omega) e1 e2];grind
   rw[key (m+1) (Nat.le_refl _),if_neg (by omega)]
theorem xC (v:Nat→Nat→Rat) (p:Nat):put v p (v p)=v:=by
 funext j;unfold put;split
 ·rename_i h;rw[h]
 ·rfl
theorem put_comm (v:Nat→Nat→Rat) {p q:Nat} (h:p≠q) (x y:Nat→Rat):put (put v p x) q y=put (put v q y) p x:=by
 funext j;unfold put
 by_cases h1:j=q
 ·rw[if_pos h1,if_neg (by omega),if_pos h1]
 ·rw[if_neg h1]
  by_cases h2:j=p
  ·rw[if_pos h2];rw[if_pos h2]
  ·rw[if_neg h2,if_neg h2];rw[if_neg h1]
theorem Fz {m p:Nat} (v:Nat→Nat→Rat) (hp:p+1<m) (x y:Nat→Rat):det m (put (put v p x) (p+1) y)= - det m (put (put v p y) (p+1) x):=by
 have hz:det m (put (put v p fun i=>1*x i+1*y i) (p+1) fun i=>1*x i+1*y i)=0:=oH (p:=p) _ hp fun i hi=>by
  simp[put]
 rw[nX 1 1 x y (p:=p+1) _ hp,put_comm v (show p≠p+1 by omega) _ x,put_comm v (show p≠p+1 by omega) _ y,nX 1 1 x y (p:=p) _ (by omega),nX 1 1 x y (p:=p) _ (by omega)] at hz
 have z1:det m (put (put v (p+1) x) p x)=0:=oH (p:=p) _ hp fun i hi=>by simp[put]
 have z2:det m (put (put v (p+1) y) p y)=0:=oH (p:=p) _ hp fun i hi=>by simp[put]
 rw[put_comm v (show p≠p+1 by omega) x y,put_comm v (show p≠p+1 by omega) y x]
 rw[z1,z2] at hz
 grind
theorem F5 {m:Nat} : ∀(d p:Nat) (v:Nat→Nat→Rat),p+1+d<m→(∀i,i<m→v p i=v (p+1+d) i)→det m v=0
 | 0, p, v, hp, h => oH v hp h
 | d + 1, p, v, hp, h => by
   have e:v=put (put v (p+1+d) (v (p+1+d))) (p+1+d+1) (v (p+1+d+1)):=by rw[xC,xC]
   rw[e,Fz v (by omega)]
   have:det m (put (put v (p+1+d) (v (p+1+d+1))) (p+1+d+1) (v (p+1+d)))=0:=by
    refine F5 d p _ (by omega) fun i hi=> ?_
    unfold put
    rw[if_neg (show ¬ p=p+1+d+1 by omega),if_neg (show ¬ p=p+1+d by omega),if_neg (show ¬ p+1+d=p+1+d+1 by omega),if_pos rfl]
    exact h i hi
   rw[this];grind
theorem Js {m p q:Nat} (v:Nat→Nat→Rat) (hp:p<m) (hq:q<m) (hn:p≠q) (h: ∀i,i<m→v p i=v q i):det m v=0:=by
 rcases Nat.lt_or_gt_of_ne hn with h1 | h1
 ·exact F5 (q - p - 1) p v (by omega) (by rw[show p+1+(q - p - 1)=q by omega];exact h)
 ·exact F5 (p - q - 1) q v (by omega) (by rw[show q+1+(p - q - 1)=p by omega];exact fun i hi=>(h i hi).symm)
theorem Jk {m p:Nat} (v:Nat→Nat→Rat) (hp:p<m):det m (put v p fun _=>0)=0:=by
 have:=nX 0 0 (fun _=>0) (fun _=>0) v hp
 simp only[Rat.zero_mul,Rat.zero_add] at this
 exact this
theorem Z2 {m p:Nat} (v:Nat→Nat→Rat) (hp:p<m) (x:Nat→Rat) (u:Nat→Nat→Rat): ∀n,det m (put v p fun i=>S n fun j=>x j*u j i)=S n fun j=>x j*det m (put v p (u j))
 | 0 => by simp only [S]; exact Jk v hp
 | n + 1 => by
   have:=nX 1 (x n) (fun i=>S n fun j=>x j*u j i) (u n) v hp
   simp only[S]
   rw[←Z2 v hp x u n]
   simp only[Rat.one_mul] at this
   exact this
theorem Se {m p:Nat} (v:Nat→Nat→Rat) (hp:p<m) (x y:Nat→Rat) (h: ∀i,i<m→y i=S m fun j=>x j*v j i):det m (put v p y)=x p*det m v:=by
 have e:det m (put v p y)=det m (put v p fun i=>S m fun j=>x j*v j i):=oC fun j i hj hi=>by
  unfold put;split
  ·exact h i hi
  ·rfl
 rw[e,Z2 v hp,cJ hp,xC]
 intro j hj hjp
 rw[Js (p:=p) (q:=j) _ hp hj (Ne.symm hjp) (fun i hi=>by simp[put,hjp])]
 grind
def isInt (q:Rat):Prop:= ∃z:Int,q=z
theorem yS {a b:Rat} :isInt a→isInt b→isInt (a+b):=fun⟨x,hx⟩ ⟨y,hy⟩=>⟨x+y,by rw[hx,hy,Rat.intCast_add]⟩
theorem nJ {a b:Rat} :isInt a→isInt b→isInt (a*b):=fun⟨x,hx⟩ ⟨y,hy⟩=>⟨x*y,by rw[hx,hy,Rat.intCast_mul]⟩
theorem E3 {f:Nat→Rat} : ∀ {n:Nat},(∀i,i<n→isInt (f i))→isInt (S n f)
 | 0, _ => ⟨0, rfl⟩
 | n + 1, h => yS (E3 fun i hi => h i (by omega)) (h n (by omega))
theorem Ju (j:Nat):isInt (sg j):=by
 unfold sg;split
 ·exact⟨1,rfl⟩
 ·exact⟨-1,rfl⟩
theorem C0 : ∀ {m:Nat} {v:Nat→Nat→Rat},(∀j i,j<m→i<m→isInt (v j i))→isInt (det m v)
 | 0, _, _ => ⟨1, rfl⟩
 | m + 1, v, h => by
   rw[det]
   refine E3 fun j hj=>nJ (nJ (Ju j) (h j 0 hj (by omega))) (C0 fun c i hc hi=> ?_)
   unfold skip
   split
   ·exact h c (i+1) (by omega) (by omega)
   ·exact h (c+1) (i+1) (by omega) (by omega)
def lid (K:Nat):Nat→Nat
 | 0 => 1
 | m + 1 => (m + 1) * (K * lid K m)
theorem Jb {f:Nat→Rat} {B:Rat} : ∀ {n:Nat},(∀i,i<n→ -B≤f i∧f i≤B)→ -((n:Rat)*B)≤S n f∧S n f≤(n:Rat)*B
 | 0, _ => by simp [S]
 | n + 1, h => by
   have h1:=Jb (n:=n) fun i hi=>h i (by omega)
   have h2:=h n (by omega)
   rw[S,show((n+1:Nat):Rat)=(n:Rat)+1 by simp[Rat.natCast_add]]
   grind
theorem C9 {a b A B:Rat} (ha: -A≤a∧a≤A) (hb: -B≤b∧b≤B): -(A*B)≤a*b∧a*b≤A*B:=by
 have h1:0≤(A - a)*(B+b):=Rat.mul_nonneg (by grind) (by grind)
 have h2:0≤(A+a)*(B - b):=Rat.mul_nonneg (by grind) (by grind)
 have h3:0≤(A - a)*(B - b):=Rat.mul_nonneg (by grind) (by grind)
 have h4:0≤(A+a)*(B+b):=Rat.mul_nonneg (by grind) (by grind)
 constructor<;>grind
theorem S5 {K:Nat} : ∀ {m:Nat} {v:Nat→Nat→Rat},(∀j i,j<m→i<m→ -(K:Rat)≤v j i∧v j i≤K)→ -(lid K m:Rat)≤det m v∧det m v≤lid K m
 | 0, _, _ => by simp [det, lid]; decide
 | m + 1, v, h => by
   rw[det,lid,Rat.natCast_mul,Rat.natCast_mul]
   refine Jb fun j hj=> ?_
   have h1:=h j 0 hj (by omega)
   have h2: -(lid K m:Rat)≤det m (skip v j)∧det m (skip v j)≤lid K m:=S5 fun c i hc hi=>by
    unfold skip
    split
    ·exact h c (i+1) (by omega) (by omega)
    ·exact h (c+1) (i+1) (by omega) (by omega)
   refine C9 ?_ h2
   unfold sg
   split<;>grind
theorem Q7 : ∀(m:Nat) (v:Nat→Nat→Rat),(∀j i,j<m→i<m→v j i=if j=i then 1 else 0)→det m v=1
 | 0, _, _ => rfl
 | m + 1, v, h => by
   rw[det,cJ (k:=0) (by omega)]
   ·rw[h 0 0 (by omega) (by omega),if_pos rfl,Q7 m (skip v 0) fun c i hc hi=> ?_]
    ·simp[sg]
    ·unfold skip
     rw[if_neg (by omega),h (c+1) (i+1) (by omega) (by omega)]
     by_cases e:c=i
     ·rw[if_pos e,if_pos (by omega)]
     ·rw[if_neg e,if_neg (by omega)]
   ·intro j hj h0
    rw[h j 0 hj (by omega),if_neg h0]
    grind

structure Tab where
 X:Nat→Nat→Rat
 bs:Nat→Nat
def piv (t:Tab) (r k:Nat):Tab:=⟨fun i c=>if i=r then t.X r c / t.X r k else t.X i c - t.X i k*(t.X r c / t.X r k),fun i=>if i=r then k else t.bs i⟩
structure TI (m : Nat) (E : Nat → Nat → Rat) (t : Tab) : Prop where
 row: ∀i,i<m→ ∃U:Nat→Rat,∀c,t.X i c=S m fun l=>U l*E l c
 col: ∀l,l<m→ ∀c,E l c=S m fun i=>t.X i c*E l (t.bs i)
 unit: ∀i j,i<m→j<m→t.X i (t.bs j)=if i=j then 1 else 0
theorem qK (t:Tab) (r k c:Nat):(piv t r k).X r c=t.X r c / t.X r k:=by simp[piv]
theorem lU (t:Tab) {r i:Nat} (k c:Nat) (h:i≠r):(piv t r k).X i c=t.X i c - t.X i k*(t.X r c / t.X r k):=by simp[piv,h]
theorem dK (t:Tab) (r k:Nat):(piv t r k).bs r=k:=by simp[piv]
theorem cC (t:Tab) {r i:Nat} (k:Nat) (h:i≠r):(piv t r k).bs i=t.bs i:=by simp[piv,h]
theorem Am {m:Nat} (t:Tab) {r k:Nat} (hr:r<m) (hp:t.X r k≠0) (g:Nat→Rat) (c:Nat):
  S m (fun i=>(piv t r k).X i c*g ((piv t r k).bs i))=S m (fun i=>t.X i c*g (t.bs i)) - (t.X r c / t.X r k)*(S m (fun i=>t.X i k*g (t.bs i)) - g k):=by
 have e:S m (fun i=>(piv t r k).X i c*g ((piv t r k).bs i))=S m (fun i=>(t.X i c*g (t.bs i) - (t.X r c / t.X r k)*(t.X i k*g (t.bs i)))+if i=r then(t.X r c / t.X r k)*g k else 0):=aR fun i hi=>by
  by_cases h:i=r
  ·subst h
   rw[qK,dK,if_pos rfl]
   grind
  ·rw[lU t k c h,cC t k h,if_neg h]
   grind
 rw[e,sY,wU,fG,cJ (f:=fun i=>if i=r then(t.X r c / t.X r k)*g k else 0) hr (fun i _ h=>if_neg h),if_pos rfl]
 grind
theorem TI.piv {m:Nat} {E:Nat→Nat→Rat} {t:Tab} (h:TI m E t) {r k:Nat} (hr:r<m) (hp:t.X r k≠0):TI m E (piv t r k):=by
 refine⟨fun i hi=> ?_,fun l hl c=> ?_,fun i j hi hj=> ?_⟩
 ·obtain⟨V,hV⟩:=h.row r hr
  by_cases e:i=r
  ·subst e
   refine⟨fun l=>V l / t.X i k,fun c=> ?_⟩
   rw[qK,hV c]
   rw[show(fun l=>V l / t.X i k*E l c)=fun l=>(t.X i k)⁻¹*(V l*E l c) from funext fun l=>by grind,fG]
   grind
  ·obtain⟨U,hU⟩:=h.row i hi
   refine⟨fun l=>U l - t.X i k / t.X r k*V l,fun c=> ?_⟩
   rw[lU t k c e,hU c,hV c]
   rw[show(fun l=>(U l - t.X i k / t.X r k*V l)*E l c)=fun l=>U l*E l c - (t.X i k / t.X r k)*(V l*E l c) from funext fun l=>by grind,wU,fG]
   grind
 ·rw[Am t hr hp (fun x=>E l x) c,←h.col l hl c,←h.col l hl k]
  grind
 ·by_cases ej:j=r
  ·subst ej
   rw[dK]
   by_cases ei:i=j
   ·subst ei;rw[qK,if_pos rfl];grind
   ·rw[lU t k k ei,if_neg ei];grind
  ·rw[cC t k ej]
   have hrj:=h.unit r j hr hj
   rw[if_neg (Ne.symm ej)] at hrj
   by_cases ei:i=r
   ·subst ei;rw[qK,if_neg (Ne.symm ej),hrj];grind
   ·rw[lU t k _ ei,h.unit i j hi hj,hrj];grind
theorem TI.Pw {m:Nat} {E:Nat→Nat→Rat} {t t':Tab} (h:TI m E t) (h':TI m E t') {i:Nat} (hi:i<m) (c:Nat):t'.X i c=S m fun j=>t.X j c*t'.X i (t.bs j):=by
 obtain⟨U,hU⟩:=h'.row i hi
 rw[hU c]
 have e1:S m (fun l=>U l*E l c)=S m fun l=>S m fun j=>t.X j c*(U l*E l (t.bs j)):=aR fun l hl=>by
  rw[h.col l hl c,←fG]
  exact aR fun j _=>by grind
 rw[e1,lC]
 refine aR fun j hj=> ?_
 rw[fG,hU (t.bs j)]
theorem TI.uniq {m:Nat} {E:Nat→Nat→Rat} {t t':Tab} (h:TI m E t) (h':TI m E t') (hb: ∀i,i<m→t.bs i=t'.bs i) {i:Nat} (hi:i<m) (c:Nat):t'.X i c=t.X i c:=by
 rw[h.Pw h' hi c,cJ hi]
 ·rw[hb i hi,h'.unit i i hi hi,if_pos rfl];grind
 ·intro j hj hne
  rw[hb j hj,h'.unit i j hi hj,if_neg (Ne.symm hne)];grind
theorem TI.inj {m:Nat} {E:Nat→Nat→Rat} {t:Tab} (h:TI m E t) {i j:Nat} (hi:i<m) (hj:j<m) (e:t.bs i=t.bs j):i=j:=by
 have h1:=h.unit i i hi hi
 have h2:=h.unit i j hi hj
 rw[←e,h1] at h2
 by_cases hij:i=j
 ·exact hij
 ·rw[if_pos rfl,if_neg hij] at h2;exact absurd h2 (by decide)
def rc (m:Nat) (w:Nat→Rat) (t:Tab) (c:Nat):Rat:=w c - S m fun i=>t.X i c*w (t.bs i)
theorem mR {m:Nat} {E:Nat→Nat→Rat} {t:Tab} (h:TI m E t) (w:Nat→Rat) {j:Nat} (hj:j<m):rc m w t (t.bs j)=0:=by
 unfold rc
 rw[cJ hj,h.unit j j hj hj,if_pos rfl]
 ·grind
 ·intro i hi hne
  rw[h.unit i j hi hj,if_neg hne];grind
theorem Wt {m:Nat} (w:Nat→Rat) (t:Tab) {r k:Nat} (hr:r<m) (hp:t.X r k≠0) (c:Nat):rc m w (piv t r k) c=rc m w t c - rc m w t k*(t.X r c / t.X r k):=by
 unfold rc
 rw[Am t hr hp w c]
 grind
theorem Hq {m:Nat} {E:Nat→Nat→Rat} {t t':Tab} (h:TI m E t) (h':TI m E t') (w:Nat→Rat) (c:Nat):rc m w t' c=rc m w t c+S m fun i=>t.X i c*rc m w t' (t.bs i):=by
 unfold rc
 have e1:S m (fun i=>t.X i c*(w (t.bs i) - S m fun j=>t'.X j (t.bs i)*w (t'.bs j)))=S m (fun i=>t.X i c*w (t.bs i)) - S m fun j=>t'.X j c*w (t'.bs j):=by
  rw[show(fun i=>t.X i c*(w (t.bs i) - S m fun j=>t'.X j (t.bs i)*w (t'.bs j)))=fun i=>t.X i c*w (t.bs i) - S m fun j=>t.X i c*t'.X j (t.bs i)*w (t'.bs j) from funext fun i=>by
   rw[←show t.X i c*(S m fun j=>t'.X j (t.bs i)*w (t'.bs j))=S m fun j=>t.X i c*t'.X j (t.bs i)*w (t'.bs j) from by
    rw[←fG];exact aR fun j _=>by grind]
   grind,wU,lC]
  congr 1
  refine aR fun j hj=> ?_
  rw[h.Pw h' hj c,←kY]
 rw[e1]
 grind
def Sol (m N:Nat) (X:Nat→Nat→Rat) (b:Nat) (x:Nat→Rat):Prop:= ∀i,i<m→S N (fun c=>X i c*x c)=X i b
theorem kX {m:Nat} {E:Nat→Nat→Rat} {t:Tab} (h:TI m E t) (N b:Nat) (x:Nat→Rat):Sol m N E b x ↔ Sol m N t.X b x:=by
 constructor
 ·intro hE i hi
  obtain⟨U,hU⟩:=h.row i hi
  have e:S N (fun c=>t.X i c*x c)=S m fun l=>U l*S N fun c=>E l c*x c:=by
   rw[show(fun c=>t.X i c*x c)=fun c=>S m fun l=>U l*E l c*x c from funext fun c=>by rw[hU c,←kY],lC]
   refine aR fun l _=> ?_
   rw[←fG]
   exact aR fun c _=>by grind
  rw[e,hU b]
  exact aR fun l hl=>by rw[hE l hl]
 ·intro hX l hl
  have e:S N (fun c=>E l c*x c)=S m fun i=>(S N fun c=>t.X i c*x c)*E l (t.bs i):=by
   rw[show(fun c=>E l c*x c)=fun c=>S m fun i=>t.X i c*E l (t.bs i)*x c from funext fun c=>by rw[h.col l hl c,←kY],lC]
   refine aR fun i _=> ?_
   rw[←kY]
   exact aR fun c _=>by grind
  rw[e,h.col l hl b]
  exact aR fun i hi=>by rw[hX i hi]
def fW (Q:Nat) (v:Nat→Rat):Prop:= ∃q,q<Q∧0<v q∧ ∀j,j<q→v j=0
def xP (Q:Nat) (v:Nat→Rat):Prop:= ∀q,q<Q→v q=0
theorem Nh : ∀(Q:Nat) (v:Nat→Rat),fW Q v∨xP Q v∨fW Q fun q=> - v q
 | 0, v => .inr (.inl fun q hq => by omega)
 | Q + 1, v => by
   rcases Nh Q v with ⟨q,h1,h2,h3⟩| h | ⟨q,h1,h2,h3⟩
   ·exact .inl ⟨q,by omega,h2,h3⟩
   ·by_cases h0:0<v Q
    ·exact .inl ⟨Q,by omega,h0,fun j hj=>h j hj⟩
    ·by_cases h1:v Q=0
     ·refine .inr (.inl fun q hq=> ?_)
      by_cases e:q=Q
      ·rw[e];exact h1
      ·exact h q (by omega)
     ·exact .inr (.inr ⟨Q,by omega,by grind,fun j hj=>by have:=h j hj;grind⟩)
   ·exact .inr (.inr ⟨q,by omega,h2,h3⟩)
theorem fN {Q:Nat} {v:Nat→Rat} (h:fW Q v) (h0:xP Q v):False:=by
 obtain⟨q,h1,h2,_⟩:=h
 rw[h0 q h1] at h2
 exact absurd h2 (by decide)
theorem A9 {Q:Nat} {v:Nat→Rat} (h:fW Q v) (h':fW Q fun q=> - v q):False:=by
 obtain⟨q,h1,h2,h3⟩:=h
 obtain⟨q',h1',h2',h3'⟩:=h'
 rcases Nat.lt_trichotomy q q' with h | h | h
 ·have:=h3' q h;grind
 ·subst h;grind
 ·have:=h3 q' h;grind
theorem O5 {Q:Nat} {u v:Nat→Rat} (h:fW Q u) (h':fW Q v):fW Q fun q=>u q+v q:=by
 obtain⟨q,h1,h2,h3⟩:=h
 obtain⟨q',h1',h2',h3'⟩:=h'
 rcases Nat.lt_trichotomy q q' with h | h | h
 ·exact⟨q,h1,by have:=h3' q h;grind,fun j hj=>by have:=h3 j hj;have:=h3' j (by omega);grind⟩
 ·subst h;exact⟨q,h1,by grind,fun j hj=>by have:=h3 j hj;have:=h3' j hj;grind⟩
 ·exact⟨q',h1',by have:=h3 q' h;grind,fun j hj=>by have:=h3 j (by omega);have:=h3' j hj;grind⟩
theorem zY {Q:Nat} {u v:Nat→Rat} (h:fW Q u) (h':xP Q v):fW Q fun q=>u q+v q:=by
 obtain⟨q,h1,h2,h3⟩:=h
 exact⟨q,h1,by have:=h' q h1;grind,fun j hj=>by have:=h3 j hj;have:=h' j (by omega);grind⟩
theorem rH {Q:Nat} {v:Nat→Rat} {a:Rat} (ha:0<a) (h:fW Q v):fW Q fun q=>a*v q:=by
 obtain⟨q,h1,h2,h3⟩:=h
 exact⟨q,h1,Rat.mul_pos ha h2,fun j hj=>by have:=h3 j hj;grind⟩
theorem cU {Q:Nat} {u v:Nat→Rat} (h:fW Q u) (e: ∀q,q<Q→u q=v q):fW Q v:=by
 obtain⟨q,h1,h2,h3⟩:=h
 exact⟨q,h1,by rw[←e q h1];exact h2,fun j hj=>by rw[←e j (by omega)];exact h3 j hj⟩
theorem wT {Q:Nat} {f:Nat→Nat→Rat} : ∀ {n:Nat} {u:Nat→Rat},fW Q u→(∀i,i<n→fW Q (f i)∨xP Q (f i))→fW Q fun q=>u q+S n fun i=>f i q
 | 0, u, h, _ => cU h fun q _ => by rw [S]; grind
 | n + 1, u, h, hf => by
   have ih:=wT (n:=n) h fun i hi=>hf i (by omega)
   rcases hf n (by omega) with h1 | h1
   ·exact cU (O5 ih h1) fun q _=>by rw[S];grind
   ·exact cU (zY ih h1) fun q _=>by rw[S];grind
end Go.Proofs.YticmgmemnpcbbaaGreat.Lp
