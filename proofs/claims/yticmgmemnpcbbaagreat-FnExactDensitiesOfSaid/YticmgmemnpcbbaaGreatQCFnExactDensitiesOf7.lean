import Derived.Test.YticmgmemnpcbbaaGreatQCFnExactDensitiesOf6

namespace Go.Proofs.YticmgmemnpcbbaaGreat.Vm
open Go Go.Proofs
set_option linter.unusedSimpArgs false
set_option linter.unusedVariables false
theorem O1 {n:Nat} : ∀(rs:List (List Int)),(∀r,r∈rs→r.length=n)→ ∀(i k:Nat) (hi:i<rs.length),k<n→lat rs.flatten (i*n+k)=lat rs[i] k
 | [], _, i, k, hi, _ => by simp at hi
 | r :: rs, h, 0, k, hi, hk => by
   have:=h r List.mem_cons_self
   simp[lat,List.flatten_cons,List.getElem?_append_left (show k<r.length by omega)]
 | r :: rs, h, i + 1, k, hi, hk => by
   have hr:=h r List.mem_cons_self
   have ih:=O1 rs (fun r hr=>h r (List.mem_cons_of_mem _ hr)) i k (by simpa using hi) hk
   have e:(i+1)*n+k=r.length+(i*n+k):=by rw[hr,Nat.add_mul];omega
   rw[List.flatten_cons,e]
   simp only[lat,List.getD_eq_getElem?_getD] at ih ⊢
   rw[List.getElem?_append_right (by omega),Nat.add_sub_cancel_left,ih];rfl
theorem zH (s:Str):eC s=(gE s).flatten:=by
 unfold eC gE
 induction aQ s.js with
 | nil => rfl
 | cons j js ih => simp [ih]
theorem sX (s:Str): ∀r,r∈gE s→r.length=s.ms.length:=by
 intro r hr
 unfold gE at hr
 obtain⟨j,_,hr⟩:=List.mem_flatMap.1 hr
 simp at hr
 rcases hr with rfl | rfl<;>simp
theorem Zf (s:Str) (n m:Nat) (h:m<n):(iv (aTo s n))[m]'(by simpa using h)= [.int .i64 (ent s (m / nC s) (m % nC s))]:=by simp[aTo]
theorem gV (s:Str) (l:List Int):(right s l).length=nR s:=by
 have e:right s l=fR s l (aQ s.js).length:=by simp[right,fR]
 rw[e,jN s l _ (Nat.le_refl _)];rfl
theorem Br (s:Str) (l:List Int): ∀(fs:List Int) (i:Nat) (h:i<fs.length),lat (fs.flatMap fun j=> [-lat l (2*j).toNat, -lat l (2*j+1).toNat]) (2*i)= -lat l (2*fs[i]).toNat∧lat (fs.flatMap fun j=> [-lat l (2*j).toNat, -lat l (2*j+1).toNat]) (2*i+1)= -lat l (2*fs[i]+1).toNat
 | [], i, h => by simp at h
 | f :: fs, 0, _ => by simp [lat]
 | f :: fs, i + 1, h => by
   have ih:=Br s l fs i (by simpa using h)
   have e1:2*(i+1)=(2*i)+1+1:=by omega
   have e2:2*(i+1)+1=(2*i+1)+1+1:=by omega
   rw[e2,e1]
   simpa [lat] using ih
theorem C8 (s:Str) (hs:SOk s):RO Tryz.prog 148 [.ptr s.c] (.sl (ivv (gE s))):=by
 have:=fU 2 (zZ s hs) (Ur _)
 rwa [aDO] at this
def dPg (p:Pg):D:= .a [.c (.int .i64 p.rows),.c (.int .i64 p.aS),fl 1 (iv p.a),fl 1 (iv p.b),fl 1 (iv p.c)]
structure ABC where
 a:Int
 b:Int
 c:Int
structure Yb (bl : Int → Option Blk) (gr gp : Int) (p : ABC) : Prop where
 a0:0≤p.a
 b0:0≤p.b
 c0:0≤p.c
 ba: ¬p.b=p.a
 ca: ¬p.c=p.a
 cb: ¬p.c=p.b
 ar: ¬p.a=gr
 ap: ¬p.a=gp
 br: ¬p.b=gr
 bp: ¬p.b=gp
 cr: ¬p.c=gr
 cp: ¬p.c=gp
 fa:bl p.a=none
 fb:bl p.b=none
 fc:bl p.c=none
theorem ad {p:Prop} {a b:Int} (F:p) (h: ¬a=b):p∧(a=b)=False∧(b=a)=False:=⟨F,eq_false h,eq_false fun e=>h e.symm⟩
theorem an {p q:Prop} (F:p) (h:q):p∧q:=⟨F,h⟩
set_option maxHeartbeats 4000000 in
theorem yJ (s:Str) (l:List Int) (hL:LOk s l):NW Tryz.prog 72 [.ptr s.c,.sl (iv l),.int .i64 0,.int .i64 0] (dPg (dQ s l)):=by
 have hs:=hL.sok
 have h6:=hs.nj
 have h8:=hs.nm
 have hfr:=iU s.js s.js.length
 change(aQ s.js).length≤s.js.length at hfr
 have hcn:nC s≤2*s.ms.length:=jD s.ms s.ms.length
 have hrn:nR s≤12:=by unfold nR;omega
 have er:(gE s).length=nR s:=by
  have e:gE s=A2 s (aQ s.js).length:=by simp[A2,gE]
  rw[e,pM s _ (Nat.le_refl _)];rfl
 have ec:(aS s.ms).length=nC s:=rfl
 refine iQ Tryz.func72 rfl rfl (by rw[Tryz.ntmps72];simp) fun bl=> ?_
 rw[Tryz.ntmps72,Tryz.results72]
 refine aE ?_
 simp
 intro gr Tz hbr
 refine aE ?_
 simp
 refine aD (C8 s hs) ?_
 simp
 refine aD (sY s (by omega)) ?_
 simp
 refine aE ?_
 have w1:IntKind.i64.wrap (nR s:Int)=nR s:=i64_in (by omega) (by omega)
 have w2:IntKind.i64.wrap (nC s:Int)=nC s:=i64_in (by omega) (by omega)
 simp[er,ec,w1,w2]
 intro gp aU5 hpr hbp
 obtain⟨nA,hA⟩: ∃n:Nat,n=nR s*nC s:=⟨_,rfl⟩
 have hA2:nA≤12*16:=by rw[hA];exact Nat.mul_le_mul (by omega) (by omega)
 have w3:IntKind.i64.wrap ((nR s:Int)*nC s)=nA:=by
  rw[hA]
  have:((nR s*nC s:Nat):Int)=nR s*nC s:=by simp
  rw[←this]
  exact i64_in (by omega) (by omega)
 let S:ABC→List (Nat×V):=fun _=> [(0,.ptr s.c),(1,.sl (iv l)),(8,.loc gr 5 0 0),(9,.sl (ivv (gE s))),(10,.sl (cv (aS s.ms))),(11,.loc gp 5 0 0)]
 let B:ABC→Int→Option Blk:=fun p=>upd (upd (upd (upd (upd bl gr (some ⟨5,[[.int .i64 0,.int .i64 0,.nils,.nils,.nils]]⟩)) gp (some ⟨5,[[.int .i64 (nR s),.int .i64 (nC s),.lsl p.a 1 0 nA,.lsl p.b 1 0 (nR s),.lsl p.c 1 0 (nC s)]]⟩)) p.a (some ⟨1,List.replicate nA [.int .i64 0]⟩)) p.b (some ⟨1,List.replicate (nR s) [.int .i64 0]⟩)) p.c (some ⟨1,List.replicate (nC s) [.int .i64 0]⟩)
 have leaf: ∀(n:Nat) (σ:St) (ga gb gc:Int),0≤ga→0≤gb→0≤gc→(¬gb=ga∧ ¬gc=ga∧ ¬gc=gb∧ ¬ga=gr∧ ¬ga=gp∧ ¬gb=gr∧ ¬gb=gp∧ ¬gc=gr∧ ¬gc=gp∧bl ga=none∧bl gb=none∧bl gc=none)→σ.n=n→(∀p,p∈S ⟨ga,gb,gc⟩→σ.sl p.1=p.2)→Sub (B ⟨ga,gb,gc⟩) σ.bl→
   ∃a,Yb bl gr gp a∧Fit (S a) n (B a) σ:=fun n σ ga gb gc h1 h2 h3 ⟨h4,h5,h6,h7,h8,h9,h10,h11,h12,h13,h14,h15⟩ h16 h17 h18=>⟨⟨ga,gb,gc⟩,⟨h1,h2,h3,h4,h5,h6,h7,h8,h9,h10,h11,h12,h13,h14,h15⟩,h16,h17,h18⟩
 refine iD S B (Yb bl gr gp) 113 ?_ ?_
 ·have F:=an (an (ad trivial (show ¬gp=gr from hpr)) hbr) hbp
  refine Il aM _ (Sub.refl _) [0,1,2,3,4,6,7,9,10] 9 12 (by kernel_rfl) ?_
  simp[w3]
  refine C5 (i:=5) (j:=8) (m:=11) false false false (by kernel_rfl) rfl rfl (by kernel_rfl) rfl rfl (by kernel_rfl) rfl rfl (by kernel_rfl) ?_ ?_ ?_
  ·simp[F]
   refine⟨by omega,by unfold maxLen;omega,?_⟩
   intro ga hga
   intros
   have F:=an (ad (ad F (show ¬ga=gr by assumption)) (show ¬ga=gp by assumption)) (show bl ga=none by assumption)
   refine⟨by simp[F],?_⟩
   refine C5 (i:=8) (j:=11) (m:=12) false false true (by kernel_rfl) rfl rfl (by kernel_rfl) rfl rfl (by kernel_rfl) rfl rfl (by kernel_rfl) ?_ ?_ ?_
   ·simp[F]
    refine⟨by omega,by unfold maxLen;omega,?_⟩
    intro gb hgb
    intros
    have F:=an (ad (ad (ad F (show ¬gb=gr by assumption)) (show ¬gb=gp by assumption)) (show ¬gb=ga by assumption)) (show bl gb=none by assumption)
    refine⟨by simp[F],?_⟩
    refine Dw 11 12 false true ?_ ?_
    ·simp[F]
     refine⟨by omega,by unfold maxLen;omega,?_⟩
     intro gc hgc
     intros
     have F:=an (ad (ad (ad (ad F (show ¬gc=gr by assumption)) (show ¬gc=gp by assumption)) (show ¬gc=ga by assumption)) (show ¬gc=gb by assumption)) (show bl gc=none by assumption)
     refine⟨by simp[F],?_⟩
     refine Dq 12 true ?_
     simp[F]
     refine Dq 13 true ?_
     simp[F]
     refine Dq 14 true ?_
     simp[F]
     refine Dq 15 true ?_
     simp[F]
     refine Dq 16 true ?_
     simp[F]
     refine Dq 17 true ?_
     simp[F]
     refine Dd ?_
     rw[aI]
     exact leaf _ _ ga gb gc hga hgb hgc (by simp[F]) rfl (by simp[S]) (by intro x y hx;simp only[B,aC] at hx ⊢;grind)
    ·simp[F]
     refine Dw 11 13 true true ?_ ?_
     ·simp[F]
      refine⟨by omega,by unfold maxLen;omega,?_⟩
      intro gc hgc
      intros
      have F:=an (ad (ad (ad (ad F (show ¬gc=gr by assumption)) (show ¬gc=gp by assumption)) (show ¬gc=ga by assumption)) (show ¬gc=gb by assumption)) (show bl gc=none by assumption)
      refine Dq 13 true ?_
      simp[F]
      refine Dq 14 true ?_
      simp[F]
      refine Dq 15 true ?_
      simp[F]
      refine Dq 16 true ?_
      simp[F]
      refine Dq 17 true ?_
      simp[F]
      refine Dd ?_
      rw[aI]
      exact leaf _ _ ga gb gc hga hgb hgc (by simp[F]) rfl (by simp[S]) (by intro x y hx;simp only[B,aC] at hx ⊢;grind)
     ·simp[F]
      refine Dw 11 14 true true ?_ ?_
      ·simp[F]
       refine⟨by omega,by unfold maxLen;omega,?_⟩
       intro gc hgc
       intros
       have F:=an (ad (ad (ad (ad F (show ¬gc=gr by assumption)) (show ¬gc=gp by assumption)) (show ¬gc=ga by assumption)) (show ¬gc=gb by assumption)) (show bl gc=none by assumption)
       refine Dq 14 true ?_
       simp[F]
       refine Dq 15 true ?_
       simp[F]
       refine Dq 16 true ?_
       simp[F]
       refine Dq 17 true ?_
       simp[F]
       refine Dd ?_
       rw[aI]
       exact leaf _ _ ga gb gc hga hgb hgc (by simp[F]) rfl (by simp[S]) (by intro x y hx;simp only[B,aC] at hx ⊢;grind)
      ·simp[F]
       refine Dw 11 15 true true ?_ ?_
       ·simp[F]
        refine⟨by omega,by unfold maxLen;omega,?_⟩
        intro gc hgc
        intros
        have F:=an (ad (ad (ad (ad F (show ¬gc=gr by assumption)) (show ¬gc=gp by assumption)) (show ¬gc=ga by assumption)) (show ¬gc=gb by assumption)) (show bl gc=none by assumption)
        refine Dq 15 true ?_
        simp[F]
        refine Dq 16 true ?_
        simp[F]
        refine Dq 17 true ?_
        simp[F]
        refine Dd ?_
        rw[aI]
        exact leaf _ _ ga gb gc hga hgb hgc (by simp[F]) rfl (by simp[S]) (by intro x y hx;simp only[B,aC] at hx ⊢;grind)
       ·simp[F]
        refine Dq 11 true ?_
        simp[F]
        refine⟨by omega,by unfold maxLen;omega,?_⟩
        intro gc hgc
        intros
        have F:=an (ad (ad (ad (ad F (show ¬gc=gr by assumption)) (show ¬gc=gp by assumption)) (show ¬gc=ga by assumption)) (show ¬gc=gb by assumption)) (show bl gc=none by assumption)
        refine Dq 16 true ?_
        simp[F]
        refine Dq 17 true ?_
        simp[F]
        refine Dd ?_
        rw[aI]
        exact leaf _ _ ga gb gc hga hgb hgc (by simp[F]) rfl (by simp[S]) (by intro x y hx;simp only[B,aC] at hx ⊢;grind)
   ·simp[F]
    refine⟨by omega,by unfold maxLen;omega,?_⟩
    intro gc hgc
    intros
    have F:=an (ad (ad (ad F (show ¬gc=gr by assumption)) (show ¬gc=gp by assumption)) (show ¬gc=ga by assumption)) (show bl gc=none by assumption)
    refine⟨by simp[F],?_⟩
    refine Dw 8 12 false true ?_ ?_
    ·simp[F]
     refine⟨by omega,by unfold maxLen;omega,?_⟩
     intro gb hgb
     intros
     have F:=an (ad (ad (ad (ad F (show ¬gb=gr by assumption)) (show ¬gb=gp by assumption)) (show ¬gb=ga by assumption)) (show ¬gb=gc by assumption)) (show bl gb=none by assumption)
     refine⟨by simp[F],?_⟩
     refine Dq 12 true ?_
     simp[F]
     refine Dq 13 true ?_
     simp[F]
     refine Dq 14 true ?_
     simp[F]
     refine Dq 15 true ?_
     simp[F]
     refine Dq 16 true ?_
     simp[F]
     refine Dq 17 true ?_
     simp[F]
     refine Dd ?_
     rw[aI]
     exact leaf _ _ ga gb gc hga hgb hgc (by simp[F]) rfl (by simp[S]) (by intro x y hx;simp only[B,aC] at hx ⊢;grind)
    ·simp[F]
     refine Dw 8 13 true true ?_ ?_
     ·simp[F]
      refine⟨by omega,by unfold maxLen;omega,?_⟩
      intro gb hgb
      intros
      have F:=an (ad (ad (ad (ad F (show ¬gb=gr by assumption)) (show ¬gb=gp by assumption)) (show ¬gb=ga by assumption)) (show ¬gb=gc by assumption)) (show bl gb=none by assumption)
      refine Dq 13 true ?_
      simp[F]
      refine Dq 14 true ?_
      simp[F]
      refine Dq 15 true ?_
      simp[F]
      refine Dq 16 true ?_
      simp[F]
      refine Dq 17 true ?_
      simp[F]
      refine Dd ?_
      rw[aI]
      exact leaf _ _ ga gb gc hga hgb hgc (by simp[F]) rfl (by simp[S]) (by intro x y hx;simp only[B,aC] at hx ⊢;grind)
     ·simp[F]
      refine Dq 8 true ?_
      simp[F]
      refine⟨by omega,by unfold maxLen;omega,?_⟩
      intro gb hgb
      intros
      have F:=an (ad (ad (ad (ad F (show ¬gb=gr by assumption)) (show ¬gb=gp by assumption)) (show ¬gb=ga by assumption)) (show ¬gb=gc by assumption)) (show bl gb=none by assumption)
      refine Dq 14 true ?_
      simp[F]
      refine Dq 15 true ?_
      simp[F]
      refine Dq 16 true ?_
      simp[F]
      refine Dq 17 true ?_
      simp[F]
      refine Dd ?_
      rw[aI]
      exact leaf _ _ ga gb gc hga hgb hgc (by simp[F]) rfl (by simp[S]) (by intro x y hx;simp only[B,aC] at hx ⊢;grind)
   ·simp[F]
    refine C5 (i:=8) (j:=11) (m:=13) true true true (by kernel_rfl) rfl rfl (by kernel_rfl) rfl rfl (by kernel_rfl) rfl rfl (by kernel_rfl) ?_ ?_ ?_
    ·simp[F]
     refine⟨by omega,by unfold maxLen;omega,?_⟩
     intro gb hgb
     intros
     have F:=an (ad (ad (ad F (show ¬gb=gr by assumption)) (show ¬gb=gp by assumption)) (show ¬gb=ga by assumption)) (show bl gb=none by assumption)
     refine Dw 11 13 true true ?_ ?_
     ·simp[F]
      refine⟨by omega,by unfold maxLen;omega,?_⟩
      intro gc hgc
      intros
      have F:=an (ad (ad (ad (ad F (show ¬gc=gr by assumption)) (show ¬gc=gp by assumption)) (show ¬gc=ga by assumption)) (show ¬gc=gb by assumption)) (show bl gc=none by assumption)
      refine Dq 13 true ?_
      simp[F]
      refine Dq 14 true ?_
      simp[F]
      refine Dq 15 true ?_
      simp[F]
      refine Dq 16 true ?_
      simp[F]
      refine Dq 17 true ?_
      simp[F]
      refine Dd ?_
      rw[aI]
      exact leaf _ _ ga gb gc hga hgb hgc (by simp[F]) rfl (by simp[S]) (by intro x y hx;simp only[B,aC] at hx ⊢;grind)
     ·simp[F]
      refine Dw 11 14 true true ?_ ?_
      ·simp[F]
       refine⟨by omega,by unfold maxLen;omega,?_⟩
       intro gc hgc
       intros
       have F:=an (ad (ad (ad (ad F (show ¬gc=gr by assumption)) (show ¬gc=gp by assumption)) (show ¬gc=ga by assumption)) (show ¬gc=gb by assumption)) (show bl gc=none by assumption)
       refine Dq 14 true ?_
       simp[F]
       refine Dq 15 true ?_
       simp[F]
       refine Dq 16 true ?_
       simp[F]
       refine Dq 17 true ?_
       simp[F]
       refine Dd ?_
       rw[aI]
       exact leaf _ _ ga gb gc hga hgb hgc (by simp[F]) rfl (by simp[S]) (by intro x y hx;simp only[B,aC] at hx ⊢;grind)
      ·simp[F]
       refine Dw 11 15 true true ?_ ?_
       ·simp[F]
        refine⟨by omega,by unfold maxLen;omega,?_⟩
        intro gc hgc
        intros
        have F:=an (ad (ad (ad (ad F (show ¬gc=gr by assumption)) (show ¬gc=gp by assumption)) (show ¬gc=ga by assumption)) (show ¬gc=gb by assumption)) (show bl gc=none by assumption)
        refine Dq 15 true ?_
        simp[F]
        refine Dq 16 true ?_
        simp[F]
        refine Dq 17 true ?_
        simp[F]
        refine Dd ?_
        rw[aI]
        exact leaf _ _ ga gb gc hga hgb hgc (by simp[F]) rfl (by simp[S]) (by intro x y hx;simp only[B,aC] at hx ⊢;grind)
       ·simp[F]
        refine Dq 11 true ?_
        simp[F]
        refine⟨by omega,by unfold maxLen;omega,?_⟩
        intro gc hgc
        intros
        have F:=an (ad (ad (ad (ad F (show ¬gc=gr by assumption)) (show ¬gc=gp by assumption)) (show ¬gc=ga by assumption)) (show ¬gc=gb by assumption)) (show bl gc=none by assumption)
        refine Dq 16 true ?_
        simp[F]
        refine Dq 17 true ?_
        simp[F]
        refine Dd ?_
        rw[aI]
        exact leaf _ _ ga gb gc hga hgb hgc (by simp[F]) rfl (by simp[S]) (by intro x y hx;simp only[B,aC] at hx ⊢;grind)
    ·simp[F]
     refine⟨by omega,by unfold maxLen;omega,?_⟩
     intro gc hgc
     intros
     have F:=an (ad (ad (ad F (show ¬gc=gr by assumption)) (show ¬gc=gp by assumption)) (show ¬gc=ga by assumption)) (show bl gc=none by assumption)
     refine Dw 8 13 true true ?_ ?_
     ·simp[F]
      refine⟨by omega,by unfold maxLen;omega,?_⟩
      intro gb hgb
      intros
      have F:=an (ad (ad (ad (ad F (show ¬gb=gr by assumption)) (show ¬gb=gp by assumption)) (show ¬gb=ga by assumption)) (show ¬gb=gc by assumption)) (show bl gb=none by assumption)
      refine Dq 13 true ?_
      simp[F]
      refine Dq 14 true ?_
      simp[F]
      refine Dq 15 true ?_
      simp[F]
      refine Dq 16 true ?_
      simp[F]
      refine Dq 17 true ?_
      simp[F]
      refine Dd ?_
      rw[aI]
      exact leaf _ _ ga gb gc hga hgb hgc (by simp[F]) rfl (by simp[S]) (by intro x y hx;simp only[B,aC] at hx ⊢;grind)
     ·simp[F]
      refine Dq 8 true ?_
      simp[F]
      refine⟨by omega,by unfold maxLen;omega,?_⟩
      intro gb hgb
      intros
      have F:=an (ad (ad (ad (ad F (show ¬gb=gr by assumption)) (show ¬gb=gp by assumption)) (show ¬gb=ga by assumption)) (show ¬gb=gc by assumption)) (show bl gb=none by assumption)
      refine Dq 14 true ?_
      simp[F]
      refine Dq 15 true ?_
      simp[F]
      refine Dq 16 true ?_
      simp[F]
      refine Dq 17 true ?_
      simp[F]
      refine Dd ?_
      rw[aI]
      exact leaf _ _ ga gb gc hga hgb hgc (by simp[F]) rfl (by simp[S]) (by intro x y hx;simp only[B,aC] at hx ⊢;grind)
    ·simp[F]
     refine Dw 8 11 true true ?_ ?_
     ·simp[F]
      refine⟨by omega,by unfold maxLen;omega,?_⟩
      intro gb hgb
      intros
      have F:=an (ad (ad (ad F (show ¬gb=gr by assumption)) (show ¬gb=gp by assumption)) (show ¬gb=ga by assumption)) (show bl gb=none by assumption)
      refine Dw 11 14 true true ?_ ?_
      ·simp[F]
       refine⟨by omega,by unfold maxLen;omega,?_⟩
       intro gc hgc
       intros
       have F:=an (ad (ad (ad (ad F (show ¬gc=gr by assumption)) (show ¬gc=gp by assumption)) (show ¬gc=ga by assumption)) (show ¬gc=gb by assumption)) (show bl gc=none by assumption)
       refine Dq 14 true ?_
       simp[F]
       refine Dq 15 true ?_
       simp[F]
       refine Dq 16 true ?_
       simp[F]
       refine Dq 17 true ?_
       simp[F]
       refine Dd ?_
       rw[aI]
       exact leaf _ _ ga gb gc hga hgb hgc (by simp[F]) rfl (by simp[S]) (by intro x y hx;simp only[B,aC] at hx ⊢;grind)
      ·simp[F]
       refine Dw 11 15 true true ?_ ?_
       ·simp[F]
        refine⟨by omega,by unfold maxLen;omega,?_⟩
        intro gc hgc
        intros
        have F:=an (ad (ad (ad (ad F (show ¬gc=gr by assumption)) (show ¬gc=gp by assumption)) (show ¬gc=ga by assumption)) (show ¬gc=gb by assumption)) (show bl gc=none by assumption)
        refine Dq 15 true ?_
        simp[F]
        refine Dq 16 true ?_
        simp[F]
        refine Dq 17 true ?_
        simp[F]
        refine Dd ?_
        rw[aI]
        exact leaf _ _ ga gb gc hga hgb hgc (by simp[F]) rfl (by simp[S]) (by intro x y hx;simp only[B,aC] at hx ⊢;grind)
       ·simp[F]
        refine Dq 11 true ?_
        simp[F]
        refine⟨by omega,by unfold maxLen;omega,?_⟩
        intro gc hgc
        intros
        have F:=an (ad (ad (ad (ad F (show ¬gc=gr by assumption)) (show ¬gc=gp by assumption)) (show ¬gc=ga by assumption)) (show ¬gc=gb by assumption)) (show bl gc=none by assumption)
        refine Dq 16 true ?_
        simp[F]
        refine Dq 17 true ?_
        simp[F]
        refine Dd ?_
        rw[aI]
        exact leaf _ _ ga gb gc hga hgb hgc (by simp[F]) rfl (by simp[S]) (by intro x y hx;simp only[B,aC] at hx ⊢;grind)
     ·simp[F]
      refine⟨by omega,by unfold maxLen;omega,?_⟩
      intro gc hgc
      intros
      have F:=an (ad (ad (ad F (show ¬gc=gr by assumption)) (show ¬gc=gp by assumption)) (show ¬gc=ga by assumption)) (show bl gc=none by assumption)
      refine Dq 8 true ?_
      simp[F]
      refine⟨by omega,by unfold maxLen;omega,?_⟩
      intro gb hgb
      intros
      have F:=an (ad (ad (ad (ad F (show ¬gb=gr by assumption)) (show ¬gb=gp by assumption)) (show ¬gb=ga by assumption)) (show ¬gb=gc by assumption)) (show bl gb=none by assumption)
      refine Dq 14 true ?_
      simp[F]
      refine Dq 15 true ?_
      simp[F]
      refine Dq 16 true ?_
      simp[F]
      refine Dq 17 true ?_
      simp[F]
      refine Dd ?_
      rw[aI]
      exact leaf _ _ ga gb gc hga hgb hgc (by simp[F]) rfl (by simp[S]) (by intro x y hx;simp only[B,aC] at hx ⊢;grind)
  ·simp[F]
   refine⟨by omega,by unfold maxLen;omega,?_⟩
   intro gb hgb
   intros
   have F:=an (ad (ad F (show ¬gb=gr by assumption)) (show ¬gb=gp by assumption)) (show bl gb=none by assumption)
   refine⟨by simp[F],?_⟩
   refine Dw 5 11 false false ?_ ?_
   ·simp[F]
    refine⟨by omega,by unfold maxLen;omega,?_⟩
    intro ga hga
    intros
    have F:=an (ad (ad (ad F (show ¬ga=gr by assumption)) (show ¬ga=gp by assumption)) (show ¬ga=gb by assumption)) (show bl ga=none by assumption)
    refine⟨by simp[F],?_⟩
    refine Dw 11 12 false true ?_ ?_
    ·simp[F]
     refine⟨by omega,by unfold maxLen;omega,?_⟩
     intro gc hgc
     intros
     have F:=an (ad (ad (ad (ad F (show ¬gc=gr by assumption)) (show ¬gc=gp by assumption)) (show ¬gc=gb by assumption)) (show ¬gc=ga by assumption)) (show bl gc=none by assumption)
     refine⟨by simp[F],?_⟩
     refine Dq 12 true ?_
     simp[F]
     refine Dq 13 true ?_
     simp[F]
     refine Dq 14 true ?_
     simp[F]
     refine Dq 15 true ?_
     simp[F]
     refine Dq 16 true ?_
     simp[F]
     refine Dq 17 true ?_
     simp[F]
     refine Dd ?_
     rw[aI]
     exact leaf _ _ ga gb gc hga hgb hgc (by simp[F]) rfl (by simp[S]) (by intro x y hx;simp only[B,aC] at hx ⊢;grind)
    ·simp[F]
     refine Dw 11 13 true true ?_ ?_
     ·simp[F]
      refine⟨by omega,by unfold maxLen;omega,?_⟩
      intro gc hgc
      intros
      have F:=an (ad (ad (ad (ad F (show ¬gc=gr by assumption)) (show ¬gc=gp by assumption)) (show ¬gc=gb by assumption)) (show ¬gc=ga by assumption)) (show bl gc=none by assumption)
      refine Dq 13 true ?_
      simp[F]
      refine Dq 14 true ?_
      simp[F]
      refine Dq 15 true ?_
      simp[F]
      refine Dq 16 true ?_
      simp[F]
      refine Dq 17 true ?_
      simp[F]
      refine Dd ?_
      rw[aI]
      exact leaf _ _ ga gb gc hga hgb hgc (by simp[F]) rfl (by simp[S]) (by intro x y hx;simp only[B,aC] at hx ⊢;grind)
     ·simp[F]
      refine Dw 11 14 true true ?_ ?_
      ·simp[F]
       refine⟨by omega,by unfold maxLen;omega,?_⟩
       intro gc hgc
       intros
       have F:=an (ad (ad (ad (ad F (show ¬gc=gr by assumption)) (show ¬gc=gp by assumption)) (show ¬gc=gb by assumption)) (show ¬gc=ga by assumption)) (show bl gc=none by assumption)
       refine Dq 14 true ?_
       simp[F]
       refine Dq 15 true ?_
       simp[F]
       refine Dq 16 true ?_
       simp[F]
       refine Dq 17 true ?_
       simp[F]
       refine Dd ?_
       rw[aI]
       exact leaf _ _ ga gb gc hga hgb hgc (by simp[F]) rfl (by simp[S]) (by intro x y hx;simp only[B,aC] at hx ⊢;grind)
      ·simp[F]
       refine Dw 11 15 true true ?_ ?_
       ·simp[F]
        refine⟨by omega,by unfold maxLen;omega,?_⟩
        intro gc hgc
        intros
        have F:=an (ad (ad (ad (ad F (show ¬gc=gr by assumption)) (show ¬gc=gp by assumption)) (show ¬gc=gb by assumption)) (show ¬gc=ga by assumption)) (show bl gc=none by assumption)
        refine Dq 15 true ?_
        simp[F]
        refine Dq 16 true ?_
        simp[F]
        refine Dq 17 true ?_
        simp[F]
        refine Dd ?_
        rw[aI]
        exact leaf _ _ ga gb gc hga hgb hgc (by simp[F]) rfl (by simp[S]) (by intro x y hx;simp only[B,aC] at hx ⊢;grind)
       ·simp[F]
        refine Dq 11 true ?_
        simp[F]
        refine⟨by omega,by unfold maxLen;omega,?_⟩
        intro gc hgc
        intros
        have F:=an (ad (ad (ad (ad F (show ¬gc=gr by assumption)) (show ¬gc=gp by assumption)) (show ¬gc=gb by assumption)) (show ¬gc=ga by assumption)) (show bl gc=none by assumption)
        refine Dq 16 true ?_
        simp[F]
        refine Dq 17 true ?_
        simp[F]
        refine Dd ?_
        rw[aI]
        exact leaf _ _ ga gb gc hga hgb hgc (by simp[F]) rfl (by simp[S]) (by intro x y hx;simp only[B,aC] at hx ⊢;grind)
   ·simp[F]
    refine⟨by omega,by unfold maxLen;omega,?_⟩
    intro gc hgc
    intros
    have F:=an (ad (ad (ad F (show ¬gc=gr by assumption)) (show ¬gc=gp by assumption)) (show ¬gc=gb by assumption)) (show bl gc=none by assumption)
    refine⟨by simp[F],?_⟩
    refine Dq 5 false ?_
    simp[F]
    refine⟨by omega,by unfold maxLen;omega,?_⟩
    intro ga hga
    intros
    have F:=an (ad (ad (ad (ad F (show ¬ga=gr by assumption)) (show ¬ga=gp by assumption)) (show ¬ga=gb by assumption)) (show ¬ga=gc by assumption)) (show bl ga=none by assumption)
    refine⟨by simp[F],?_⟩
    refine Dq 12 true ?_
    simp[F]
    refine Dq 13 true ?_
    simp[F]
    refine Dq 14 true ?_
    simp[F]
    refine Dq 15 true ?_
    simp[F]
    refine Dq 16 true ?_
    simp[F]
    refine Dq 17 true ?_
    simp[F]
    refine Dd ?_
    rw[aI]
    exact leaf _ _ ga gb gc hga hgb hgc (by simp[F]) rfl (by simp[S]) (by intro x y hx;simp only[B,aC] at hx ⊢;grind)
  ·simp[F]
   refine⟨by omega,by unfold maxLen;omega,?_⟩
   intro gc hgc
   intros
   have F:=an (ad (ad F (show ¬gc=gr by assumption)) (show ¬gc=gp by assumption)) (show bl gc=none by assumption)
   refine⟨by simp[F],?_⟩
   refine Dw 5 8 false false ?_ ?_
   ·simp[F]
    refine⟨by omega,by unfold maxLen;omega,?_⟩
    intro ga hga
    intros
    have F:=an (ad (ad (ad F (show ¬ga=gr by assumption)) (show ¬ga=gp by assumption)) (show ¬ga=gc by assumption)) (show bl ga=none by assumption)
    refine⟨by simp[F],?_⟩
    refine Dw 8 12 false true ?_ ?_
    ·simp[F]
     refine⟨by omega,by unfold maxLen;omega,?_⟩
     intro gb hgb
     intros
     have F:=an (ad (ad (ad (ad F (show ¬gb=gr by assumption)) (show ¬gb=gp by assumption)) (show ¬gb=gc by assumption)) (show ¬gb=ga by assumption)) (show bl gb=none by assumption)
     refine⟨by simp[F],?_⟩
     refine Dq 12 true ?_
     simp[F]
     refine Dq 13 true ?_
     simp[F]
     refine Dq 14 true ?_
     simp[F]
     refine Dq 15 true ?_
     simp[F]
     refine Dq 16 true ?_
     simp[F]
     refine Dq 17 true ?_
     simp[F]
     refine Dd ?_
     rw[aI]
     exact leaf _ _ ga gb gc hga hgb hgc (by simp[F]) rfl (by simp[S]) (by intro x y hx;simp only[B,aC] at hx ⊢;grind)
    ·simp[F]
     refine Dw 8 13 true true ?_ ?_
     ·simp[F]
      refine⟨by omega,by unfold maxLen;omega,?_⟩
      intro gb hgb
      intros
      have F:=an (ad (ad (ad (ad F (show ¬gb=gr by assumption)) (show ¬gb=gp by assumption)) (show ¬gb=gc by assumption)) (show ¬gb=ga by assumption)) (show bl gb=none by assumption)
      refine Dq 13 true ?_
      simp[F]
      refine Dq 14 true ?_
      simp[F]
      refine Dq 15 true ?_
      simp[F]
      refine Dq 16 true ?_
      simp[F]
      refine Dq 17 true ?_
      simp[F]
      refine Dd ?_
      rw[aI]
      exact leaf _ _ ga gb gc hga hgb hgc (by simp[F]) rfl (by simp[S]) (by intro x y hx;simp only[B,aC] at hx ⊢;grind)
     ·simp[F]
      refine Dq 8 true ?_
      simp[F]
      refine⟨by omega,by unfold maxLen;omega,?_⟩
      intro gb hgb
      intros
      have F:=an (ad (ad (ad (ad F (show ¬gb=gr by assumption)) (show ¬gb=gp by assumption)) (show ¬gb=gc by assumption)) (show ¬gb=ga by assumption)) (show bl gb=none by assumption)
      refine Dq 14 true ?_
      simp[F]
      refine Dq 15 true ?_
      simp[F]
      refine Dq 16 true ?_
      simp[F]
      refine Dq 17 true ?_
      simp[F]
      refine Dd ?_
      rw[aI]
      exact leaf _ _ ga gb gc hga hgb hgc (by simp[F]) rfl (by simp[S]) (by intro x y hx;simp only[B,aC] at hx ⊢;grind)
   ·simp[F]
    refine⟨by omega,by unfold maxLen;omega,?_⟩
    intro gb hgb
    intros
    have F:=an (ad (ad (ad F (show ¬gb=gr by assumption)) (show ¬gb=gp by assumption)) (show ¬gb=gc by assumption)) (show bl gb=none by assumption)
    refine⟨by simp[F],?_⟩
    refine Dq 5 false ?_
    simp[F]
    refine⟨by omega,by unfold maxLen;omega,?_⟩
    intro ga hga
    intros
    have F:=an (ad (ad (ad (ad F (show ¬ga=gr by assumption)) (show ¬ga=gp by assumption)) (show ¬ga=gc by assumption)) (show ¬ga=gb by assumption)) (show bl ga=none by assumption)
    refine⟨by simp[F],?_⟩
    refine Dq 12 true ?_
    simp[F]
    refine Dq 13 true ?_
    simp[F]
    refine Dq 14 true ?_
    simp[F]
    refine Dq 15 true ?_
    simp[F]
    refine Dq 16 true ?_
    simp[F]
    refine Dq 17 true ?_
    simp[F]
    refine Dd ?_
    rw[aI]
    exact leaf _ _ ga gb gc hga hgb hgc (by simp[F]) rfl (by simp[S]) (by intro x y hx;simp only[B,aC] at hx ⊢;grind)
 rintro⟨ga,gb,gc⟩ ⟨a0,b0,c0,ba,ca,cb,ar,ap,br,bp,cr,cp,fa,fb,fc⟩
 simp only at a0 b0 c0 ba ca cb ar ap br bp cr cp fa fb fc
 simp only[S,B]
 clear leaf S B
 obtain⟨BB,hBB⟩: ∃BB:List (List V)→List (List V)→Int→Option Blk,BB=fun ea eb=>upd (upd (upd (upd (upd bl gr (some ⟨5,[[.int .i64 0,.int .i64 0,.nils,.nils,.nils]]⟩)) gp (some ⟨5,[[.int .i64 (nR s),.int .i64 (nC s),.lsl ga 1 0 nA,.lsl gb 1 0 (nR s),.lsl gc 1 0 (nC s)]]⟩)) ga (some ⟨1,ea⟩)) gb (some ⟨1,eb⟩)) gc (some ⟨1,List.replicate (nC s) [.int .i64 0]⟩):=⟨_,rfl⟩
 have hBr: ∀ea eb,BB ea eb gr=some ⟨5,[[.int .i64 0,.int .i64 0,.nils,.nils,.nils]]⟩:=fun ea eb=>by rw[hBB];simp[hpr,Ne.symm hpr,ar,br,cr,Ne.symm ar,Ne.symm br,Ne.symm cr]
 have hBp: ∀ea eb,BB ea eb gp=some ⟨5,[[.int .i64 (nR s),.int .i64 (nC s),.lsl ga 1 0 nA,.lsl gb 1 0 (nR s),.lsl gc 1 0 (nC s)]]⟩:=fun ea eb=>by rw[hBB];simp[ap,bp,cp,Ne.symm ap,Ne.symm bp,Ne.symm cp]
 have hBa: ∀ea eb,BB ea eb ga=some ⟨1,ea⟩:=fun ea eb=>by rw[hBB];simp[ba,ca,Ne.symm ba,Ne.symm ca]
 have hBb: ∀ea eb,BB ea eb gb=some ⟨1,eb⟩:=fun ea eb=>by rw[hBB];simp[cb,Ne.symm cb]
 have hBc: ∀ea eb,BB ea eb gc=some ⟨1,List.replicate (nC s) [.int .i64 0]⟩:=fun ea eb=>by rw[hBB];simp
 have hBs: ∀ea eb,Sub bl (BB ea eb):=fun ea eb=>by rw[hBB];simp[hbr,hbp,fa,fb,fc]
 have aID: ∀ea eb e,upd (BB ea eb) ga (some ⟨1,e⟩)=BB e eb:=fun ea eb e=>by
  rw[hBB];funext x;simp only[aC];grind
 have aKF: ∀ea eb e,upd (BB ea eb) gb (some ⟨1,e⟩)=BB ea e:=fun ea eb e=>by
  rw[hBB];funext x;simp only[aC];grind
 have hB0:upd (upd (upd (upd (upd bl gr (some ⟨5,[[.int .i64 0,.int .i64 0,.nils,.nils,.nils]]⟩)) gp (some ⟨5,[[.int .i64 (nR s),.int .i64 (nC s),.lsl ga 1 0 nA,.lsl gb 1 0 (nR s),.lsl gc 1 0 (nC s)]]⟩)) ga (some ⟨1,List.replicate nA [.int .i64 0]⟩)) gb (some ⟨1,List.replicate (nR s) [.int .i64 0]⟩)) gc (some ⟨1,List.replicate (nC s) [.int .i64 0]⟩)=BB (part (iv (aTo s nA)) [.int .i64 0] 0) (part (iv (right s l)) [.int .i64 0] 0):=by
  rw[hBB];simp[gV]
 rw[hB0]
 clear hB0 hBB
 refine aB ?_
 simp[er]
 refine aG (fun i:Nat=> [(0,.ptr s.c),(1,.sl (iv l)),(8,.loc gr 5 0 0),(10,.sl (cv (aS s.ms))),(11,.loc gp 5 0 0),(46,.sl (ivv (gE s))),(47,.int .i64 (nR s)),(48,.int .i64 i)]) (fun i=>BB (part (iv (aTo s nA)) [.int .i64 0] (i*nC s)) (part (iv (right s l)) [.int .i64 0] 0)) (fun i=>i≤nR s) (fun i=>nR s - i) 113 0 (Nat.zero_le _) ⟨rfl,by simp,sub_eq (by simp)⟩ ?_
 intro i hi
 refine aB ?_
 simp
 refine⟨fun h=> ?_,fun h=> ?_⟩
 ·have hie:i<(gE s).length:=by omega
  simp[hie]
  obtain⟨row,Im⟩: ∃r,(gE s)[i]=r:=⟨_,rfl⟩
  have aXE:row.length=s.ms.length:=sX s row (Im▸List.getElem_mem hie)
  rw[Im]
  refine aG (fun c:Nat=> [(0,.ptr s.c),(1,.sl (iv l)),(8,.loc gr 5 0 0),(10,.sl (cv (aS s.ms))),(11,.loc gp 5 0 0),(12,.int .i64 i),(13,.sl (iv row)),(46,.sl (ivv (gE s))),(47,.int .i64 (nR s)),(48,.int .i64 i),(53,.sl (cv (aS s.ms))),(54,.int .i64 (nC s)),(55,.int .i64 c)]) (fun c=>BB (part (iv (aTo s nA)) [.int .i64 0] (i*nC s+c)) (part (iv (right s l)) [.int .i64 0] 0)) (fun c=>c≤nC s) (fun c=>nC s - c) 113 0 (Nat.zero_le _) ⟨rfl,by simp[ec],sub_eq (by simp)⟩ ?_
  intro c hc
  refine aB ?_
  simp
  refine⟨fun hcl=> ?_,fun hcl=> ?_⟩
  ·have hcc:c<(aS s.ms).length:=hcl
   obtain⟨⟨k0,k1⟩,k2⟩:=pP s c hcl
   have qc:(cv (aS s.ms))[c]? =some [.int .i64 (jA s c).1,.int .i64 (jA s c).2]:=by simp[cv,jA,hcc]
   simp[qc]
   intro g1 hg1 hb1
   have n1p:g1≠gp:=fun e=>by rw[e,hBp] at hb1;cases hb1
   have n1a:g1≠ga:=fun e=>by rw[e,hBa] at hb1;cases hb1
   have f1:=bZ (hBs _ _) hb1
   obtain⟨⟨k,sg⟩,hk⟩: ∃k,jA s c=k:=⟨_,rfl⟩
   rw[hk] at k0 k1 k2 ⊢
   simp only at k0 k1 k2 ⊢
   have en:ent s i c=sg*lat row k.toNat:=by
    unfold ent
    rw[hk,zH,O1 _ (sX s) i k.toNat hie (by omega),Im]
   have bd: -100≤lat row k.toNat∧lat row k.toNat≤100:=by
    rw[←Im,←O1 _ (sX s) i k.toNat hie (by omega),←zH];exact qP hs _
   have qr:(iv row)[k.toNat]? =some [.int .i64 (lat row k.toNat)]:=rV (by omega)
   have w6:IntKind.i64.wrap (sg*lat row k.toNat)=ent s i c:=by
    rw[en];rcases k2 with rfl | rfl<;>exact i64_in (by omega) (by omega)
   have mc:(i+1)*nC s≤nA:=by rw[hA];exact Nat.mul_le_mul_right _ h
   rw[Nat.add_mul] at mc
   have mi:((i*nC s:Nat):Int)=(i:Int)*nC s:=by simp
   have w4:IntKind.i64.wrap ((i:Int)*nC s)=(i:Int)*nC s:=i64_in (by omega) (by omega)
   have w5:IntKind.i64.wrap ((i:Int)*nC s+c)=(i:Int)*nC s+c:=i64_in (by omega) (by omega)
   have w7:IntKind.i64.wrap ((c:Int)+1)=c+1:=i64_in (by omega) (by omega)
   have e1:((i:Int)*nC s+c).toNat=i*nC s+c:=by omega
   have p1:0≤(i:Int)*nC s+c:=by omega
   have p2:(i:Int)*nC s+c<nA:=by omega
   have p3:k<row.length:=by omega
   have hlt:i*nC s+c<(iv (aTo s nA)).length:=by simp;omega
   have ps:=cI (iv (aTo s nA)) [.int .i64 0] (i*nC s+c) hlt [.int .i64 (ent s i c)] (by
    rw[Zf s nA _ (by omega),Nat.mul_comm i,Nat.mul_add_div (by omega),Nat.mul_add_mod,Nat.div_eq_of_lt hcl,Nat.mod_eq_of_lt hcl,Nat.add_zero])
   have hK:Sub (upd (upd bl gp (some ⟨5,[[.int .i64 (nR s),.int .i64 (nC s),.lsl ga 1 0 nA,.lsl gb 1 0 (nR s),.lsl gc 1 0 (nC s)]]⟩)) g1 (some ⟨2,[[.int .i64 k,.int .i64 sg]]⟩)) (upd (BB (part (iv (aTo s nA)) [.int .i64 0] (i*nC s+c)) (List.replicate (right s l).length [.int .i64 0])) g1 (some ⟨2,[[.int .i64 k,.int .i64 sg]]⟩)):=by
    refine Be fun x y hx=> ?_
    rw[aC] at hx
    split at hx
    ·rename_i e;rw[e,hBp];exact hx
    ·exact hBs _ _ x y hx
   have hkr:k.toNat<row.length:=by omega
   have er2:row[k.toNat]'hkr=lat row k.toNat:=by simp[lat,hkr]
   refine aW aM _ hK [0,1,2,3,4,5,6,7,8,9,10,11,12,13,14,15,16] 1 (by kernel_rfl) ?_
   simp[-dN,n1p,Ne.symm n1p,w4,w5,w6,qr,k0,p1,p2,p3,er2]
   refine Dz 17 ?_
   have pg:=dJ (iv (aTo s nA)) [.int .i64 0] (i*nC s+c) hlt
   simp[n1a,Ne.symm n1a,hBa,e1,pg,ps,er2,w6]
   have hK2: ∀z,Sub (upd (upd bl gp (some ⟨5,[[.int .i64 (nR s),.int .i64 (nC s),.lsl ga 1 0 nA,.lsl gb 1 0 (nR s),.lsl gc 1 0 (nC s)]]⟩)) g1 (some ⟨2,[[.int .i64 k,.int .i64 sg]]⟩)) (upd (upd (BB (part (iv (aTo s nA)) [.int .i64 0] (i*nC s+c)) (List.replicate (right s l).length [.int .i64 0])) g1 (some ⟨2,[[.int .i64 k,.int .i64 sg]]⟩)) ga z):=by
    intro z x y hx
    have hxa:x≠ga:=fun e=>by
     rw[e,aC,if_neg (Ne.symm n1a),aC,if_neg ap,fa] at hx;cases hx
    rw[aC,if_neg hxa]
    exact hK x y hx
   refine⟨hK2 _,Dy ?_⟩
   simp[w7,aA]
   refine⟨c+1,by omega,by omega,rfl,by simp,?_⟩
   intro x y hx
   show upd (upd (BB _ _) g1 _) ga _ x=some y
   rw[aC,aC]
   split
   ·rename_i e;rw[e,hBa] at hx;exact hx
   ·rename_i e
    rw[if_neg (fun e=>by rw[e] at hx;rw[←aID (part (iv (aTo s nA)) [.int .i64 0] (i*nC s+c)),aC,if_neg n1a,hb1] at hx;cases hx)]
    rw[←aID (part (iv (aTo s nA)) [.int .i64 0] (i*nC s+c)),aC,if_neg e] at hx
    exact hx
  ·have:c=nC s:=by omega
   subst this
   have w7:IntKind.i64.wrap ((i:Int)+1)=i+1:=i64_in (by omega) (by omega)
   simp[w7,aA]
   exact⟨i+1,by omega,by omega,rfl,by simp,sub_eq (by rw[Nat.add_mul,Nat.one_mul])⟩
 ·have:i=nR s:=by omega
  subst this
  rw[←hA,eW _ _ _ (by simp)]
  refine aD (rN s (by omega)) ?_
  simp
  refine aG (fun i:Nat=> [(1,.sl (iv l)),(8,.loc gr 5 0 0),(11,.loc gp 5 0 0),(80,.sl (iv (aQ s.js))),(81,.int .i64 (aQ s.js).length),(82,.int .i64 i)]) (fun i=>BB (iv (aTo s nA)) (part (iv (right s l)) [.int .i64 0] (2*i))) (fun i=>i≤(aQ s.js).length) (fun i=>(aQ s.js).length - i) 113 0 (Nat.zero_le _) ⟨rfl,by simp,sub_eq (by simp)⟩ ?_
  intro i hi
  refine aB ?_
  simp
  refine⟨fun h=> ?_,fun h=> ?_⟩
  ·obtain⟨r1,r2⟩:=xJ (List.getElem_mem h)
   have ra:=Br s l (aQ s.js) i h
   simp[h]
   obtain⟨j,hj⟩: ∃j,(aQ s.js)[i]=j:=⟨_,rfl⟩
   rw[hj] at r1 r2 ra ⊢
   change lat (right s l) (2*i)=_∧lat (right s l) (2*i+1)=_ at ra
   have a1:(2*j).toNat<l.length:=by rw[hL.n];omega
   have a2:(2*j+1).toNat<l.length:=by rw[hL.n];omega
   have b1:=hL.f _ a1
   have b2:=hL.f _ a2
   have q1:=rV a1
   have q2:=rV a2
   have w1:IntKind.i64.wrap (2*j)=2*j:=i64_in (by omega) (by omega)
   have w2:IntKind.i64.wrap (2*j+1)=2*j+1:=i64_in (by omega) (by omega)
   have w3:IntKind.i64.wrap (-lat l (2*j).toNat)=lat (right s l) (2*i):=by rw[ra.1];exact i64_in (by omega) (by omega)
   have w4:IntKind.i64.wrap (-lat l (2*j+1).toNat)=lat (right s l) (2*i+1):=by rw[ra.2];exact i64_in (by omega) (by omega)
   have w5:IntKind.i64.wrap ((i:Int)+1)=i+1:=i64_in (by omega) (by omega)
   have w6:IntKind.i64.wrap (2*(i:Int))=2*i:=i64_in (by omega) (by omega)
   have w7:IntKind.i64.wrap (2*(i:Int)+1)=2*i+1:=i64_in (by omega) (by omega)
   have p1:0≤2*j:=by omega
   have p2:0≤2*j+1:=by omega
   have p3:2*(i:Int)<nR s:=by unfold nR;omega
   have p4:2*(i:Int)+1<nR s:=by unfold nR;omega
   have t1:(2*(i:Int)).toNat=2*i:=by omega
   have t2:(2*(i:Int)+1).toNat=2*i+1:=by omega
   have hl1:2*i<(iv (right s l)).length:=by rw[jY,gV];omega
   have hl2:2*i+1<(iv (right s l)).length:=by rw[jY,gV];omega
   have hK:Sub (upd bl gp (some ⟨5,[[.int .i64 (nR s),.int .i64 (nC s),.lsl ga 1 0 nA,.lsl gb 1 0 (nR s),.lsl gc 1 0 (nC s)]]⟩)) (BB (iv (aTo s nA)) (part (iv (right s l)) [.int .i64 0] (2*i))):=by
    intro x y hx
    rw[aC] at hx
    split at hx
    ·rename_i e;rw[e,hBp];exact hx
    ·exact hBs _ _ x y hx
   have hK2: ∀e,Sub (upd bl gp (some ⟨5,[[.int .i64 (nR s),.int .i64 (nC s),.lsl ga 1 0 nA,.lsl gb 1 0 (nR s),.lsl gc 1 0 (nC s)]]⟩)) (BB (iv (aTo s nA)) e):=by
    intro e x y hx
    rw[aC] at hx
    split at hx
    ·rename_i e;rw[e,hBp];exact hx
    ·exact hBs _ _ x y hx
   have g1:=dJ (iv (right s l)) [.int .i64 0] (2*i) hl1
   have g2:=dJ (iv (right s l)) [.int .i64 0] (2*i+1) hl2
   have s1:=cI (iv (right s l)) [.int .i64 0] (2*i) hl1 [.int .i64 (lat (right s l) (2*i))] (by
    have:=rV (l:=right s l) (i:=2*i) (by simpa using hl1);rw[List.getElem?_eq_getElem hl1] at this;exact(Option.some.inj this).symm)
   have s2:=cI (iv (right s l)) [.int .i64 0] (2*i+1) hl2 [.int .i64 (lat (right s l) (2*i+1))] (by
    have:=rV (l:=right s l) (i:=2*i+1) (by simpa using hl2);rw[List.getElem?_eq_getElem hl2] at this;exact(Option.some.inj this).symm)
   refine aW aM _ hK [0,1,2,3,4,5,6,7,8,9,10,11,12,13,14,15,16,17,18,19,20,21,22] 3 (by kernel_rfl) ?_
   have p5:0≤2*(i:Int):=by omega
   have p6:0≤2*(i:Int)+1:=by omega
   simp[-dN,w1,w2,w3,w4,w6,w7,q1,q2,p1,p2,p3,p4,p5,p6]
   refine tO (i:=23) (by kernel_rfl) (by rfl) (by rfl) ?_
   simp[hBb,t1,g1,s1,aKF]
   refine⟨hK2 _,tO (i:=24) (by kernel_rfl) (by rfl) (by rfl) ?_⟩
   simp[p4,p6]
   refine⟨hK2 _,tO (i:=25) (by kernel_rfl) (by rfl) (by rfl) ?_⟩
   simp[hBb,t2,g2,s2,aKF]
   refine⟨hK2 _,Dy ?_⟩
   simp[w5,aA]
   exact⟨i+1,by omega,by omega,rfl,by simp,sub_eq (by rw[Nat.mul_add])⟩
  ·have:i=(aQ s.js).length:=by omega
   subst this
   have bH:part (iv (right s l)) [.int .i64 0] (2*(aQ s.js).length)=iv (right s l):=by
    have e:(iv (right s l)).length=2*(aQ s.js).length:=by rw[jY,gV];rfl
    rw[←e];exact eW _ _ _ (Nat.le_refl _)
   rw[bH]
   simp[hBp,hBr]
   refine fJ [.agg [.int .i64 (nR s),.int .i64 (nC s),.lsl ga 1 0 nA,.lsl gb 1 0 (nR s),.lsl gc 1 0 (nC s)]] [ga,gb,gc] (by simp) ?_ (by simp[fa,fb,fc]) ?_
   ·show OwnD _ (.a _) (.agg _) _
    rw[OwnD]
    refine⟨_,rfl,lP (Gq _) (lP (Gq _) (lP (g1:= [ga]) (dH.2 (.inr ⟨ga,by simp[dQ,hA],rfl,?_,by omega⟩)) (lP (g1:= [gb]) (dH.2 (.inr ⟨gb,by simp[dQ,gV],rfl,?_,by omega⟩)) (lP (g1:= [gc]) (dH.2 (.inr ⟨gc,by simp[dQ],rfl,?_,by omega⟩)) Ue (by simp)) (by simp[Ne.symm cb])) (by simp[Ne.symm ba,Ne.symm ca])) (by simp)) (by simp)⟩
    ·simp[ar,hBa,dQ,hA]
    ·simp[br,hBb,dQ]
    ·simp[cr,hBc,dQ,iv]
   ·intro x y hx
    have hxr:x≠gr:=fun e=>by rw[e,hbr] at hx;cases hx
    simp[hxr]
    exact hBs _ _ x y hx

theorem lR {bl bl0:Int→Option Blk} {g h:Int} {ns ms:List Int} {b:Bool} (h0:0≤g∨ms= []) (h1:0≤h∨ns= []) (hg:bl0 g=none) (hh:bl0 h=none) (hb:bl g=some ⟨1,iv ms⟩) (hc:bl h=some ⟨1,iv ns⟩):frz (dropB bl bl0) 2 (.agg [.bool b,.lsl g 1 0 ms.length,.lsl h 1 0 ns.length])=some (.agg [.bool b,.sl (iv ms),.sl (iv ns)]):=by
 have e1:=rD h0 hg hb
 have e2:=rD h1 hh hc
 have e3:frz (dropB bl bl0) 1 (.bool b)=some (.bool b):=by simp[frz]
 rw[mF]
 simp only[List.mapM_cons,List.mapM_nil,e1,e2,e3]
 rfl
theorem Eu (r:RT) (hm:r.m.length≤1048576) (hd:r.d.length≤1048576):RO Tryz.prog 203 [.agg r.c] (.agg r.c):=by
 have bH: ∀m:List Int,((iv m).all fun c=>c.length==1 && c.all V.one)=true:=fun m=>by simp[iv]
 refine aH Tryz.func203 rfl rfl (by rw[Tryz.ntmps203];simp) fun bl=> ?_
 rw[Tryz.ntmps203,Tryz.results203]
 refine aE ?_
 simp[RT.c]
 intro g1 hg1 hb1 g2 hg2 h21 hb2
 refine cX 1 1 (.ptr r.c) (upd bl g2 (some ⟨3,[[.bool false,.nils,.nils]]⟩)) (by intro z b hz;simp only[aC,RT.c] at hz ⊢;grind) (by simp[frz,dropB,hb1,h21,Ne.symm h21,RT.c,V.cl]) ?_
 refine aB ?_
 simp
 have F:=trivial
 refine aW aM bl (by simp[hb2]) [0,1,2,4,5,6,10,11] 7 (by kernel_rfl) ?_
 simp[RT.c]
 refine gI (i:=3) (j:=9) (by kernel_rfl) rfl rfl rfl rfl ?_ ?_
 ·simp[]
  intro g3 hg3
  intros
  have Zz: ¬ g3=g2:=by first | assumption | grind
  have F:=ad F Zz
  have b3:bl g3=none:=by first | assumption | grind
  refine⟨by intro z b hz;simp only[aC,aF] at hz ⊢;grind,?_⟩
  refine gI (i:=7) (j:=9) (by kernel_rfl) rfl rfl rfl rfl ?_ ?_
  ·simp[F,appV,elsV,Int.not_lt.2 hg3,bH]
   refine⟨by omega,fun g7 hg7 hb7=> ?_⟩
   have Ns: ¬ g7=g2:=by grind
   have F:=ad F Ns
   have b7:bl g7=none:=by grind
   have z7:0≤g7∨r.m= []:=hg7.imp id (fun h=>by simpa [iv] using h)
   refine⟨by intro z b hz;simp only[aC,aF] at hz ⊢;grind,?_⟩
   refine gI (i:=8) (j:=9) (by kernel_rfl) rfl rfl rfl rfl ?_ ?_
   ·simp[F]
    refine⟨by intro z b hz;simp only[aC,aF] at hz ⊢;grind,?_⟩
    refine Dz 9 ?_
    simp[F]
    intro g9 hg9
    intros
    have Dx: ¬ g9=g2:=by first | assumption | grind
    have aA4: ¬ g9=g7:=by first | assumption | grind
    have F:=ad (ad F Dx) aA4
    have b9:bl g9=none:=by first | assumption | grind
    refine⟨by intro z b hz;simp only[aC,aF] at hz ⊢;grind,?_⟩
    refine Dz 12 ?_
    simp[F,appV,elsV,Int.not_lt.2 hg9,bH]
    refine⟨by omega,fun g12 uA oQ=> ?_⟩
    have nS: ¬ g12=g2:=by grind
    have nJ: ¬ g12=g7:=by grind
    have F:=ad (ad F nS) nJ
    have b12:bl g12=none:=by grind
    have z12:0≤g12∨r.d= []:=uA.imp id (fun h=>by simpa [iv] using h)
    refine⟨by intro z b hz;simp only[aC,aF] at hz ⊢;grind,?_⟩
    refine Dz 13 ?_
    simp[F]
    refine⟨by intro z b hz;simp only[aC,aF] at hz ⊢;grind,?_⟩
    refine Dz 14 ?_
    simp[F]
    refine⟨by intro z b hz;simp only[aC,aF] at hz ⊢;grind,?_⟩
    refine Dy ?_
    simp[F]
    refine aJ [.agg [.bool r.neg,.lsl g7 1 0 r.m.length,.lsl g12 1 0 r.d.length]] 2 (by simp[F]) (lR z7 z12 b7 b12 ?_ ?_) ?_
    ·simp[F]
    ·simp[F]
    ·intro z b hz;simp only[aC,aF] at hz ⊢;grind
   ·simp[F]
    intro g9 hg9
    intros
    have Dx: ¬ g9=g2:=by first | assumption | grind
    have aA4: ¬ g9=g7:=by first | assumption | grind
    have F:=ad (ad F Dx) aA4
    have b9:bl g9=none:=by first | assumption | grind
    refine⟨by intro z b hz;simp only[aC,aF] at hz ⊢;grind,?_⟩
    refine gI (i:=8) (j:=12) (by kernel_rfl) rfl rfl rfl rfl ?_ ?_
    ·simp[F]
     refine⟨by intro z b hz;simp only[aC,aF] at hz ⊢;grind,?_⟩
     refine Dz 12 ?_
     simp[F,appV,elsV,Int.not_lt.2 hg9,bH]
     refine⟨by omega,fun g12 uA oQ=> ?_⟩
     have nS: ¬ g12=g2:=by grind
     have nJ: ¬ g12=g7:=by grind
     have F:=ad (ad F nS) nJ
     have b12:bl g12=none:=by grind
     have z12:0≤g12∨r.d= []:=uA.imp id (fun h=>by simpa [iv] using h)
     refine⟨by intro z b hz;simp only[aC,aF] at hz ⊢;grind,?_⟩
     refine Dz 13 ?_
     simp[F]
     refine⟨by intro z b hz;simp only[aC,aF] at hz ⊢;grind,?_⟩
     refine Dz 14 ?_
     simp[F]
     refine⟨by intro z b hz;simp only[aC,aF] at hz ⊢;grind,?_⟩
     refine Dy ?_
     simp[F]
     refine aJ [.agg [.bool r.neg,.lsl g7 1 0 r.m.length,.lsl g12 1 0 r.d.length]] 2 (by simp[F]) (lR z7 z12 b7 b12 ?_ ?_) ?_
     ·simp[F]
     ·simp[F]
     ·intro z b hz;simp only[aC,aF] at hz ⊢;grind
    ·simp[F,appV,elsV,Int.not_lt.2 hg9,bH]
     refine⟨by omega,fun g12 uA oQ=> ?_⟩
     have nS: ¬ g12=g2:=by grind
     have nJ: ¬ g12=g7:=by grind
     have F:=ad (ad F nS) nJ
     have b12:bl g12=none:=by grind
     have z12:0≤g12∨r.d= []:=uA.imp id (fun h=>by simpa [iv] using h)
     refine⟨by intro z b hz;simp only[aC,aF] at hz ⊢;grind,?_⟩
     refine Dz 8 ?_
     simp[F]
     refine⟨by intro z b hz;simp only[aC,aF] at hz ⊢;grind,?_⟩
     refine Dz 13 ?_
     simp[F]
     refine⟨by intro z b hz;simp only[aC,aF] at hz ⊢;grind,?_⟩
     refine Dz 14 ?_
     simp[F]
     refine⟨by intro z b hz;simp only[aC,aF] at hz ⊢;grind,?_⟩
     refine Dy ?_
     simp[F]
     refine aJ [.agg [.bool r.neg,.lsl g7 1 0 r.m.length,.lsl g12 1 0 r.d.length]] 2 (by simp[F]) (lR z7 z12 b7 b12 ?_ ?_) ?_
     ·simp[F]
     ·simp[F]
     ·intro z b hz;simp only[aC,aF] at hz ⊢;grind
  ·simp[F]
   intro g9 hg9
   intros
   have Dx: ¬ g9=g2:=by first | assumption | grind
   have aSK: ¬ g9=g3:=by first | assumption | grind
   have F:=ad (ad F Dx) aSK
   have b9:bl g9=none:=by first | assumption | grind
   refine⟨by intro z b hz;simp only[aC,aF] at hz ⊢;grind,?_⟩
   refine Dz 7 ?_
   simp[F,appV,elsV,Int.not_lt.2 hg3,bH]
   refine⟨by omega,fun g7 hg7 hb7=> ?_⟩
   have Ns: ¬ g7=g2:=by grind
   have aDI: ¬ g7=g9:=by grind
   have F:=ad (ad F Ns) aDI
   have b7:bl g7=none:=by grind
   have z7:0≤g7∨r.m= []:=hg7.imp id (fun h=>by simpa [iv] using h)
   refine⟨by intro z b hz;simp only[aC,aF] at hz ⊢;grind,?_⟩
   refine gI (i:=8) (j:=12) (by kernel_rfl) rfl rfl rfl rfl ?_ ?_
   ·simp[F]
    refine⟨by intro z b hz;simp only[aC,aF] at hz ⊢;grind,?_⟩
    refine Dz 12 ?_
    simp[F,appV,elsV,Int.not_lt.2 hg9,bH]
    refine⟨by omega,fun g12 uA oQ=> ?_⟩
    have nS: ¬ g12=g2:=by grind
    have nJ: ¬ g12=g7:=by grind
    have F:=ad (ad F nS) nJ
    have b12:bl g12=none:=by grind
    have z12:0≤g12∨r.d= []:=uA.imp id (fun h=>by simpa [iv] using h)
    refine⟨by intro z b hz;simp only[aC,aF] at hz ⊢;grind,?_⟩
    refine Dz 13 ?_
    simp[F]
    refine⟨by intro z b hz;simp only[aC,aF] at hz ⊢;grind,?_⟩
    refine Dz 14 ?_
    simp[F]
    refine⟨by intro z b hz;simp only[aC,aF] at hz ⊢;grind,?_⟩
    refine Dy ?_
    simp[F]
    refine aJ [.agg [.bool r.neg,.lsl g7 1 0 r.m.length,.lsl g12 1 0 r.d.length]] 2 (by simp[F]) (lR z7 z12 b7 b12 ?_ ?_) ?_
    ·simp[F]
    ·simp[F]
    ·intro z b hz;simp only[aC,aF] at hz ⊢;grind
   ·simp[F,appV,elsV,Int.not_lt.2 hg9,bH]
    refine⟨by omega,fun g12 uA oQ=> ?_⟩
    have nS: ¬ g12=g2:=by grind
    have nJ: ¬ g12=g7:=by grind
    have F:=ad (ad F nS) nJ
    have b12:bl g12=none:=by grind
    have z12:0≤g12∨r.d= []:=uA.imp id (fun h=>by simpa [iv] using h)
    refine⟨by intro z b hz;simp only[aC,aF] at hz ⊢;grind,?_⟩
    refine Dz 8 ?_
    simp[F]
    refine⟨by intro z b hz;simp only[aC,aF] at hz ⊢;grind,?_⟩
    refine Dz 13 ?_
    simp[F]
    refine⟨by intro z b hz;simp only[aC,aF] at hz ⊢;grind,?_⟩
    refine Dz 14 ?_
    simp[F]
    refine⟨by intro z b hz;simp only[aC,aF] at hz ⊢;grind,?_⟩
    refine Dy ?_
    simp[F]
    refine aJ [.agg [.bool r.neg,.lsl g7 1 0 r.m.length,.lsl g12 1 0 r.d.length]] 2 (by simp[F]) (lR z7 z12 b7 b12 ?_ ?_) ?_
    ·simp[F]
    ·simp[F]
    ·intro z b hz;simp only[aC,aF] at hz ⊢;grind
 ·simp[]
  intro g9 hg9
  intros
  have Dx: ¬ g9=g2:=by first | assumption | grind
  have F:=ad F Dx
  have b9:bl g9=none:=by first | assumption | grind
  refine⟨by intro z b hz;simp only[aC,aF] at hz ⊢;grind,?_⟩
  refine Dz 3 ?_
  simp[F]
  intro g3 hg3
  intros
  have Zz: ¬ g3=g2:=by first | assumption | grind
  have aUF: ¬ g3=g9:=by first | assumption | grind
  have F:=ad (ad F Zz) aUF
  have b3:bl g3=none:=by first | assumption | grind
  refine⟨by intro z b hz;simp only[aC,aF] at hz ⊢;grind,?_⟩
  refine Dz 7 ?_
  simp[F,appV,elsV,Int.not_lt.2 hg3,bH]
  refine⟨by omega,fun g7 hg7 hb7=> ?_⟩
  have Ns: ¬ g7=g2:=by grind
  have aDI: ¬ g7=g9:=by grind
  have F:=ad (ad F Ns) aDI
  have b7:bl g7=none:=by grind
  have z7:0≤g7∨r.m= []:=hg7.imp id (fun h=>by simpa [iv] using h)
  refine⟨by intro z b hz;simp only[aC,aF] at hz ⊢;grind,?_⟩
  refine gI (i:=8) (j:=12) (by kernel_rfl) rfl rfl rfl rfl ?_ ?_
  ·simp[F]
   refine⟨by intro z b hz;simp only[aC,aF] at hz ⊢;grind,?_⟩
   refine Dz 12 ?_
   simp[F,appV,elsV,Int.not_lt.2 hg9,bH]
   refine⟨by omega,fun g12 uA oQ=> ?_⟩
   have nS: ¬ g12=g2:=by grind
   have nJ: ¬ g12=g7:=by grind
   have F:=ad (ad F nS) nJ
   have b12:bl g12=none:=by grind
   have z12:0≤g12∨r.d= []:=uA.imp id (fun h=>by simpa [iv] using h)
   refine⟨by intro z b hz;simp only[aC,aF] at hz ⊢;grind,?_⟩
   refine Dz 13 ?_
   simp[F]
   refine⟨by intro z b hz;simp only[aC,aF] at hz ⊢;grind,?_⟩
   refine Dz 14 ?_
   simp[F]
   refine⟨by intro z b hz;simp only[aC,aF] at hz ⊢;grind,?_⟩
   refine Dy ?_
   simp[F]
   refine aJ [.agg [.bool r.neg,.lsl g7 1 0 r.m.length,.lsl g12 1 0 r.d.length]] 2 (by simp[F]) (lR z7 z12 b7 b12 ?_ ?_) ?_
   ·simp[F]
   ·simp[F]
   ·intro z b hz;simp only[aC,aF] at hz ⊢;grind
  ·simp[F,appV,elsV,Int.not_lt.2 hg9,bH]
   refine⟨by omega,fun g12 uA oQ=> ?_⟩
   have nS: ¬ g12=g2:=by grind
   have nJ: ¬ g12=g7:=by grind
   have F:=ad (ad F nS) nJ
   have b12:bl g12=none:=by grind
   have z12:0≤g12∨r.d= []:=uA.imp id (fun h=>by simpa [iv] using h)
   refine⟨by intro z b hz;simp only[aC,aF] at hz ⊢;grind,?_⟩
   refine Dz 8 ?_
   simp[F]
   refine⟨by intro z b hz;simp only[aC,aF] at hz ⊢;grind,?_⟩
   refine Dz 13 ?_
   simp[F]
   refine⟨by intro z b hz;simp only[aC,aF] at hz ⊢;grind,?_⟩
   refine Dz 14 ?_
   simp[F]
   refine⟨by intro z b hz;simp only[aC,aF] at hz ⊢;grind,?_⟩
   refine Dy ?_
   simp[F]
   refine aJ [.agg [.bool r.neg,.lsl g7 1 0 r.m.length,.lsl g12 1 0 r.d.length]] 2 (by simp[F]) (lR z7 z12 b7 b12 ?_ ?_) ?_
   ·simp[F]
   ·simp[F]
   ·intro z b hz;simp only[aC,aF] at hz ⊢;grind

def aSF (row:List Int):List (Option Rat):=row.map fun(n:Int)=>some (n:Rat)
def aVM (rows:List (List Int)):List (List (Option Rat)):=rows.map aSF
def aCK (l:List Int):List RT:=l.map fun(n:Int)=>ro (some (n:Rat))
def small (rows:List (List Int)):Prop:= ∀w,w∈rows→ ∀n,n∈w→ -100≤n∧n≤100
def aW6 (s:Str):MX:=if sOk s=true then⟨(gE s).length,s.ms.length,aCK (eC s)⟩ else⟨0,0,[]⟩

def r6 (n:Int):Rat:=mkRat n 6
def q6 (n:Int):Option Rat:=some (r6 n)
def dotTo (a u:List Int):Nat→Int
 | 0 => 0
 | n + 1 => dotTo a u n + lN a n * lN u n
def aMS (a b:List (Option Rat)):Nat→Option Rat
 | 0 => some 0
 | n + 1 => op2 (· + ·) (aMS a b n) (op2 (· * ·) (a.getD n none) (b.getD n none))

def aS3 :Pg:=⟨0,0,[],[],[]⟩
def aXR (s:Str) (l:List Int):Pg:=if lOk s l=true then dQ s l else aS3
def aWK (p q:Pg):Bool:=decide (p.rows=q.rows)&& (decide (p.aS=q.aS)&& (decide (p.a=q.a)&& (decide (p.b=q.b)&& decide (p.c=q.c))))
def mkP (k:Nat) (p:Pg):Pg:=⟨p.rows,p.aS,marks k p.a.length,marks (k+p.a.length:Nat) p.b.length,marks (k+p.a.length+p.b.length:Nat) p.c.length⟩
def aWX (k:Nat) (p:Pg):Nat:=k+p.a.length+p.b.length+p.c.length

theorem Ws (p:Pg):(dPg p).dep 2:=by simp[dPg,D.dep,D.depL,jL]
theorem aDL (p:Pg):(dPg p).fz= .agg p.v:=by simp[dPg,D.fz,D.fzL,Pg.v]

def bv (bs:List Int):List (List V):=bs.map fun b=> [.int .u8 b]
def cur (bs:List Int) (i h:Int):Blk:=⟨3,[[.sl (bv bs),.int .i64 i,.int .i64 h]]⟩
def lo8 (a:Int):Int:=IntKind.i64.wrap ((BitVec.ofInt 64 a &&& BitVec.ofInt 64 255).toNat)
@[simp high] theorem aLT (P : Program) (t : TypeId) (a : Int) : binV P .and t (.int .i64 a) (.int .i64 255) = some (.int .i64 (lo8 a)) := rfl
def aM7 (a:Int) (n:Nat):Int:=a.fdiv (2^n)
def aU0 (a b:Int):Int:=IntKind.i64.wrap ((BitVec.ofInt 64 a^^^BitVec.ofInt 64 b).toNat)
@[simp high] theorem aQ8 (P : Program) (t : TypeId) (a : Int) : binV P .shr t (.int .i64 a) (.int .u64 33) = some (.int .i64 (aM7 a 33)) := rfl
@[simp high] theorem aPQ (P : Program) (t : TypeId) (a : Int) : binV P .shr t (.int .i64 a) (.int .u64 45) = some (.int .i64 (aM7 a 45)) := rfl
@[simp high] theorem aGY (P : Program) (t : TypeId) (a b : Int) : binV P .xor t (.int .i64 a) (.int .i64 b) = some (.int .i64 (aU0 a b)) := rfl
structure aHI (bs : List Int) (i : Int) : Prop where
 n:bs.length≤1048576
 b: ∀x,x∈bs→0≤x∧x<256
 i0:0≤i
 i1:i≤bs.length

def msk (a b:Int):Int:=IntKind.i64.wrap ((BitVec.ofInt 64 a &&& BitVec.ofInt 64 b).toNat)

structure LD where
 k:Nat
 ns:List Int
 i:Int
 h:Int

def aWE (bl:Int→Option Blk) (K:V→(Int→Option Blk)→Prop) (bs:List Int) (g:Int):Prop:=
 ∀(s:Str) (i' h':Int) bl',sOk s=true→3≤s.js.length→aHI bs i'→bl' g=some (cur bs i' h')→(∀x y,x≠g→bl x=some y→bl' x=some y)→K (.agg s.c) bl'
def nmA :ByteArray:= { data:= #[97] }
def nmB :ByteArray:= { data:= #[98] }
def nmC :ByteArray:= { data:= #[99] }
def nmD :ByteArray:= { data:= #[100] }
def js3 (x1 x2 x3 x4 x5 x6:Int):List J:= [⟨nmA, -1 - x1,x2,true⟩,⟨nmB,3+x3,x4,true⟩,⟨nmC,x5 - 1, -1 - x6,false⟩]
def ms2 (x7:Int):List Mb:= [⟨0,2,1⟩,⟨1,2,x7⟩]
def js4 (x1 x2 x3 x4 x5 x6 x8:Int):List J:=js3 x1 x2 x3 x4 x5 x6++ [⟨nmD,x8 - 1, -7,true⟩]
def ms3 (x7 x9:Int):List Mb:=ms2 x7++ [⟨3,2,x9⟩]

theorem aFB {P:Program} {ops:Array Oper} {blK:Int→Option Blk} {tl:Nat→Bool} {K:St→Prop} {l:Array Bool} {σ:St} (is:List Nat) (fuel:Nat) (hs:Sub blK σ.bl) (hn:(is.all (fun i=>decide (i<ops.size))&& hoistB ops is l && K5 ops tl is)=true)
  (h:HoistF P (ops.toList.map (·.dst)) blK (is.filterMap fun i=>ops[i]?) (jW P ops blK tl K fuel (iJ is l)) σ):jW P ops blK tl K (fuel+is.length) l σ:=by
 simp only[Bool.and_eq_true] at hn
 exact oN fuel is l σ (lW hn.2) hn.1.2 hs (gH _ is σ (filter_some is hn.1.1) h)
def tj (x1 x2 x3 x4 x5 x6:Int):List J:= [⟨nmA, -2,x1,true⟩,⟨nmB,6,x2,true⟩,⟨nmC,x3, -1 - x4,false⟩,⟨nmD,3+x5, -1 - x6,false⟩]
structure TD where
 n:Nat
 ms:List Mb
 g:Int
 i:Int
 h:Int
def aVC (m:Mb):Prop:=(m.a=0∨m.a=1∨m.a=2∨m.a=3)∧(m.b=1∨m.b=2∨m.b=3)∧(1≤m.kind∧m.kind≤3)∧((m.a≤1∧2≤m.b)∨(m.a=2∧m.b=3)∨(m.a=3∧m.b=1))

end Go.Proofs.YticmgmemnpcbbaaGreat.Vm

namespace Go.Proofs.YticmgmemnpcbbaaGreat.Vm
open Go Go.Proofs
set_option linter.unusedSimpArgs false
set_option linter.unusedVariables false
structure MD where
 us:List Int
 g:Int
 i:Int
 h:Int
 b:Int→Option Blk
def rq6 (us:List Int):List RT:=us.map fun u=>ro (q6 u)

def MX.fit (m:MX):Prop:=Cv m.cells 1048576∧uY m.cells≤100000000
def aWC (k:Nat) (m:MX):MX:=⟨m.r,m.c,mkQs k m.cells⟩

def aW0 (cells:List (List (Option Rat))) (v:List (Option Rat)):List (Option Rat):=cells.map fun row=>aMS row v row.length

def aIA (s:Str) (l:List Int) (j x y:Int):Bool:=lOk s l && (decide (0≤j)&& decide (j<s.js.length))&& (decide (-200≤x)&& decide (x≤200))&& (decide (-200≤y)&& decide (y≤200))&&
 fF (lat l (2*j.toNat)+x)&& fF (lat l (2*j.toNat+1)+y)
def aU2 (l:List Int) (j x:Int):List Int:=l.set (2*j.toNat) (lat l (2*j.toNat)+x)
def aU7 (l:List Int) (j x y:Int):List Int:=(aU2 l j x).set (2*j.toNat+1) (lat l (2*j.toNat+1)+y)
def aWU (s:Str) (l:List Int) (j x y:Int):List Int:=if aIA s l j x y=true then aU7 l j x y else []
def aXT (ns:List Int) (b:Bool):D:= .t [fl 1 (iv ns),.c (.bool b)]

end Go.Proofs.YticmgmemnpcbbaaGreat.Vm

namespace Go.Proofs.YticmgmemnpcbbaaGreat.Vm
open Go Go.Proofs
set_option linter.unusedSimpArgs false
set_option linter.unusedVariables false

def szW :List (List Int)→Int→Int
 | [], left => left
 | w :: ws, left => if less left w.length < 0 then -1 else szW ws (less left w.length)
def aW4 (ws:List (List Int)) (left:Int):Int:=if less left ws.length<0 then -1 else szW ws (less left ws.length)
def aVQ (ws:List (List Int)) (i:Nat):Nat:=(ws.take i).flatten.length
def aVD (bl:Int→Option Blk) (n:Nat) (v:V) (gs:List Int):Prop:= ∃rows els,rows.length=n∧((rows= []∧v= .nils∧gs= [])∨ ∃g gs',v= .lsl g 1 0 n∧gs=g::gs'∧g∉gs'∧bl g=some ⟨1,els⟩∧(g<0→els= [])∧OwnR bl 1 rows els gs')
structure St2 where
 i:Nat
 b:Int→Option Blk
structure aV2 (ws : List (List Int)) : Prop where
 n:ws.length≤140737488351232
 w: ∀w,w∈ws→w.length≤140737488351232

def mixC (ws:List (List Int)) (wt:List Int) (i:Nat):Nat→Int
 | 0 => 0
 | c + 1 => mixC ws wt i c + lat wt c * lat (ws.getD c []) i
def aOE (m:Nat) (ws:List (List Int)) (wt:List Int) (c:Nat):List Int:=(List.range m).map fun i=>mixC ws wt i c
def cOk (s:Str) (ws:List (List Int)) (wt:List Int) (c:Nat):Bool:=mM s.js (ws.getD c [])&& (decide (0≤lat wt c)&& decide (lat wt c≤100))
def aJV (s:Str) (ws:List (List Int)) (wt:List Int):Bool:=decide (ws.length=wt.length)&& decide (ws.length≤10)&& sOk s && decide (∀c,c<ws.length→cOk s ws wt c=true)&& mM s.js (aOE (2*s.js.length) ws wt ws.length)
def aWG (s:Str) (ws:List (List Int)) (wt:List Int):List Int:=if aJV s ws wt=true then aOE (2*s.js.length) ws wt ws.length else []

end Go.Proofs.YticmgmemnpcbbaaGreat.Vm

namespace Go.Proofs.YticmgmemnpcbbaaGreat.Vm
open Go Go.Proofs
set_option linter.unusedSimpArgs false
set_option linter.unusedVariables false

def aSP (P:Program) (ops:Array Oper) (blK:Int→Option Blk) (last:List Nat) (K:St→Prop):List (List Nat×Nat)→St→Prop
 | [] => HoistF P (ops.toList.map (·.dst)) blK (last.filterMap fun i => ops[i]?) K
 | (is, i) :: r => HoistF P (ops.toList.map (·.dst)) blK (is.filterMap fun i => ops[i]?) (HStep P ops blK i (aSP P ops blK last K r))
def hIdx (last:List Nat):List (List Nat×Nat)→List Nat
 | [] => last
 | (is, i) :: r => is ++ i :: hIdx last r

def aWO (s:Str) (us:List Int):List Int:=(gE s).map fun w=>dotTo w us s.ms.length

def dMf (m:MX):List D:= [.c (.int .i64 m.r),.c (.int .i64 m.c),fl 3 (rv m.cells)]

structure MOk (m : MX) (r c : Nat) : Prop where
 hr:m.r=r
 hc:m.c=c
 r24:r≤24
 c24:c≤24
 len:m.cells.length=r*c
 ok:lL m.cells=true
 fq:Cv m.cells 1048576
def trC (cells:List RT) (r c k:Nat) (i:Nat):List RT:=(List.range i).map fun i=>cells.getD (i*c+k) rz
def aU4 (cells:List RT) (r c k i:Nat):List RT:=((List.range k).flatMap fun k=>trC cells r c k r)++trC cells r c k i
def trM (m:MX) (r c:Nat):MX:=⟨c,r,aU4 m.cells r c c 0⟩

abbrev MF :=Nat→Nat→Option Rat
def aW2 (M:MF) (i j:Nat) (v:Option Rat):MF:=fun a b=>if a=i∧b=j then v else M a b
def aNC (r c:Nat) (M:MF):List RT:=(List.range (r*c)).map fun t=>ro (M (t / c) (t % c))
def Z2 (M:MF) (i n:Nat):MF:=fun a b=>if a=i then M n b else if a=n then M i b else M a b
def aU8 (M:MF) (n:Nat) (p:Option Rat):MF:=fun a b=>if a=n then op2 (· / ·) (M a b) p else M a b
def aMR (M:MF) (n k:Nat):MF:=fun a b=>if a=n∨nm (M a k)=0 then M a b else op2 (· - ·) (M a b) (op2 (· * ·) (M a k) (M n b))
def Xl (M:MF) (n k i:Nat):MF:=aMR (aU8 (Z2 M i n) n (Z2 M i n n k)) n k
def Hi (M:MF) (r k:Nat) (n:Nat):Nat:=if n<r then if nm (M n k)=0 then Hi M r k (n+1) else n else r
termination_by r - n
def okM (r c:Nat) (M:MF):Bool:=(List.range r).all fun i=>(List.range c).all fun j=>(M i j).isSome
structure RS where
 M:MF
 P:List Nat
def Wi (r c k:Nat) (s:RS):Option RS:=
 if s.P.length<r then
  if Hi s.M r k s.P.length=r then some s
  else if okM r c (Xl s.M s.P.length k (Hi s.M r k s.P.length))=true then some ⟨Xl s.M s.P.length k (Hi s.M r k s.P.length),s.P++ [k]⟩ else none
 else some s
def redTo (r c:Nat) (M:MF):Nat→Option RS
 | 0 => some ⟨M, []⟩
 | k + 1 => (redTo r c M k).bind (Wi r c k)
structure RI (r c k : Nat) (s : RS) : Prop where
 le:s.P.length≤r
 ok:okM r c s.M=true
 fit: ∀i j,okQ (s.M i j)
 zero: ∀i j,s.P.length≤i→i<r→j<k→j<c→s.M i j=some 0
 piv: ∀n (h:n<s.P.length),s.P[n]<k
 inc: ∀m n (hm:m<n) (hn:n<s.P.length),s.P[m]<s.P[n]
def Zs (r c n k:Nat) (M:MF):Prop:= ∀i j,n≤i→i<r→j<k→j<c→M i j=some 0
def aR5 (M:MF) (n k:Nat) (p:Option Rat):MF:=fun a b=>if a=n∧k≤b then op2 (· / ·) (M a b) p else M a b
def aBP (M:MF) (n k:Nat):MF:=fun a b=>if a=n∨nm (M a k)=0∨b<k∨nm (M n b)=0 then M a b else op2 (· - ·) (M a b) (op2 (· * ·) (M a k) (M n b))
def aVY (M:MF) (n k i:Nat):MF:=aBP (aR5 (Z2 M i n) n k (Z2 M i n n k)) n k

def aWY (M:MF) (n k i:Nat):MF:=fun a b=>if a<i then aBP M n k a b else M a b
def aXJ (M:MF) (n k i j:Nat):MF:=fun a b=>if a<i∨a=i∧b<j then aBP M n k a b else M a b

def pz (P:List Nat):List Int:=P.map fun(m:Nat)=>(m:Int)
def aXP (M:MF) (i n j:Nat):MF:=fun a b=>if b<j then Z2 M i n a b else M a b
def aXS (M:MF) (n k j:Nat) (p:Option Rat):MF:=fun a b=>if a=n∧k≤b∧b<j then op2 (· / ·) (M a b) p else M a b
inductive Ql (r c : Nat) (M : MF) : MF → List Nat → Prop
 | good (s : RS) (h : redTo r c M c = some s) (P : List Nat) (e : P = s.P) : Ql r c M s.M P
 | bad (X : MF) (P : List Nat) (h : redTo r c M c = none) (ho : okM r c X = false) : Ql r c M X P
structure LR where
 k:Nat
 s:RS
 gp:Int
 gf:Int
 fs:List RT

def aW9 (cells:List RT) (c:Nat):MF:=fun i j=>rd (cells.getD (i*c+j) rz)
def aV1 (r c:Nat) (M:MF):V:=match redTo r c M c with
 | some s => .tup [.agg [.int .i64 r, .int .i64 c, .sl (rv (aNC r c s.M))], .sl (iv (pz s.P)), .bool true]
 | none => .tup [.agg [.int .i64 0, .int .i64 0, .sl []], .sl [], .bool false]

def ix :List Nat→Nat→Option Nat
 | [], _ => none
 | p :: ps, j => if p = j then some 0 else (ix ps j).map (· + 1)
def aDM (M:MF) (P:List Nat) (k j:Nat):Option Rat:=match ix P j with
 | some i => (M i k).map (- ·)
 | none => if j = k then some 1 else some 0
def aKM (M:MF) (P:List Nat) (c k:Nat):List (Option Rat):=(List.range c).map (aDM M P k)
def aBR (P:List Nat) (n:Nat):List Nat:=(List.range n).filter fun k=>(ix P k).isNone
def Vc (M:MF) (P:List Nat) (c n:Nat):List (List (Option Rat)):=(aBR P n).map (aKM M P c)

def rvv (ls:List (List RT)):List (List V):=ls.map fun w=> [.sl (rv w)]
def aXD (r c:Nat) (M:MF):List (List RT)×Bool:=match redTo r c M c with
 | some s => ((Vc s.M s.P c c).map cL, true)
 | none => ([], false)
def aWI (x:List (List RT)×Bool):V:= .tup [.sl (rvv x.1),.bool x.2]
structure NG where
 k:Nat
 g:Int
end Go.Proofs.YticmgmemnpcbbaaGreat.Vm

namespace Go.Proofs.YticmgmemnpcbbaaGreat.Vm
open Go Go.RowKit Go.Proofs
set_option linter.unusedSimpArgs false
set_option linter.unusedVariables false
theorem mB {α:Type} {l:Array α} {i j:Nat} {x:α} (d:α) (h:i≠j):(l.setIfInBounds i x).getD j d=l.getD j d:=by simp[Array.getD_eq_getD_getElem?,Array.getElem?_setIfInBounds_ne h]
def pureOp :Op→Bool
 | .move _ | .nilCheck _ | .fieldAddr .. | .indexAddr .. => true
 | _ => false
theorem SV.pure {P:Program} {blK:Int→Option Blk} {o:Oper} {σ:St} {v:V} (hp:pureOp o.op=true) (h:SV P blK o σ v):SV P (fun _=>none) o σ v:=by
 rcases h with ⟨hq,hT⟩| ⟨c,f,p,n,ys,ho,hc,hp2,hro⟩
 ·refine .inl ⟨hq,?_⟩
  have fin: ∀ {v':V},(σ.iI blK).put o.dst v'=(σ.iI blK).put o.dst v→(σ.iI fun _=>none).put o.dst v'=(σ.iI fun _=>none).put o.dst v:=by
   intro v' h
   cases hd:o.dst with
   | none => rfl
   | some d =>
     rw[hd] at h
     have h2:upd σ.sl d v'=upd σ.sl d v:=congrArg St.sl h
     show({ n:=σ.n,sl:=upd σ.sl d v',bl:=fun _=>none } :St)= { n:=σ.n,sl:=upd σ.sl d v,bl:=fun _=>none }
     rw[h2]
  unfold Vm.T at hT ⊢
  cases ho:o.op<;>rw[ho] at hT hp<;>simp only[fZ] at hT ⊢ <;>try (simp[pureOp] at hp;done)
  case move x=>exact fin hT
  case nilCheck x=>obtain⟨u,h1,h2⟩:=hT;exact⟨u,h1,fin h2⟩
  case fieldAddr=>obtain⟨u,h1,h2⟩:=hT;exact⟨u,h1,fin h2⟩
  case indexAddr=>obtain⟨u,h1,h2⟩:=hT;exact⟨u,h1,fin h2⟩
 ·rw[ho] at hp;simp[pureOp] at hp
theorem DY.pure {P:Program} {ops:Array Oper} {blK:Int→Option Blk} {o:Oper} {σ:St} {v:V} (hp:pureOp o.op=true) (h:DY P ops blK o σ v):DY P ops (fun _=>none) o σ v:=by
 unfold DY at h ⊢
 split
 ·rename_i hg;simp only[hg] at h;exact h.pure hp
 ·rename_i j b hg
  simp only[hg] at h
  split
  ·rename_i d hd
   simp only[hd] at h
   rcases iS h with ⟨q,hq,h1,h2⟩| ⟨hq,h1⟩
   ·rw[hq];exact⟨fun hh=>(h1 hh).pure hp,h2⟩
   ·rw[hq];exact h1
  ·rename_i hd;simp only[hd] at h
section
variable {P : Program} {ops : Array Oper}
theorem Jd {blK:Int→Option Blk} {tl:Nat→Bool} {K:St→Prop} {i:Nat} {oi:Oper} {v:V} (hi:ops[i]? =some oi) (hti:tl i=false): ∀(fuel:Nat) (l:Array Bool) (σ:St),
  (∀j oj,ops[j]? =some oj→j≠i→l.getD j true=false→(∀e∈oj.after,Region.binds .any e=true→e.on≠i)→oi.apart ops oj=true)→(late tl l i=false→Sub blK σ.bl)→
  i∈Region.ready .any ops l→DY P ops (fun _=>none) oi σ v→DL P ops blK tl K fuel (l.setIfInBounds i true) (σ.put oi.dst v)→DL P ops blK tl K (fuel+1) l σ:=by
 have hbl: ∀(σ:St),(σ.put oi.dst v).bl=σ.bl:=fun σ=>by cases oi.dst<;>rfl
 have M7: ∀(σ:St),Sub (fun _=>none) σ.bl:=fun σ g b h=>by cases h
 intro fuel
 induction fuel with
 | zero =>
   intro l σ _ hS hr hy H
   refine⟨fun h=>(by rw[h] at hr;cases hr),fun j hj=> ?_⟩
   by_cases hji:j=i
   ·subst hji;exact hy.step hi (M7 σ) ⟨fun h=>by rw[hbl];exact hS h,H⟩
   ·have:=ready_mono hj hji
    rw[H.1] at this
    cases this
 | succ fuel ih =>
   intro l σ wU hS hr hy H
   refine⟨fun h=>(by rw[h] at hr;cases hr),fun j hj=> ?_⟩
   by_cases hji:j=i
   ·subst hji;exact hy.step hi (M7 σ) ⟨fun h=>by rw[hbl];exact hS h,H⟩
   ·have h1:=H.2 j (ready_mono hj hji)
    obtain⟨T2,oj,hoj,bH⟩:=mem_ready.1 hj
    have Dp: ∀e∈oj.after,Region.binds .any e=true→e.on≠i:=fun e he hb heq=>by
     have h1:=bH e he hb
     have h0:=(mem_ready.1 hr).1
     rw[heq] at h1
     rcases Nat.lt_or_ge i l.size with h' | h'
     ·simp[h'] at h0 h1;rw[h0] at h1;cases h1
     ·simp[Array.getElem?_eq_none h'] at h1
    have h2:=DY.put hoj (wU j oj hoj hji T2 Dp) hy h1
    have B8: ∀k ok,ops[k]? =some ok→k≠i→(l.setIfInBounds j true).getD k true=false→
      (∀e∈ok.after,Region.binds .any e=true→e.on≠i)→oi.apart ops ok=true:=fun k ok hk hki hun hno=>by
     refine wU k ok hk hki ?_ hno
     by_cases hjk:j=k
     ·subst hjk;exact T2
     ·rw[mB true hjk] at hun;exact hun
    refine S2 h2 fun σ' ⟨h3,h4,h5⟩=> ?_
    have Wv:(σ'.put oi.dst v).bl=σ'.bl:=hbl σ'
    have hS':late tl (l.setIfInBounds j true) i=false→Sub blK σ'.bl:=fun hl=>by
     rw[←Wv]
     refine h4 ?_
     unfold late at hl ⊢
     rw[Bool.or_eq_false_iff,List.any_eq_false] at hl ⊢
     have hjs:j<l.size:=by
      rcases Nat.lt_or_ge j l.size with h' | h'
      ·exact h'
      ·simp[Array.getD_eq_getD_getElem?,Array.getElem?_eq_none h'] at T2
     have htj:tl j=false:=by
      have:=hl.2 j (by simp[hjs])
      rw[Array.getD_eq_getD_getElem?,Array.getElem?_setIfInBounds_self_of_lt hjs] at this
      simpa using this
     refine⟨htj,fun k hk hh=> ?_⟩
     simp only[Bool.and_eq_true] at hh
     have hkj:k≠j:=fun e=>by rw[e,htj] at hh;cases hh.1
     have hki:k≠i:=fun e=>by rw[e,hti] at hh;cases hh.1
     refine hl.2 k (by simpa using hk) ?_
     rw[mB false (Ne.symm hki)] at hh
     rw[mB false (Ne.symm hkj),hh.1,hh.2];rfl
    refine⟨fun h=>hS' ?_,ih (l.setIfInBounds j true) σ' B8 hS' (ready_mono hr (Ne.symm hji)) h3 ?_⟩
    ·unfold late at h ⊢
     rw[Bool.or_eq_false_iff,List.any_eq_false] at h ⊢
     refine⟨hti,fun k hk hh=> ?_⟩
     simp only[Bool.and_eq_true] at hh
     by_cases hkj:k=j
     ·subst hkj;rw[h.1] at hh;cases hh.1
     ·rw[mB false (Ne.symm hkj)] at hh
      exact h.2 k (by simpa using hk) (by rw[hh.1,hh.2];rfl)
    ·rw[Array.setIfInBounds_comm _ _ hji]
     exact h5
theorem K9 {blK:Int→Option Blk} {tl:Nat→Bool} {K:St→Prop} (fuel:Nat): ∀(is:List Nat) (l:Array Bool) (σ:St),(∀i,i∈is→tl i=false)→(∀k,tl k=true→l.getD k false=false)→(∀i,i∈is→(∃o,ops[i]? =some o∧pureOp o.op=true)∨ ∀j oj,tl j=true→ops[j]? =some oj→ ∃e∈oj.after,Region.binds .any e=true∧e.on=i)→hoistB ops is l=true→Sub blK σ.bl→
  Hoist P ops blK is (DL P ops blK tl K fuel (iJ is l)) σ→DL P ops blK tl K (fuel+is.length) l σ
 | [], l, σ, _, _, _, _, _, h => h
 | i :: is, l, σ, hI, hN, hT, hB, hs, h => by
   simp only[hoistB,Bool.and_eq_true] at hB
   obtain⟨⟨hr,hf⟩,hB'⟩:=hB
   unfold Hoist at h
   split at h
   ·rename_i o ho
    obtain⟨v,hy,hK⟩:=h
    have:fuel+(i::is).length=(fuel+is.length)+1:=by simp;omega
    rw[this]
    have hN': ∀k,tl k=true→(l.setIfInBounds i true).getD k false=false:=fun k hk=>by
     by_cases hki:i=k
     ·subst hki;rw[hI i List.mem_cons_self] at hk;cases hk
     ·rw[mB false hki];exact hN k hk
    have next:=K9 fuel is (l.setIfInBounds i true) (σ.put o.dst v) (fun i hi=>hI i (List.mem_cons_of_mem _ hi)) hN' (fun i hi=>hT i (List.mem_cons_of_mem _ hi)) hB' (by cases o.dst<;>exact hs) hK
    rcases hT i List.mem_cons_self with ⟨o',ho',hp⟩| hT'
    ·rw[ho] at ho';cases ho'
     exact Jd ho (hI i List.mem_cons_self) _ _ _ (Region.free_spec ho hf) (fun _=>hs) (by simpa using hr) (hy.pure hp) next
    ·exact V9 ho (hI i List.mem_cons_self) hT' _ _ _ (Region.free_spec ho hf) hN (by simpa using hr) hs hy next
   ·exact h.elim
def tailP (ops:Array Oper) (tl:Nat→Bool) (is:List Nat):Bool:=is.all fun i=>(match ops[i]? with | some o=>pureOp o.op | none=>false)|| K5 ops tl [i]
theorem eR {id:Nat} {K:Ex→St→Prop} {σ:St} (hm:P.follows .mixedOrders=true) (blK:Int→Option Blk) (hs:Sub blK σ.bl) (is:List Nat) (fuel n:Nat) (hn:(ops.size==fuel+is.length && is.all (fun i=>decide (i<ops.size))&& hoistB ops is (Array.replicate ops.size false)&& tailP ops (fun j=>decide (n≤j)) is && is.all (fun i=>decide (i<n)))=true)
  (h:HoistF P (ops.toList.map (·.dst)) blK (is.filterMap fun i=>ops[i]?) (DL P ops blK (fun j=>decide (n≤j)) (K .normal) fuel (iJ is (Array.replicate ops.size false))) σ):AW P (.region id ops true) K σ:=by
 simp only[Bool.and_eq_true,beq_iff_eq] at hn
 refine Y5 hm blK (tl:=fun j=>decide (n≤j)) ?_
 have:=K9 (P:=P) (ops:=ops) (blK:=blK) (tl:=fun j=>decide (n≤j)) (K:=K .normal) fuel is (Array.replicate ops.size false) σ
  (fun i hi=>by have:=List.all_eq_true.1 hn.2 i hi;simp at this ⊢;exact this) (fun k _=>by
    rw[Array.getD_eq_getD_getElem?,Array.getElem?_replicate];split<;>rfl) (fun i hi=>by
    have h5:=List.all_eq_true.1 hn.1.2 i hi
    rw[Bool.or_eq_true] at h5
    rcases h5 with h5 | h5
    ·refine .inl ?_
     split at h5
     ·rename_i o ho;exact⟨o,ho,h5⟩
     ·cases h5
    ·exact .inr (lW h5 i (by simp))) hn.1.1.2 hs (gH _ is σ (filter_some is hn.1.1.1.2) h)
 rw[←hn.1.1.1.1] at this
 exact this
end
end Go.Proofs.YticmgmemnpcbbaaGreat.Vm

namespace Go.Proofs.YticmgmemnpcbbaaGreat.Vm
open Go Go.Proofs
set_option linter.unusedSimpArgs false
set_option linter.unusedVariables false
structure mV (b : Int → Option Blk) (g0 : Int) (ids : List Int) (r c : Nat) (M : MF) : Prop where
 len:ids.length=r
 top:b g0=some ⟨1,ids.map fun g=> [.lsl g 1 0 c]⟩
 row: ∀(i:Nat) (g:Int),ids[i]? =some g→b g=some ⟨1,fvs (rowOf c M i)⟩
 pos: ∀g,g∈ids→0≤g
 inj: ∀(i j:Nat) (g:Int),ids[i]? =some g→ids[j]? =some g→i=j
 no0:g0∉ids
theorem xD {c:Nat} {M M':MF} {i:Nat} (h: ∀j,j<c→M i j=M' i j):rowOf c M i=rowOf c M' i:=by
 unfold rowOf
 exact List.map_congr_left fun j hj=>h j (by simpa using hj)
theorem mV.congr {b:Int→Option Blk} {g0:Int} {ids:List Int} {r c:Nat} {M M':MF} (h:mV b g0 ids r c M) (hM: ∀i j,i<r→j<c→M i j=M' i j):mV b g0 ids r c M':=
 ⟨h.len,h.top,fun i g hi=>by
   rw[h.row i g hi,xD fun j hj=>hM i j (by rw[←h.len];exact(List.getElem?_eq_some_iff.1 hi).1) hj],h.pos,h.inj,h.no0⟩
theorem mV.put {b:Int→Option Blk} {g0 g:Int} {ids:List Int} {r c i:Nat} {M M':MF} (h:mV b g0 ids r c M) (hi:ids[i]? =some g) (hM: ∀a j,a≠i→j<c→M a j=M' a j):mV (upd b g (some ⟨1,fvs (rowOf c M' i)⟩)) g0 ids r c M':=by
 have hm:=List.mem_of_getElem? hi
 refine⟨h.len,?_,fun k g' hk=> ?_,h.pos,h.inj,h.no0⟩
 ·rw[aK _ _ _ _ (fun e=>h.no0 (by rw[e];exact hm))];exact h.top
 ·by_cases e:k=i
  ·subst e
   rw[hi] at hk;cases hk
   rw[bA]
  ·have hne:g'≠g:=fun e2=>e (h.inj k i g (by rw[hk,e2]) hi)
   rw[aK _ _ _ _ hne,h.row k g' hk,xD fun j hj=>hM k j e hj]
theorem mV.eG {b b':Int→Option Blk} {g0:Int} {ids:List Int} {r c:Nat} {M:MF} (h:mV b g0 ids r c M) (hk: ∀x y,x=g0∨x∈ids→b x=some y→b' x=some y):mV b' g0 ids r c M:=
 ⟨h.len,hk _ _ (.inl rfl) h.top,fun i g hi=>hk _ _ (.inr (List.mem_of_getElem? hi)) (h.row i g hi),h.pos,h.inj,h.no0⟩
def aVK (ids:List Int) (i n:Nat) (gi gn:Int):List Int:=(ids.set i gn).set n gi
structure aVR (b : Int → Option Blk) (gr g0 gp : Int) (ids : List Int) (r c : Nat) (s : RS) (d : Option Rat) : Prop where
 fE:mV b g0 ids r c s.M
 hd:b gr=some ⟨5,[[.int .i64 r,.int .i64 c,.lsl g0 1 0 r,.lsl gp 1 0 s.P.length,fv d]]⟩
 pv:b gp=some ⟨1,iv (pz s.P)⟩
 pn:gp<0→s.P= []
 dq:okQ d
 g00:0≤g0
 d1:gr≠g0
 d2:gr∉ids
 d3:gp≠gr
 d4:gp≠g0
 d5:gp∉ids
def Fr (bl b:Int→Option Blk) (gr g0:Int) (ids:List Int):Prop:= ∀x y,bl x=some y→x≠gr→x≠g0→x∉ids→b x=some y
def aXN (M:MF) (n k i j:Nat):MF:=fun a b=>if a<i∨a=i∧b<j then aMR M n k a b else M a b
end Go.Proofs.YticmgmemnpcbbaaGreat.Vm

namespace Go.Proofs.YticmgmemnpcbbaaGreat.Lp
set_option linter.unusedSimpArgs false
set_option linter.unusedVariables false
def S :Nat→(Nat→Rat)→Rat
 | 0, _ => 0
 | n + 1, f => S n f + f n
theorem bK {f g:Nat→Rat} : ∀ {n:Nat},(∀i,i<n→f i=g i)→S n f=S n g
 | 0, _ => rfl
 | n + 1, h => by rw [S, S, bK (n := n) fun i hi => h i (by omega), h n (by omega)]
theorem jQ {f:Nat→Rat} : ∀ {n:Nat},(∀i,i<n→f i=0)→S n f=0
 | 0, _ => rfl
 | n + 1, h => by rw [S, jQ (n := n) fun i hi => h i (by omega), h n (by omega)]; grind
theorem Aw (f g:Nat→Rat): ∀n,S n (fun i=>f i+g i)=S n f+S n g
 | 0 => by simp [S]; grind
 | n + 1 => by rw [S, S, S, Aw f g n]; grind
theorem K4 (f g:Nat→Rat): ∀n,S n (fun i=>f i - g i)=S n f - S n g
 | 0 => by simp [S]; grind
 | n + 1 => by rw [S, S, S, K4 f g n]; grind
theorem jM (a:Rat) (f:Nat→Rat): ∀n,S n (fun i=>a*f i)=a*S n f
 | 0 => by simp [S]
 | n + 1 => by rw [S, S, jM a f n]; grind
theorem nY (a:Rat) (f:Nat→Rat) (n:Nat):S n (fun i=>f i*a)=S n f*a:=by
 rw[show(fun i=>f i*a)=fun i=>a*f i from funext fun i=>Rat.mul_comm _ _,jM,Rat.mul_comm]
theorem tB (f:Nat→Nat→Rat) (m:Nat): ∀n,S n (fun i=>S m fun j=>f i j)=S m fun j=>S n fun i=>f i j
 | 0 => by
   rw[S];symm;exact jQ fun i _=>rfl
 | n + 1 => by
   rw[S,tB f m n,←Aw]
   rfl
theorem dI {f:Nat→Rat} {k:Nat} : ∀ {n:Nat},k<n→(∀i,i<n→i≠k→f i=0)→S n f=f k
 | n + 1, hk, h => by
   rw[S]
   by_cases e:k=n
   ·subst e
    rw[jQ fun i hi=>h i (by omega) (by omega)]
    grind
   ·rw[dI (n:=n) (by omega) fun i hi hik=>h i (by omega) hik,h n (by omega) (by omega)]
    grind
theorem jK {f:Nat→Rat} : ∀ {n:Nat},(∀i,i<n→0≤f i)→0≤S n f
 | 0, _ => Rat.le_refl
 | n + 1, h => by
   have h1:=jK (n:=n) fun i hi=>h i (by omega)
   have h2:=h n (by omega)
   rw[S];grind
theorem Pe {f:Nat→Rat} {k:Nat} : ∀ {n:Nat},(∀i,i<n→0≤f i)→k<n→0<f k→0<S n f
 | n + 1, h, hk, hp => by
   have h1:=jK (n:=n) fun i hi=>h i (by omega)
   have h2:=h n (by omega)
   rw[S]
   by_cases e:k=n
   ·subst e;grind
   ·have:=Pe (n:=n) (fun i hi=>h i (by omega)) (by omega) hp
    grind
def skip (v:Nat→Nat→Rat) (j:Nat):Nat→Nat→Rat:=fun c i=>v (if c<j then c else c+1) (i+1)
def sg (j:Nat):Rat:=if j % 2=0 then 1 else -1
theorem Wa (j:Nat):sg (j+1)= - sg j:=by
 unfold sg
 by_cases h:j % 2=0
 ·rw[if_pos h,if_neg (by omega)]
 ·rw[if_neg h,if_pos (by omega)];grind
def det :Nat→(Nat→Nat→Rat)→Rat
 | 0, _ => 1
 | m + 1, v => S (m + 1) fun j => sg j * v j 0 * det m (skip v j)
theorem qX : ∀ {m:Nat} {v w:Nat→Nat→Rat},(∀j i,j<m→i<m→v j i=w j i)→det m v=det m w
 | 0, _, _, _ => rfl
 | m + 1, v, w, h => by
   rw[det,det]
   refine bK fun j hj=> ?_
   rw[h j 0 hj (by omega),qX (m:=m) (v:=skip v j) (w:=skip w j) fun c i hc hi=> ?_]
   unfold skip
   split
   ·exact h c (i+1) (by omega) (by omega)
   ·exact h (c+1) (i+1) (by omega) (by omega)
def put (v:Nat→Nat→Rat) (p:Nat) (x:Nat→Rat):Nat→Nat→Rat:=fun j=>if j=p then x else v j
theorem Az (v:Nat→Nat→Rat) (p:Nat) (x:Nat→Rat):skip (put v p x) p=skip v p:=by
 funext c i
 unfold skip put
 split<;>(rw[if_neg (by omega)])
theorem pV (v:Nat→Nat→Rat) (p j:Nat) (x:Nat→Rat) (h:p≠j):skip (put v p x) j=put (skip v j) (if p<j then p else p - 1) fun i=>x (i+1):=by
 funext c i
 unfold skip put
 by_cases h1:c<j
 ·by_cases h2:p<j
  ·simp only[h1,h2,if_true]
   split<;>rfl
  ·simp only[h1,h2,if_true,if_false]
   rw[if_neg (by omega),if_neg (by omega)]
 ·by_cases h2:p<j
  ·simp only[h1,h2,if_true,if_false]
   rw[if_neg (by omega),if_neg (by omega)]
  ·simp only[h1,h2,if_false]
   by_cases h3:c+1=p
   ·rw[if_pos h3,if_pos (by omega)]
   ·rw[if_neg h3,if_neg (by omega)]
theorem qV (a b:Rat) (x y:Nat→Rat): ∀ {m:Nat} {p:Nat} (v:Nat→Nat→Rat),p<m→det m (put v p fun i=>a*x i+b*y i)=a*det m (put v p x)+b*det m (put v p y)
 | 0, p, v, hp => by omega
 | m + 1, p, v, hp => by
   rw[det,det,det,←jM,←jM,←Aw]
   refine bK fun j hj=> ?_
   by_cases h:p=j
   ·subst h
    simp only[Az]
    simp only[put,if_true]
    grind
   ·rw[pV _ _ _ _ h,pV _ _ _ _ h,pV _ _ _ _ h]
    have ih:=qV a b (fun i=>x (i+1)) (fun i=>y (i+1)) (m:=m) (p:=if p<j then p else p - 1) (skip v j) (by split<;>omega)
    rw[ih]
    have e: ∀z:Nat→Rat,put v p z j 0=v j 0:=fun z=>by simp[put,Ne.symm h]
    simp only[e]
    grind
theorem rG : ∀ {m:Nat} {p:Nat} (v:Nat→Nat→Rat),p+1<m→(∀i,i<m→v p i=v (p+1) i)→det m v=0
 | 0, p, v, hp, h => by omega
 | m + 1, p, v, hp, h => by
   rw[det]
   have hz: ∀j,j<m+1→j≠p→j≠p+1→sg j*v j 0*det m (skip v j)=0:=fun j hj h1 h2=>by
    have:det m (skip v j)=0:=by
     by_cases h3:j<p
     ·refine rG (p:=p - 1) _ (by omega) fun i hi=> ?_
      unfold skip
      rw[if_neg (by omega),if_neg (by omega),show p - 1+1=p by omega]
      exact h (i+1) (by omega)
     ·refine rG (p:=p) _ (by omega) fun i hi=> ?_
      unfold skip
      rw[if_pos (by omega),if_pos (by omega)]
      exact h (i+1) (by omega)
    rw[this];grind
   have he:det m (skip v p)=det m (skip v (p+1)):=qX fun c i hc hi=>by
    unfold skip
    by_cases h1:c<p
    ·rw[if_pos h1,if_pos (by omega)]
    ·by_cases h2:c=p
     ·subst h2
      rw[if_neg (by omega),if_pos (by omega)]
      exact(h (i+1) (by omega)).symm
     ·rw[if_neg (by omega),if_neg (by omega)]
   have h0:=h 0 (by omega)
   have key: ∀n,n≤m+1→S n (fun j=>sg j*v j 0*det m (skip v j))=if n=p+1 then sg p*v p 0*det m (skip v p) else 0:=by
    intro n
    induction n with
    | zero => intro _; rw [if_neg (by omega)]; rfl
    | succ n ih =>
      intro hn
      rw[S,ih (by omega)]
      by_cases e1:n=p
      ·subst e1
       rw[if_neg (by omega),if_pos rfl];grind
      ·by_cases e2:n=p+1
       ·subst e2
        rw[if_pos rfl,if_neg (by omega),Wa,he,h0];grind
       ·rw[if_neg (by omega),if_neg (by omega),hz n (by omega) e1 e2];grind
   rw[key (m+1) (Nat.le_refl _),if_neg (by omega)]
theorem A8 (v:Nat→Nat→Rat) (p:Nat):put v p (v p)=v:=by
 funext j;unfold put;split
 ·rename_i h;rw[h]
 ·rfl
theorem put_comm (v:Nat→Nat→Rat) {p q:Nat} (h:p≠q) (x y:Nat→Rat):put (put v p x) q y=put (put v q y) p x:=by
 funext j;unfold put
 by_cases h1:j=q
 ·rw[if_pos h1,if_neg (by omega),if_pos h1]
 ·rw[if_neg h1]
  by_cases h2:j=p
  ·rw[if_pos h2];rw[if_pos h2]
  ·rw[if_neg h2,if_neg h2];rw[if_neg h1]
theorem Sl {m p:Nat} (v:Nat→Nat→Rat) (hp:p+1<m) (x y:Nat→Rat):det m (put (put v p x) (p+1) y)= - det m (put (put v p y) (p+1) x):=by
 have hz:det m (put (put v p fun i=>1*x i+1*y i) (p+1) fun i=>1*x i+1*y i)=0:=rG (p:=p) _ hp fun i hi=>by
  simp[put]
 rw[qV 1 1 x y (p:=p+1) _ hp,put_comm v (show p≠p+1 by omega) _ x,put_comm v (show p≠p+1 by omega) _ y,qV 1 1 x y (p:=p) _ (by omega),qV 1 1 x y (p:=p) _ (by omega)] at hz
 have z1:det m (put (put v (p+1) x) p x)=0:=rG (p:=p) _ hp fun i hi=>by simp[put]
 have z2:det m (put (put v (p+1) y) p y)=0:=rG (p:=p) _ hp fun i hi=>by simp[put]
 rw[put_comm v (show p≠p+1 by omega) x y,put_comm v (show p≠p+1 by omega) y x]
 rw[z1,z2] at hz
 grind
theorem P1 {m:Nat} : ∀(d p:Nat) (v:Nat→Nat→Rat),p+1+d<m→(∀i,i<m→v p i=v (p+1+d) i)→det m v=0
 | 0, p, v, hp, h => rG v hp h
 | d + 1, p, v, hp, h => by
   have e:v=put (put v (p+1+d) (v (p+1+d))) (p+1+d+1) (v (p+1+d+1)):=by rw[A8,A8]
   rw[e,Sl v (by omega)]
   have:det m (put (put v (p+1+d) (v (p+1+d+1))) (p+1+d+1) (v (p+1+d)))=0:=by
    refine P1 d p _ (by omega) fun i hi=> ?_
    unfold put
    rw[if_neg (show ¬ p=p+1+d+1 by omega),if_neg (show ¬ p=p+1+d by omega),if_neg (show ¬ p+1+d=p+1+d+1 by omega),if_pos rfl]
    exact h i hi
   rw[this];grind
theorem Nq {m p q:Nat} (v:Nat→Nat→Rat) (hp:p<m) (hq:q<m) (hn:p≠q) (h: ∀i,i<m→v p i=v q i):det m v=0:=by
 rcases Nat.lt_or_gt_of_ne hn with h1 | h1
 ·exact P1 (q - p - 1) p v (by omega) (by rw[show p+1+(q - p - 1)=q by omega];exact h)
 ·exact P1 (p - q - 1) q v (by omega) (by rw[show q+1+(p - q - 1)=p by omega];exact fun i hi=>(h i hi).symm)
theorem Qc {m p:Nat} (v:Nat→Nat→Rat) (hp:p<m):det m (put v p fun _=>0)=0:=by
 have:=qV 0 0 (fun _=>0) (fun _=>0) v hp
 simp only[Rat.zero_mul,Rat.zero_add] at this
 exact this
theorem Gj {m p:Nat} (v:Nat→Nat→Rat) (hp:p<m) (x:Nat→Rat) (u:Nat→Nat→Rat): ∀n,det m (put v p fun i=>S n fun j=>x j*u j i)=S n fun j=>x j*det m (put v p (u j))
 | 0 => by simp only [S]; exact Qc v hp
 | n + 1 => by
   have:=qV 1 (x n) (fun i=>S n fun j=>x j*u j i) (u n) v hp
   simp only[S]
   rw[←Gj v hp x u n]
   simp only[Rat.one_mul] at this
   exact this
theorem aB4 {m p:Nat} (v:Nat→Nat→Rat) (hp:p<m) (x y:Nat→Rat) (h: ∀i,i<m→y i=S m fun j=>x j*v j i):det m (put v p y)=x p*det m v:=by
 have e:det m (put v p y)=det m (put v p fun i=>S m fun j=>x j*v j i):=qX fun j i hj hi=>by
  unfold put;split
  ·exact h i hi
  ·rfl
 rw[e,Gj v hp,dI hp,A8]
 intro j hj hjp
 rw[Nq (p:=p) (q:=j) _ hp hj (Ne.symm hjp) (fun i hi=>by simp[put,hjp])]
 grind
def isInt (q:Rat):Prop:= ∃z:Int,q=z
theorem M9 {a b:Rat} :isInt a→isInt b→isInt (a+b):=fun⟨x,hx⟩ ⟨y,hy⟩=>⟨x+y,by rw[hx,hy,Rat.intCast_add]⟩
theorem lG {a b:Rat} :isInt a→isInt b→isInt (a*b):=fun⟨x,hx⟩ ⟨y,hy⟩=>⟨x*y,by rw[hx,hy,Rat.intCast_mul]⟩
theorem yK {f:Nat→Rat} : ∀ {n:Nat},(∀i,i<n→isInt (f i))→isInt (S n f)
 | 0, _ => ⟨0, rfl⟩
 | n + 1, h => M9 (yK fun i hi => h i (by omega)) (h n (by omega))
theorem Nb (j:Nat):isInt (sg j):=by
 unfold sg;split
 ·exact⟨1,rfl⟩
 ·exact⟨-1,rfl⟩
theorem S5 : ∀ {m:Nat} {v:Nat→Nat→Rat},(∀j i,j<m→i<m→isInt (v j i))→isInt (det m v)
 | 0, _, _ => ⟨1, rfl⟩
 | m + 1, v, h => by
   rw[det]
   refine yK fun j hj=>lG (lG (Nb j) (h j 0 hj (by omega))) (S5 fun c i hc hi=> ?_)
   unfold skip
   split
   ·exact h c (i+1) (by omega) (by omega)
   ·exact h (c+1) (i+1) (by omega) (by omega)
def lid (K:Nat):Nat→Nat
 | 0 => 1
 | m + 1 => (m + 1) * (K * lid K m)
theorem Gf {f:Nat→Rat} {B:Rat} : ∀ {n:Nat},(∀i,i<n→ -B≤f i∧f i≤B)→ -((n:Rat)*B)≤S n f∧S n f≤(n:Rat)*B
 | 0, _ => by simp [S]
 | n + 1, h => by
   have h1:=Gf (n:=n) fun i hi=>h i (by omega)
   have h2:=h n (by omega)
   rw[S,show((n+1:Nat):Rat)=(n:Rat)+1 by simp[Rat.natCast_add]]
   grind
theorem uT {a b A B:Rat} (ha: -A≤a∧a≤A) (hb: -B≤b∧b≤B): -(A*B)≤a*b∧a*b≤A*B:=by
 have h1:0≤(A - a)*(B+b):=Rat.mul_nonneg (by grind) (by grind)
 have h2:0≤(A+a)*(B - b):=Rat.mul_nonneg (by grind) (by grind)
 have h3:0≤(A - a)*(B - b):=Rat.mul_nonneg (by grind) (by grind)
 have h4:0≤(A+a)*(B+b):=Rat.mul_nonneg (by grind) (by grind)
 constructor<;>grind
theorem Ck {K:Nat} : ∀ {m:Nat} {v:Nat→Nat→Rat},(∀j i,j<m→i<m→ -(K:Rat)≤v j i∧v j i≤K)→ -(lid K m:Rat)≤det m v∧det m v≤lid K m
 | 0, _, _ => by simp [det, lid]; decide
 | m + 1, v, h => by
   rw[det,lid,Rat.natCast_mul,Rat.natCast_mul]
   refine Gf fun j hj=> ?_
   have h1:=h j 0 hj (by omega)
   have h2: -(lid K m:Rat)≤det m (skip v j)∧det m (skip v j)≤lid K m:=Ck fun c i hc hi=>by
    unfold skip
    split
    ·exact h c (i+1) (by omega) (by omega)
    ·exact h (c+1) (i+1) (by omega) (by omega)
   refine uT ?_ h2
   unfold sg
   split<;>grind
theorem Cn : ∀(m:Nat) (v:Nat→Nat→Rat),(∀j i,j<m→i<m→v j i=if j=i then 1 else 0)→det m v=1
 | 0, _, _ => rfl
 | m + 1, v, h => by
   rw[det,dI (k:=0) (by omega)]
   ·rw[h 0 0 (by omega) (by omega),if_pos rfl,Cn m (skip v 0) fun c i hc hi=> ?_]
    ·simp[sg]
    ·unfold skip
     rw[if_neg (by omega),h (c+1) (i+1) (by omega) (by omega)]
     by_cases e:c=i
     ·rw[if_pos e,if_pos (by omega)]
     ·rw[if_neg e,if_neg (by omega)]
   ·intro j hj h0
    rw[h j 0 hj (by omega),if_neg h0]
    grind

structure Tab where
 X:Nat→Nat→Rat
 bs:Nat→Nat
def piv (t:Tab) (r k:Nat):Tab:=⟨fun i c=>if i=r then t.X r c / t.X r k else t.X i c - t.X i k*(t.X r c / t.X r k),fun i=>if i=r then k else t.bs i⟩
structure TI (m : Nat) (E : Nat → Nat → Rat) (t : Tab) : Prop where
 row: ∀i,i<m→ ∃U:Nat→Rat,∀c,t.X i c=S m fun l=>U l*E l c
 col: ∀l,l<m→ ∀c,E l c=S m fun i=>t.X i c*E l (t.bs i)
 unit: ∀i j,i<m→j<m→t.X i (t.bs j)=if i=j then 1 else 0
theorem rX (t:Tab) (r k c:Nat):(piv t r k).X r c=t.X r c / t.X r k:=by simp[piv]
theorem nD (t:Tab) {r i:Nat} (k c:Nat) (h:i≠r):(piv t r k).X i c=t.X i c - t.X i k*(t.X r c / t.X r k):=by simp[piv,h]
theorem dK (t:Tab) (r k:Nat):(piv t r k).bs r=k:=by simp[piv]
theorem cW (t:Tab) {r i:Nat} (k:Nat) (h:i≠r):(piv t r k).bs i=t.bs i:=by simp[piv,h]
theorem Ic {m:Nat} (t:Tab) {r k:Nat} (hr:r<m) (hp:t.X r k≠0) (g:Nat→Rat) (c:Nat):
  S m (fun i=>(piv t r k).X i c*g ((piv t r k).bs i))=S m (fun i=>t.X i c*g (t.bs i)) - (t.X r c / t.X r k)*(S m (fun i=>t.X i k*g (t.bs i)) - g k):=by
 have e:S m (fun i=>(piv t r k).X i c*g ((piv t r k).bs i))=S m (fun i=>(t.X i c*g (t.bs i) - (t.X r c / t.X r k)*(t.X i k*g (t.bs i)))+if i=r then(t.X r c / t.X r k)*g k else 0):=bK fun i hi=>by
  by_cases h:i=r
  ·subst h
   rw[rX,dK,if_pos rfl]
   grind
  ·rw[nD t k c h,cW t k h,if_neg h]
   grind
 rw[e,Aw,K4,jM,dI (f:=fun i=>if i=r then(t.X r c / t.X r k)*g k else 0) hr (fun i _ h=>if_neg h),if_pos rfl]
 grind
theorem TI.piv {m:Nat} {E:Nat→Nat→Rat} {t:Tab} (h:TI m E t) {r k:Nat} (hr:r<m) (hp:t.X r k≠0):TI m E (piv t r k):=by
 refine⟨fun i hi=> ?_,fun l hl c=> ?_,fun i j hi hj=> ?_⟩
 ·obtain⟨V,hV⟩:=h.row r hr
  by_cases e:i=r
  ·subst e
   refine⟨fun l=>V l / t.X i k,fun c=> ?_⟩
   rw[rX,hV c]
   rw[show(fun l=>V l / t.X i k*E l c)=fun l=>(t.X i k)⁻¹*(V l*E l c) from funext fun l=>by grind,jM]
   grind
  ·obtain⟨U,hU⟩:=h.row i hi
   refine⟨fun l=>U l - t.X i k / t.X r k*V l,fun c=> ?_⟩
   rw[nD t k c e,hU c,hV c]
   rw[show(fun l=>(U l - t.X i k / t.X r k*V l)*E l c)=fun l=>U l*E l c - (t.X i k / t.X r k)*(V l*E l c) from funext fun l=>by grind,K4,jM]
   grind
 ·rw[Ic t hr hp (fun x=>E l x) c,←h.col l hl c,←h.col l hl k]
  grind
 ·by_cases ej:j=r
  ·subst ej
   rw[dK]
   by_cases ei:i=j
   ·subst ei;rw[rX,if_pos rfl];grind
   ·rw[nD t k k ei,if_neg ei];grind
  ·rw[cW t k ej]
   have hrj:=h.unit r j hr hj
   rw[if_neg (Ne.symm ej)] at hrj
   by_cases ei:i=r
   ·subst ei;rw[rX,if_neg (Ne.symm ej),hrj];grind
   ·rw[nD t k _ ei,h.unit i j hi hj,hrj];grind
theorem TI.Xb {m:Nat} {E:Nat→Nat→Rat} {t t':Tab} (h:TI m E t) (h':TI m E t') {i:Nat} (hi:i<m) (c:Nat):t'.X i c=S m fun j=>t.X j c*t'.X i (t.bs j):=by
 obtain⟨U,hU⟩:=h'.row i hi
 rw[hU c]
 have e1:S m (fun l=>U l*E l c)=S m fun l=>S m fun j=>t.X j c*(U l*E l (t.bs j)):=bK fun l hl=>by
  rw[h.col l hl c,←jM]
  exact bK fun j _=>by grind
 rw[e1,tB]
 refine bK fun j hj=> ?_
 rw[jM,hU (t.bs j)]
theorem TI.uniq {m:Nat} {E:Nat→Nat→Rat} {t t':Tab} (h:TI m E t) (h':TI m E t') (hb: ∀i,i<m→t.bs i=t'.bs i) {i:Nat} (hi:i<m) (c:Nat):t'.X i c=t.X i c:=by
 rw[h.Xb h' hi c,dI hi]
 ·rw[hb i hi,h'.unit i i hi hi,if_pos rfl];grind
 ·intro j hj hne
  rw[hb j hj,h'.unit i j hi hj,if_neg (Ne.symm hne)];grind
theorem TI.inj {m:Nat} {E:Nat→Nat→Rat} {t:Tab} (h:TI m E t) {i j:Nat} (hi:i<m) (hj:j<m) (e:t.bs i=t.bs j):i=j:=by
 have h1:=h.unit i i hi hi
 have h2:=h.unit i j hi hj
 rw[←e,h1] at h2
 by_cases hij:i=j
 ·exact hij
 ·rw[if_pos rfl,if_neg hij] at h2;exact absurd h2 (by decide)
def rc (m:Nat) (w:Nat→Rat) (t:Tab) (c:Nat):Rat:=w c - S m fun i=>t.X i c*w (t.bs i)
theorem lT {m:Nat} {E:Nat→Nat→Rat} {t:Tab} (h:TI m E t) (w:Nat→Rat) {j:Nat} (hj:j<m):rc m w t (t.bs j)=0:=by
 unfold rc
 rw[dI hj,h.unit j j hj hj,if_pos rfl]
 ·grind
 ·intro i hi hne
  rw[h.unit i j hi hj,if_neg hne];grind
theorem Rr {m:Nat} (w:Nat→Rat) (t:Tab) {r k:Nat} (hr:r<m) (hp:t.X r k≠0) (c:Nat):rc m w (piv t r k) c=rc m w t c - rc m w t k*(t.X r c / t.X r k):=by
 unfold rc
 rw[Ic t hr hp w c]
 grind
theorem Ok {m:Nat} {E:Nat→Nat→Rat} {t t':Tab} (h:TI m E t) (h':TI m E t') (w:Nat→Rat) (c:Nat):rc m w t' c=rc m w t c+S m fun i=>t.X i c*rc m w t' (t.bs i):=by
 unfold rc
 have e1:S m (fun i=>t.X i c*(w (t.bs i) - S m fun j=>t'.X j (t.bs i)*w (t'.bs j)))=S m (fun i=>t.X i c*w (t.bs i)) - S m fun j=>t'.X j c*w (t'.bs j):=by
  rw[show(fun i=>t.X i c*(w (t.bs i) - S m fun j=>t'.X j (t.bs i)*w (t'.bs j)))=fun i=>t.X i c*w (t.bs i) - S m fun j=>t.X i c*t'.X j (t.bs i)*w (t'.bs j) from funext fun i=>by
   rw[←show t.X i c*(S m fun j=>t'.X j (t.bs i)*w (t'.bs j))=S m fun j=>t.X i c*t'.X j (t.bs i)*w (t'.bs j) from by
    rw[←jM];exact bK fun j _=>by grind]
   grind,K4,tB]
  congr 1
  refine bK fun j hj=> ?_
  rw[h.Xb h' hj c,←nY]
 rw[e1]
 grind
def Sol (m N:Nat) (X:Nat→Nat→Rat) (b:Nat) (x:Nat→Rat):Prop:= ∀i,i<m→S N (fun c=>X i c*x c)=X i b
theorem oG {m:Nat} {E:Nat→Nat→Rat} {t:Tab} (h:TI m E t) (N b:Nat) (x:Nat→Rat):Sol m N E b x ↔ Sol m N t.X b x:=by
 constructor
 ·intro hE i hi
  obtain⟨U,hU⟩:=h.row i hi
  have e:S N (fun c=>t.X i c*x c)=S m fun l=>U l*S N fun c=>E l c*x c:=by
   rw[show(fun c=>t.X i c*x c)=fun c=>S m fun l=>U l*E l c*x c from funext fun c=>by rw[hU c,←nY],tB]
   refine bK fun l _=> ?_
   rw[←jM]
   exact bK fun c _=>by grind
  rw[e,hU b]
  exact bK fun l hl=>by rw[hE l hl]
 ·intro hX l hl
  have e:S N (fun c=>E l c*x c)=S m fun i=>(S N fun c=>t.X i c*x c)*E l (t.bs i):=by
   rw[show(fun c=>E l c*x c)=fun c=>S m fun i=>t.X i c*E l (t.bs i)*x c from funext fun c=>by rw[h.col l hl c,←nY],tB]
   refine bK fun i _=> ?_
   rw[←nY]
   exact bK fun c _=>by grind
  rw[e,h.col l hl b]
  exact bK fun i hi=>by rw[hX i hi]
def iK (Q:Nat) (v:Nat→Rat):Prop:= ∃q,q<Q∧0<v q∧ ∀j,j<q→v j=0
def zQ (Q:Nat) (v:Nat→Rat):Prop:= ∀q,q<Q→v q=0
theorem To : ∀(Q:Nat) (v:Nat→Rat),iK Q v∨zQ Q v∨iK Q fun q=> - v q
 | 0, v => .inr (.inl fun q hq => by omega)
 | Q + 1, v => by
   rcases To Q v with ⟨q,h1,h2,h3⟩| h | ⟨q,h1,h2,h3⟩
   ·exact .inl ⟨q,by omega,h2,h3⟩
   ·by_cases h0:0<v Q
    ·exact .inl ⟨Q,by omega,h0,fun j hj=>h j hj⟩
    ·by_cases h1:v Q=0
     ·refine .inr (.inl fun q hq=> ?_)
      by_cases e:q=Q
      ·rw[e];exact h1
      ·exact h q (by omega)
     ·exact .inr (.inr ⟨Q,by omega,by grind,fun j hj=>by have:=h j hj;grind⟩)
   ·exact .inr (.inr ⟨q,by omega,h2,h3⟩)
theorem iM {Q:Nat} {v:Nat→Rat} (h:iK Q v) (h0:zQ Q v):False:=by
 obtain⟨q,h1,h2,_⟩:=h
 rw[h0 q h1] at h2
 exact absurd h2 (by decide)
theorem R9 {Q:Nat} {v:Nat→Rat} (h:iK Q v) (h':iK Q fun q=> - v q):False:=by
 obtain⟨q,h1,h2,h3⟩:=h
 obtain⟨q',h1',h2',h3'⟩:=h'
 rcases Nat.lt_trichotomy q q' with h | h | h
 ·have:=h3' q h;grind
 ·subst h;grind
 ·have:=h3 q' h;grind
theorem Z1 {Q:Nat} {u v:Nat→Rat} (h:iK Q u) (h':iK Q v):iK Q fun q=>u q+v q:=by
 obtain⟨q,h1,h2,h3⟩:=h
 obtain⟨q',h1',h2',h3'⟩:=h'
 rcases Nat.lt_trichotomy q q' with h | h | h
 ·exact⟨q,h1,by have:=h3' q h;grind,fun j hj=>by have:=h3 j hj;have:=h3' j (by omega);grind⟩
 ·subst h;exact⟨q,h1,by grind,fun j hj=>by have:=h3 j hj;have:=h3' j hj;grind⟩
 ·exact⟨q',h1',by have:=h3 q' h;grind,fun j hj=>by have:=h3 j (by omega);have:=h3' j hj;grind⟩
theorem J5 {Q:Nat} {u v:Nat→Rat} (h:iK Q u) (h':zQ Q v):iK Q fun q=>u q+v q:=by
 obtain⟨q,h1,h2,h3⟩:=h
 exact⟨q,h1,by have:=h' q h1;grind,fun j hj=>by have:=h3 j hj;have:=h' j (by omega);grind⟩
theorem uS {Q:Nat} {v:Nat→Rat} {a:Rat} (ha:0<a) (h:iK Q v):iK Q fun q=>a*v q:=by
 obtain⟨q,h1,h2,h3⟩:=h
 exact⟨q,h1,Rat.mul_pos ha h2,fun j hj=>by have:=h3 j hj;grind⟩
theorem dW {Q:Nat} {u v:Nat→Rat} (h:iK Q u) (e: ∀q,q<Q→u q=v q):iK Q v:=by
 obtain⟨q,h1,h2,h3⟩:=h
 exact⟨q,h1,by rw[←e q h1];exact h2,fun j hj=>by rw[←e j (by omega)];exact h3 j hj⟩
theorem D7 {Q:Nat} {f:Nat→Nat→Rat} : ∀ {n:Nat} {u:Nat→Rat},iK Q u→(∀i,i<n→iK Q (f i)∨zQ Q (f i))→iK Q fun q=>u q+S n fun i=>f i q
 | 0, u, h, _ => dW h fun q _ => by rw [S]; grind
 | n + 1, u, h, hf => by
   have ih:=D7 (n:=n) h fun i hi=>hf i (by omega)
   rcases hf n (by omega) with h1 | h1
   ·exact dW (Z1 ih h1) fun q _=>by rw[S];grind
   ·exact dW (J5 ih h1) fun q _=>by rw[S];grind

structure Step (m b Q : Nat) (w : Nat → Nat → Rat) (F : Nat → Prop) (t : Tab) (r k : Nat) : Prop where
 hF:F k
 pos:iK Q fun q=>rc m (w q) t k
 first: ∀j,F j→j<k→ ¬ iK Q fun q=>rc m (w q) t j
 hr:r<m
 prk:0<t.X r k
 min: ∀i,i<m→0<t.X i k→t.X r b*t.X i k≤t.X i b*t.X r k
 tie: ∀i,i<m→0<t.X i k→t.X i b*t.X r k=t.X r b*t.X i k→t.bs r≤t.bs i
theorem gD (a b:Rat):a≤b∨b<a:=by grind
theorem aAP {a b:Rat} (ha:0≤a) (hb:0<b):0≤a / b:=by
 rcases gD 0 (a / b) with h | h
 ·exact h
 ·have h1:0<(- (a / b))*b:=Rat.mul_pos (by grind) hb
  have h2:a / b*b=a:=by grind
  grind
theorem Xo {a b:Rat} (ha:0<a) (hb:0<b):0<a / b:=by
 rcases gD (a / b) 0 with h | h
 ·have h1:0≤(- (a / b))*b:=Rat.mul_nonneg (by grind) (by grind)
  have h2:a / b*b=a:=by grind
  grind
 ·exact h
theorem Step.rhs {m b Q:Nat} {w:Nat→Nat→Rat} {F:Nat→Prop} {t:Tab} {r k:Nat} (h:Step m b Q w F t r k) (hb: ∀i,i<m→0≤t.X i b): ∀i,i<m→0≤(piv t r k).X i b:=by
 intro i hi
 have hr:=hb r h.hr
 have hth:=aAP hr h.prk
 by_cases e:i=r
 ·subst e;rw[rX];exact hth
 ·rw[nD t k b e]
  have hpk:=h.prk
  have h2:t.X r b / t.X r k*t.X r k=t.X r b:=by grind
  generalize t.X r b / t.X r k=θ at *
  by_cases hp:0<t.X i k
  ·have h1:=h.min i hi hp
   rw[←h2] at h1
   rcases gD 0 (t.X i b - t.X i k*θ) with h4 | h4
   ·exact h4
   ·have:=Rat.mul_pos (show 0< -(t.X i b - t.X i k*θ) by grind) hpk
    grind
  ·have h1:=hb i hi
   have h2:0≤(- t.X i k)*θ:=Rat.mul_nonneg (by grind) hth
   grind
theorem max_lt (f:Nat→Nat): ∀n,0<n→ ∃i,i<n∧ ∀j,j<n→f j≤f i
 | 1, _ => ⟨0, by omega, fun j hj => by rw [show j = 0 by omega]; exact Nat.le_refl _⟩
 | n + 2, _ => by
   obtain⟨i,h1,h2⟩:=max_lt f (n+1) (by omega)
   rcases Nat.lt_or_ge (f i) (f (n+1)) with h | h
   ·exact⟨n+1,by omega,fun j hj=>by
     by_cases e:j=n+1
     ·rw[e];exact Nat.le_refl _
     ·have:=h2 j (by omega);omega⟩
   ·exact⟨i,by omega,fun j hj=>by
     by_cases e:j=n+1
     ·rw[e];exact h
     ·exact h2 j (by omega)⟩
theorem aBX {P:Nat→Prop} {a c:Nat} (hac:a≤c) (ha:P a) (hc: ¬ P c): ∃n,a≤n∧n<c∧P n∧ ¬ P (n+1):=by
 induction c with
 | zero => exact absurd (by rw [show (0 : Nat) = a by omega]; exact ha) hc
 | succ c ih =>
   by_cases h:P c
   ·exact⟨c,by
     by_cases e:a=c+1
     ·exact absurd (e▸ha) hc
     ·omega,by omega,h,hc⟩
   ·have aU1:a≤c:=by
     by_cases e:a=c+1
     ·exact absurd (e▸ha) hc
     ·omega
    obtain⟨n,h1,h2,h3,h4⟩:=ih aU1 h
    exact⟨n,h1,by omega,h3,h4⟩
section
variable {m b Q L : Nat} {E : Nat → Nat → Rat} {w : Nat → Nat → Rat} {F : Nat → Prop} {t : Nat → Tab} {r k : Nat → Nat}
theorem aNK (hT: ∀n,n≤L→TI m E (t n)) (hb: ∀n,n≤L→ ∀i,i<m→0≤(t n).X i b) (hs: ∀n,n<L→Step m b Q w F (t n) (r n) (k n)) (hn: ∀n,n<L→t (n+1)=piv (t n) (r n) (k n))
  (hL:0<L) (he: ∀i,i<m→(t 0).bs i=(t L).bs i):False:=by
 have hne: ∀n,n<L→(t n).X (r n) (k n)≠0:=fun n h=>by have:=(hs n h).prk;grind
 have huq: ∀i,i<m→ ∀c,(t L).X i c=(t 0).X i c:=fun i hi c=>(hT 0 (by omega)).uniq (hT L (Nat.le_refl _)) he hi c
 have hzL: ∀q,rc m (w q) (t L) b=rc m (w q) (t 0) b:=fun q=>by
  unfold rc
  congr 1
  exact bK fun i hi=>by rw[huq i hi,he i hi]
 have aSV: ∀n,n≤L→(iK Q (fun q=>rc m (w q) (t 0) b - rc m (w q) (t n) b)∨(zQ Q fun q=>rc m (w q) (t 0) b - rc m (w q) (t n) b)∧ ∀n',n'<n→(t n').X (r n') b=0):=by
  intro n
  induction n with
  | zero => exact fun _ => .inr ⟨fun q _ => by grind, fun n' h => by omega⟩
  | succ n ih =>
    intro hnl
    have hst:=hs n (by omega)
    have hr0:=hb n (by omega) (r n) hst.hr
    have Ps: ∀q,rc m (w q) (t (n+1)) b=rc m (w q) (t n) b - rc m (w q) (t n) (k n)*((t n).X (r n) b / (t n).X (r n) (k n)):=fun q=>by
     rw[hn n (by omega),Rr _ _ hst.hr (hne n (by omega))]
    by_cases hz:(t n).X (r n) b=0
    ·have e: ∀q,rc m (w q) (t (n+1)) b=rc m (w q) (t n) b:=fun q=>by rw[Ps q,hz];grind
     rcases ih (by omega) with h | ⟨h1,h2⟩
     ·exact .inl (dW h fun q _=>by rw[e q])
     ·exact .inr ⟨fun q hq=>by have:=h1 q hq;simp only at this ⊢;rw[e q];exact this,fun n' h=>by
       by_cases en:n'=n
       ·rw[en];exact hz
       ·exact h2 n' (by omega)⟩
    ·have hth:=Xo (show 0<(t n).X (r n) b by grind) hst.prk
     have hp:=uS hth hst.pos
     refine .inl ?_
     rcases ih (by omega) with h | ⟨h1,h2⟩
     ·exact dW (Z1 h hp) fun q _=>by rw[Ps q];grind
     ·exact dW (J5 hp h1) fun q _=>by rw[Ps q];grind
 have hz: ∀n,n<L→(t n).X (r n) b=0:=by
  rcases aSV L (Nat.le_refl _) with h | ⟨_,h⟩
  ·exact absurd (fun q _=>by have:=hzL q;grind) fun h0=>iM h h0
  ·exact h
 have hconst: ∀n,n<L→ ∀i,i<m→(t (n+1)).X i b=(t n).X i b:=fun n h i hi=>by
  rw[hn n h]
  by_cases e:i=r n
  ·subst e;rw[rX,hz n h];grind
  ·rw[nD _ _ _ e,hz n h];grind
 have Qz: ∀n,n≤L→ ∀c,(∃i,i<m∧(t n).bs i=c)→ ¬ iK Q fun q=>rc m (w q) (t n) c:=fun n h c ⟨i,hi,hc⟩ hp=>
  iM hp fun q _=>by rw[←hc];exact lT (hT n h) _ hi
 have Rl: ∀n,n<L→ ∀c,(∃i,i<m∧(t n).bs i=c)→ ¬ (∃i,i<m∧(t (n+1)).bs i=c)→(t n).bs (r n)=c:=fun n h c ⟨i,hi,hc⟩ hno=>by
  by_cases e:i=r n
  ·rw[←e];exact hc
  ·exact absurd ⟨i,hi,by rw[hn n h,cW _ _ e];exact hc⟩ hno
 have aCO: ∀n,n<L→ ∀c, ¬ (∃i,i<m∧(t n).bs i=c)→(∃i,i<m∧(t (n+1)).bs i=c)→k n=c:=fun n h c hno ⟨i,hi,hc⟩=>by
  rw[hn n h] at hc
  by_cases e:i=r n
  ·rw[e,dK] at hc;exact hc
  ·rw[cW _ _ e] at hc;exact absurd ⟨i,hi,hc⟩ hno
 have aHU: ∀c,(∃i,i<m∧(t 0).bs i=c) ↔ (∃i,i<m∧(t L).bs i=c):=fun c=>by
  constructor
  ·rintro⟨i,hi,h⟩;exact⟨i,hi,by rw[←he i hi];exact h⟩
  ·rintro⟨i,hi,h⟩;exact⟨i,hi,by rw[he i hi];exact h⟩
 obtain⟨n1,hn1,aIJ⟩:=max_lt k L hL
 have aTD: ¬ (∃i,i<m∧(t n1).bs i=k n1):=fun h=>Qz n1 (by omega) _ h (hs n1 hn1).pos
 have aTN: ∃i,i<m∧(t (n1+1)).bs i=k n1:=⟨r n1,(hs n1 hn1).hr,by rw[hn n1 hn1,dK]⟩
 obtain⟨n0,hn0,hl0⟩: ∃n0,n0<L∧(t n0).bs (r n0)=k n1:=by
  by_cases h0: ∃i,i<m∧(t 0).bs i=k n1
  ·obtain⟨n,_,h2,h3,h4⟩:=aBX (P:=fun n=> ∃i,i<m∧(t n).bs i=k n1) (Nat.zero_le n1) h0 aTD
   exact⟨n,by omega,Rl n (by omega) _ h3 h4⟩
  ·have hL0: ¬ ∃i,i<m∧(t L).bs i=k n1:=fun h=>h0 ((aHU _).2 h)
   obtain⟨n,_,h2,h3,h4⟩:=aBX (P:=fun n=> ∃i,i<m∧(t n).bs i=k n1) (show n1+1≤L by omega) aTN hL0
   exact⟨n,by omega,Rl n (by omega) _ h3 h4⟩
 have Fx:=hs n0 hn0
 have aB3:=hs n1 hn1
 have hT0:=hT n0 (by omega)
 have hT1:=hT n1 (by omega)
 have hs1:k n0<k n1:=by
  rcases Nat.lt_or_ge (k n0) (k n1) with h | h
  ·exact h
  ·have e:k n0=k n1:=by have:=aIJ n0 hn0;omega
   exact absurd Fx.pos (Qz n0 (by omega) _ ⟨r n0,Fx.hr,by rw[hl0,e]⟩)
 have hnp:=aB3.first (k n0) Fx.hF hs1
 have hex: ∃i,i<m∧iK Q fun q=> - ((t n0).X i (k n0)*rc m (w q) (t n1) ((t n0).bs i)):=by
  rcases Classical.em (∃i,i<m∧iK Q fun q=> - ((t n0).X i (k n0)*rc m (w q) (t n1) ((t n0).bs i))) with h | h
  ·exact h
  ·refine absurd ?_ hnp
   have:=D7 (n:=m) (f:=fun i q=>(t n0).X i (k n0)*rc m (w q) (t n1) ((t n0).bs i)) Fx.pos fun i hi=>by
    rcases To Q fun q=>(t n0).X i (k n0)*rc m (w q) (t n1) ((t n0).bs i) with h1 | h1 | h1
    ·exact .inl h1
    ·exact .inr h1
    ·exact absurd ⟨i,hi,h1⟩ h
   exact dW this fun q _=>(Ok hT0 hT1 (w q) (k n0)).symm
 obtain⟨i,hi,bP⟩:=hex
 obtain⟨c,hc⟩: ∃c,(t n0).bs i=c:=⟨_,rfl⟩
 rw[hc] at bP
 have hnb: ¬ (∃j,j<m∧(t n1).bs j=c):=fun⟨j,hj,h⟩=>by
  refine iM bP fun q _=> ?_
  rw[←h,lT hT1 _ hj];grind
 have aLE: ∃n,n<L∧k n=c:=by
  have hin: ∃j,j<m∧(t n0).bs j=c:=⟨i,hi,hc⟩
  have go: ∀a e,a≤e→e≤L→ ¬ (∃j,j<m∧(t a).bs j=c)→(∃j,j<m∧(t e).bs j=c)→ ∃n,n<L∧k n=c:=fun a e h1 h2 h3 h4=>by
   obtain⟨n,_,g2,g3,g4⟩:=aBX (P:=fun n=> ¬ ∃j,j<m∧(t n).bs j=c) h1 h3 (fun h=>h h4)
   exact⟨n,by omega,aCO n (by omega) c g3 (Classical.not_not.1 g4)⟩
  rcases Nat.lt_or_ge n1 n0 with h | h
  ·exact go n1 n0 (by omega) (by omega) hnb hin
  ·by_cases h0: ∃j,j<m∧(t 0).bs j=c
   ·exact go n1 L (by omega) (Nat.le_refl _) hnb ((aHU c).1 h0)
   ·exact go 0 n0 (by omega) (by omega) h0 hin
 obtain⟨nc,hnc,hkc⟩:=aLE
 have aV4:c≤k n1:=by rw[←hkc];exact aIJ nc hnc
 have Cw: ∀n,n≤L→ ∀j,j<m→(t n).bs j=c→(t n).X j b=0:=by
  have fwd: ∀n,n<L→(∀j,j<m→(t n).bs j=c→(t n).X j b=0)→ ∀j,j<m→(t (n+1)).bs j=c→(t (n+1)).X j b=0:=fun n h ih j hj hbj=>by
   rw[hconst n h j hj]
   by_cases e:j=r n
   ·rw[e];exact hz n h
   ·rw[hn n h,cW _ _ e] at hbj;exact ih j hj hbj
  have bwd: ∀n,n<L→(∀j,j<m→(t (n+1)).bs j=c→(t (n+1)).X j b=0)→ ∀j,j<m→(t n).bs j=c→(t n).X j b=0:=fun n h ih j hj hbj=>by
   by_cases e:j=r n
   ·rw[e];exact hz n h
   ·rw[←hconst n h j hj]
    exact ih j hj (by rw[hn n h,cW _ _ e];exact hbj)
  have h1: ∀j,j<m→(t n1).bs j=c→(t n1).X j b=0:=fun j hj h=>absurd ⟨j,hj,h⟩ hnb
  intro n hnL
  rcases Nat.le_total n n1 with h | h
  ·have: ∀d,d≤n1→ ∀j,j<m→(t (n1 - d)).bs j=c→(t (n1 - d)).X j b=0:=by
    intro d
    induction d with
    | zero => exact fun _ => h1
    | succ d ih =>
      intro hd
      refine bwd (n1 - (d+1)) (by omega) ?_
      rw[show n1 - (d+1)+1=n1 - d by omega]
      exact ih (by omega)
   have:=this (n1 - n) (by omega)
   rwa [show n1 - (n1 - n)=n by omega] at this
  ·have: ∀d,n1+d≤L→ ∀j,j<m→(t (n1+d)).bs j=c→(t (n1+d)).X j b=0:=by
    intro d
    induction d with
    | zero => exact fun _ => h1
    | succ d ih => exact fun hd => fwd (n1 + d) (by omega) (ih (by omega))
   have:=this (n - n1) (by omega)
   rwa [show n1+(n - n1)=n by omega] at this
 have hxi:(t n0).X i b=0:=Cw n0 (by omega) i hi hc
 have hFc:F c:=by rw[←hkc];exact(hs nc hnc).hF
 have hx0:(t n0).X i (k n0)≠0:=fun h=>iM bP fun q _=>by rw[h];grind
 have aR8:(0<(t n0).X i (k n0))∧c≠k n1:=by
  rcases gD ((t n0).X i (k n0)) 0 with h | h
  ·
   have hp:iK Q fun q=>rc m (w q) (t n1) c:=by
    have:=uS (Xo (show(0:Rat)<1 by decide) (show 0< - (t n0).X i (k n0) by grind)) bP
    exact dW this fun q _=>by grind
   have hge: ¬ c<k n1:=fun hl=>aB3.first c hFc hl hp
   have e:c=k n1:=by omega
   have:i=r n0:=hT0.inj hi Fx.hr (by rw[hc,hl0,e])
   rw[this] at h
   have:=Fx.prk
   grind
  ·refine⟨h,fun e=> ?_⟩
   have hp:=uS h aB3.pos
   rw[e] at bP
   exact R9 hp bP
 have aS8:=Fx.tie i hi aR8.1 (by rw[hxi,hz n0 hn0];grind)
 rw[hl0,hc] at aS8
 omega
end
theorem Fc {α:Type} [DecidableEq α]: ∀(l:List α) (f:Nat→α),(∀n,n≤l.length→f n∈l)→ ∃a b,a<b∧b≤l.length∧f a=f b
 | [], f, h => absurd (h 0 (Nat.le_refl _)) (by simp)
 | x :: l, f, h => by
   rcases Classical.em (∃n0,n0≤l.length+1∧f n0=x) with ⟨n0,h0,hx⟩| hno
   ·rcases Classical.em (∃n1,n1≤l.length+1∧n1≠n0∧f n1=x) with ⟨n1,h1,hne,hx1⟩| hno
    ·rcases Nat.lt_or_gt_of_ne hne with h | h
     ·exact⟨n1,n0,h,by simpa using h0,by rw[hx,hx1]⟩
     ·exact⟨n0,n1,h,by simpa using h1,by rw[hx,hx1]⟩
    ·obtain⟨a,b,h1,h2,h3⟩:=Fc l (fun n=>if n<n0 then f n else f (n+1)) fun n hn=>by
      have hm: ∀k,k≤l.length+1→k≠n0→f k∈l:=fun k hk hkn=>by
       have:=h k (by simpa using hk)
       rcases List.mem_cons.1 this with e | e
       ·exact absurd ⟨k,hk,hkn,e⟩ hno
       ·exact e
      split
      ·exact hm n (by omega) (by omega)
      ·exact hm (n+1) (by omega) (by omega)
     by_cases ha:a<n0
     ·by_cases hb:b<n0
      ·simp only[ha,hb,if_true] at h3
       exact⟨a,b,h1,by simp;omega,h3⟩
      ·simp only[ha,hb,if_true,if_false] at h3
       exact⟨a,b+1,by omega,by simp;omega,h3⟩
     ·simp only[ha,show ¬ b<n0 by omega,if_false] at h3
      exact⟨a+1,b+1,by omega,by simp;omega,h3⟩
   ·obtain⟨a,b,h1,h2,h3⟩:=Fc l f fun n hn=>by
     rcases List.mem_cons.1 (h n (by simp;omega)) with e | e
     ·exact absurd ⟨n,by omega,e⟩ hno
     ·exact e
    exact⟨a,b,h1,by simp;omega,h3⟩
def allL (N:Nat):Nat→List (List Nat)
 | 0 => [[]]
 | m + 1 => (allL N m).flatMap fun l => (List.range N).map fun x => l ++ [x]
theorem Ab (N:Nat) (f:Nat→Nat): ∀m,(∀i,i<m→f i<N)→(List.range m).map f∈allL N m
 | 0, _ => by simp [allL]
 | m + 1, h => by
   rw[allL,List.mem_flatMap]
   exact⟨_,Ab N f m fun i hi=>h i (by omega),List.mem_map.2 ⟨f m,by simpa using h m (by omega),by simp[List.range_succ]⟩⟩
def orb (nx:Tab→Option (Nat×Nat)) (t:Tab):Nat→Tab
 | 0 => t
 | n + 1 => match nx (orb nx t n) with
   | some (r,k)=>piv (orb nx t n) r k
   | none=>orb nx t n

structure jR (n m : Nat) (E : Nat → Nat → Rat) (b : Nat) (x : Nat → Rat) : Prop where
 nn: ∀c,c<n→0≤x c
 sol:Sol m n E b x
def dot (n:Nat) (w x:Nat→Rat):Rat:=S n fun c=>w c*x c
theorem U5 {n m b:Nat} (w:Nat→Rat) (t:Tab) {x:Nat→Rat} (h:Sol m n t.X b x):dot n w x=dot n (rc m w t) x - rc m w t b+w b:=by
 have e:dot n (rc m w t) x=dot n w x - S m fun i=>w (t.bs i)*S n fun c=>t.X i c*x c:=by
  unfold dot rc
  rw[show(fun c=>(w c - S m fun i=>t.X i c*w (t.bs i))*x c)=fun c=>w c*x c - S m fun i=>w (t.bs i)*(t.X i c*x c) from funext fun c=>by
   rw[show(S m fun i=>w (t.bs i)*(t.X i c*x c))=(S m fun i=>t.X i c*w (t.bs i))*x c by rw[←nY];exact bK fun i _=>by grind]
   grind,K4,tB]
  congr 1
  exact bK fun i _=>by rw[jM]
 have e2:(S m fun i=>w (t.bs i)*S n fun c=>t.X i c*x c)=S m fun i=>t.X i b*w (t.bs i):=bK fun i hi=>by rw[h i hi];grind
 rw[e,e2]
 unfold rc
 grind
def xb (m b:Nat) (t:Tab) (c:Nat):Rat:=S m fun i=>if t.bs i=c then t.X i b else 0
theorem aLS {m b:Nat} {E:Nat→Nat→Rat} {t:Tab} (h:TI m E t) {i:Nat} (hi:i<m):xb m b t (t.bs i)=t.X i b:=by
 unfold xb
 rw[dI hi,if_pos rfl]
 intro j hj hne
 rw[if_neg fun e=>hne (h.inj hj hi e)]
theorem aAG {m b:Nat} {t:Tab} {c:Nat} (h: ∀i,i<m→t.bs i≠c):xb m b t c=0:=jQ fun i hi=>if_neg (h i hi)
theorem aI6 {m b:Nat} {t:Tab} (h: ∀i,i<m→0≤t.X i b) (c:Nat):0≤xb m b t c:=jK fun i hi=>by
 split
 ·exact h i hi
 ·exact Rat.le_refl
theorem yL {n m:Nat} (bs:Nat→Nat) (f g:Nat→Rat) (hz: ∀i,i<m→ ¬ bs i<n→f i=0):(S n fun c=>g c*S m fun i=>if bs i=c then f i else 0)=S m fun i=>f i*g (bs i):=by
 rw[show(fun c=>g c*S m fun i=>if bs i=c then f i else 0)=fun c=>S m fun i=>if bs i=c then f i*g c else 0 from funext fun c=>by
  rw[←jM]
  exact bK fun i _=>by split<;>grind,tB]
 refine bK fun i hi=> ?_
 by_cases h:bs i<n
 ·rw[dI h,if_pos rfl]
  intro c hc hne
  rw[if_neg (Ne.symm hne)]
 ·rw[jQ,hz i hi h]
  ·grind
  ·intro c hc
   rw[if_neg (by omega)]
theorem aAV {n m b:Nat} {E:Nat→Nat→Rat} {t:Tab} (h:TI m E t) (hz: ∀i,i<m→ ¬ t.bs i<n→t.X i b=0):Sol m n t.X b (xb m b t):=by
 intro i hi
 unfold xb
 rw[yL t.bs (fun j=>t.X j b) (t.X i) hz,dI hi,h.unit i i hi hi,if_pos rfl]
 ·grind
 ·intro j hj hne
  rw[h.unit i j hi hj,if_neg (Ne.symm hne)];grind
theorem tX {n m b:Nat} {E:Nat→Nat→Rat} {t:Tab} (h:TI m E t) (hb: ∀i,i<m→0≤t.X i b) (hz: ∀i,i<m→ ¬ t.bs i<n→t.X i b=0):jR n m E b (xb m b t):=
 ⟨fun c _=>aI6 hb c,(oG h n b _).2 (aAV h hz)⟩
def aZ (n m:Nat) (c:Nat):Rat:=if n≤c∧c<n+m then -1 else 0
theorem wJ {n m b:Nat} {t:Tab} (hb:b=n+m):rc m (aZ n m) t b=S m fun i=>if n≤t.bs i∧t.bs i<n+m then t.X i b else 0:=by
 unfold rc
 rw[show aZ n m b=0 by unfold aZ;rw[if_neg (by omega)]]
 rw[show(fun i=>if n≤t.bs i∧t.bs i<n+m then t.X i b else 0)=fun i=>(-1)*(t.X i b*aZ n m (t.bs i)) from funext fun i=>by
  unfold aZ;split<;>grind,jM]
 grind
theorem Ls {n m b:Nat} {E:Nat→Nat→Rat} {t:Tab} (hb:b=n+m) (h:TI m E t) (hnn: ∀i,i<m→0≤t.X i b) (Kk: ∀c,c<n→rc m (aZ n m) t c≤0) (hp:0<rc m (aZ n m) t b) (x:Nat→Rat): ¬ jR n m E b x:=by
 intro hx
 have h1:=U5 (aZ n m) t ((oG h n b x).1 hx.sol)
 have h2:dot n (aZ n m) x=0:=jQ fun c hc=>by unfold aZ;rw[if_neg (by omega)];grind
 have h3:aZ n m b=0:=by unfold aZ;rw[if_neg (by omega)]
 have h4:dot n (rc m (aZ n m) t) x≤0:=by
  have:0≤S n fun c=> - rc m (aZ n m) t c*x c:=jK fun c hc=>Rat.mul_nonneg (by have:=Kk c hc;grind) (hx.nn c hc)
  have e:(S n fun c=> - rc m (aZ n m) t c*x c)=(-1)*dot n (rc m (aZ n m) t) x:=by
   unfold dot;rw[←jM];exact bK fun c _=>by grind
  grind
 grind
theorem Pt {n m b:Nat} {t:Tab} (hb:b=n+m) (hnn: ∀i,i<m→0≤t.X i b) (hz:rc m (aZ n m) t b=0) (hlt: ∀i,i<m→t.bs i<n+m): ∀i,i<m→ ¬ t.bs i<n→t.X i b=0:=by
 intro i hi hge
 rw[wJ hb] at hz
 rcases gD (t.X i b) 0 with h | h
 ·have:=hnn i hi;grind
 ·have:=Pe (f:=fun i=>if n≤t.bs i∧t.bs i<n+m then t.X i b else 0) (k:=i) (n:=m) (fun j hj=>by
   split
   ·exact hnn j hj
   ·exact Rat.le_refl) hi (by
    have:=hlt i hi
    rw[if_pos (by omega)];exact h)
  grind
def wl (C:Nat→Rat):Nat→Nat→Rat
 | 0 => C
 | q + 1 => fun c => if c = q then -1 else 0
def sW (n m:Nat) (E:Nat→Nat→Rat) (b:Nat) (C x:Nat→Rat):Prop:=jR n m E b x∧ ∀y,jR n m E b y→ ¬ iK (n+1) fun q=>dot n (wl C q) y - dot n (wl C q) x
theorem X2 {n c:Nat} (hc:c<n) (C x:Nat→Rat):dot n (wl C (c+1)) x= - x c:=by
 unfold dot wl
 rw[dI hc]
 ·simp;grind
 ·intro i _ hne
  simp only[if_neg hne];grind
theorem Jk {n m b:Nat} {E:Nat→Nat→Rat} {C x y:Nat→Rat} (hx:sW n m E b C x) (hy:sW n m E b C y): ∀c,c<n→x c=y c:=by
 intro c hc
 have hz:zQ (n+1) fun q=>dot n (wl C q) y - dot n (wl C q) x:=by
  rcases To (n+1) fun q=>dot n (wl C q) y - dot n (wl C q) x with h | h | h
  ·exact absurd h (hx.2 y hy.1)
  ·exact h
  ·exact absurd (dW h fun q _=>by grind) (hy.2 x hx.1)
 have:=hz (c+1) (by omega)
 simp only at this
 rw[X2 hc,X2 hc] at this
 grind
theorem Oo {n m b:Nat} {E:Nat→Nat→Rat} {t:Tab} {C:Nat→Rat} (h:TI m E t) (hb: ∀i,i<m→0≤t.X i b) (hz: ∀i,i<m→ ¬ t.bs i<n→t.X i b=0) (Kk: ∀c,c<n→ ¬ iK (n+1) fun q=>rc m (wl C q) t c):sW n m E b C (xb m b t):=by
 have hf:=tX h hb hz
 refine⟨hf,fun y hy hp=> ?_⟩
 have h1: ∀q,dot n (wl C q) y - dot n (wl C q) (xb m b t)=S n fun c=>y c*rc m (wl C q) t c:=fun q=>by
  have e1:=U5 (wl C q) t ((oG h n b y).1 hy.sol)
  have e2:=U5 (wl C q) t ((oG h n b _).1 hf.sol)
  have e3:dot n (rc m (wl C q) t) (xb m b t)=0:=by
   unfold dot xb
   rw[yL t.bs (fun j=>t.X j b) (rc m (wl C q) t) hz]
   exact jQ fun i hi=>by rw[lT h _ hi];grind
  have e4:dot n (rc m (wl C q) t) y=S n fun c=>y c*rc m (wl C q) t c:=bK fun c _=>by grind
  grind
 have h2:=D7 (n:=n) (f:=fun c q=> - (y c*rc m (wl C q) t c)) hp fun c hc=>by
  have hy0:=hy.nn c hc
  rcases To (n+1) fun q=>rc m (wl C q) t c with g | g | g
  ·exact absurd g (Kk c hc)
  ·exact .inr fun q hq=>by have:=g q hq;simp only at this ⊢;rw[this];grind
  ·rcases gD (y c) 0 with k | k
   ·exact .inr fun q hq=>by
     have:y c=0:=by grind
     simp only;rw[this];grind
   ·exact .inl (dW (uS k g) fun q _=>by grind)
 refine iM h2 fun q _=> ?_
 have:(S n fun c=> - (y c*rc m (wl C q) t c))=(-1)*S n fun c=>y c*rc m (wl C q) t c:=by rw[←jM];exact bK fun c _=>by grind
 rw[h1 q,this];grind
def Unb (n m:Nat) (E:Nat→Nat→Rat) (b:Nat) (C:Nat→Rat):Prop:= ∀x,jR n m E b x→ ∃y,jR n m E b y∧dot n C x<dot n C y
theorem R7 {n m b:Nat} {E:Nat→Nat→Rat} {C x:Nat→Rat} (h:Unb n m E b C) (hx:sW n m E b C x):False:=by
 obtain⟨y,h1,h2⟩:=h x hx.1
 exact hx.2 y h1 ⟨0,by omega,by simp only[wl];grind,fun j hj=>by omega⟩
theorem Uq {n m b:Nat} {E:Nat→Nat→Rat} {t:Tab} {C:Nat→Rat} {j:Nat} (h:TI m E t) (hj:j<n) (hle: ∀i,i<m→t.X i j≤0) (hz: ∀i,i<m→ ¬ t.bs i<n→t.X i j=0) (hg:0<rc m C t j):Unb n m E b C:=by
 intro x hx
 have hnb: ∀i,i<m→t.bs i≠j:=fun i hi e=>by
  have:=h.unit i i hi hi
  rw[e,if_pos rfl] at this
  have:=hle i hi
  grind
 let y:Nat→Rat:=fun c=>x c+((if c=j then 1 else 0) - S m fun i=>if t.bs i=c then t.X i j else 0)
 have aJS: ∀g:Nat→Rat,(S n fun c=>g c*y c)=(S n fun c=>g c*x c)+(g j - S m fun i=>t.X i j*g (t.bs i)):=fun g=>by
  have e:(S n fun c=>g c*y c)=S n fun c=>g c*x c+((if c=j then g j else 0) - g c*S m fun i=>if t.bs i=c then t.X i j else 0):=bK fun c _=>by
   simp only[y]
   by_cases hc:c=j
   ·subst hc;simp only[if_true];grind
   ·simp only[if_neg hc];grind
  rw[e,Aw,K4,yL t.bs (fun i=>t.X i j) g hz,dI (f:=fun c=>if c=j then g j else 0) hj fun i _ hne=>if_neg hne]
  simp
 refine⟨y,⟨fun c hc=> ?_,(oG h n b y).2 fun i hi=> ?_⟩,?_⟩
 ·have h1:=hx.nn c hc
  have h2:0≤S m fun i=> - (if t.bs i=c then t.X i j else 0):=jK fun i hi=>by
   split
   ·have:=hle i hi;grind
   ·grind
  have h3:(S m fun i=> - (if t.bs i=c then t.X i j else 0))=(-1)*S m fun i=>if t.bs i=c then t.X i j else 0:=by rw[←jM];exact bK fun i _=>by grind
  have h4:(0:Rat)≤if c=j then 1 else 0:=by split<;>decide
  simp only[y]
  grind
 ·rw[aJS (t.X i),((oG h n b x).1 hx.sol) i hi]
  have:(S m fun l=>t.X l j*t.X i (t.bs l))=t.X i j:=by
   rw[dI hi,h.unit i i hi hi,if_pos rfl]
   ·grind
   ·intro l hl hne
    rw[h.unit i l hi hl,if_neg (Ne.symm hne)];grind
  rw[this];grind
 ·have:=aJS C
  unfold dot
  rw[this]
  unfold rc at hg
  grind
structure Round (n m b : Nat) (E : Nat → Nat → Rat) (w : Nat → Rat) (F F' : Nat → Prop) (t : Tab) : Prop where
 ti:TI m E t
 nn: ∀i,i<m→0≤t.X i b
 zero: ∀i,i<m→ ¬ t.bs i<n→t.X i b=0
 bas: ∀i,i<m→t.bs i<n→F (t.bs i)
 up: ∀c,c<n→F c→rc m w t c≤0
 eG: ∀c,c<n→(F' c ↔ F c∧rc m w t c=0)
def H4 (n:Nat) (F:Nat→Prop) (x:Nat→Rat):Prop:= ∀c,c<n→ ¬ F c→x c=0
theorem qN {n m b:Nat} {E:Nat→Nat→Rat} {w:Nat→Rat} {F F':Nat→Prop} {t:Tab} (h:Round n m b E w F F' t) {x:Nat→Rat} (hx:jR n m E b x) (ho:H4 n F x):
  dot n w x≤w b - rc m w t b∧(dot n w x=w b - rc m w t b→H4 n F' x)∧(H4 n F' x→dot n w x=w b - rc m w t b):=by
 have h1:=U5 w t ((oG h.ti n b x).1 hx.sol)
 have Yz: ∀c,c<n→0≤ - rc m w t c*x c:=fun c hc=>by
  by_cases hF:F c
  ·exact Rat.mul_nonneg (by have:=h.up c hc hF;grind) (hx.nn c hc)
  ·rw[ho c hc hF];grind
 have e:(S n fun c=> - rc m w t c*x c)=(-1)*dot n (rc m w t) x:=by
  unfold dot;rw[←jM];exact bK fun c _=>by grind
 have h2:=jK Yz
 refine⟨by grind,fun heq c hc hF'=> ?_,fun ho'=> ?_⟩
 ·by_cases hF:F c
  ·have hne:rc m w t c≠0:=fun h0=>hF' ((h.eG c hc).2 ⟨hF,h0⟩)
   have hlt:rc m w t c<0:=by have:=h.up c hc hF;grind
   rcases gD (x c) 0 with g | g
   ·have:=hx.nn c hc;grind
   ·have:=Pe Yz hc (Rat.mul_pos (by grind) g)
    grind
  ·exact ho c hc hF
 ·have:dot n (rc m w t) x=0:=jQ fun c hc=>by
   by_cases hF':F' c
   ·rw[((h.eG c hc).1 hF').2];grind
   ·rw[ho' c hc hF'];grind
  grind

def vol (m:Nat) (E:Nat→Nat→Rat) (t:Tab):Rat:=det m fun j i=>E i (t.bs j)
theorem N3 {m:Nat} {E:Nat→Nat→Rat} {t:Tab} (h:TI m E t) {p:Nat} (hp:p<m) (c:Nat):det m (put (fun j i=>E i (t.bs j)) p fun i=>E i c)=t.X p c*vol m E t:=
 aB4 _ hp (fun j=>t.X j c) _ fun i hi=>h.col i hi c
theorem Gk {m:Nat} {E:Nat→Nat→Rat} {t:Tab} (h:TI m E t) {r k:Nat} (hr:r<m):vol m E (piv t r k)=t.X r k*vol m E t:=by
 rw[←N3 h hr k]
 unfold vol
 refine qX fun j i _ _=> ?_
 unfold put
 by_cases e:j=r
 ·subst e;rw[dK,if_pos rfl]
 ·rw[cW _ _ e,if_neg e]
structure aHH (m N K : Nat) (E : Nat → Nat → Rat) : Prop where
 int: ∀i c,i<m→c<N→isInt (E i c)
 le: ∀i c,i<m→c<N→ -(K:Rat)≤E i c∧E i c≤K
structure TZ (m N K : Nat) (E : Nat → Nat → Rat) (t : Tab) : Prop where
 ti:TI m E t
 ints:aHH m N K E
 bs: ∀i,i<m→t.bs i<N
 vol:vol m E t≠0
theorem TZ.piv {m N K:Nat} {E:Nat→Nat→Rat} {t:Tab} (h:TZ m N K E t) {r k:Nat} (hr:r<m) (hk:k<N) (hp:t.X r k≠0):TZ m N K E (piv t r k):=by
 refine⟨h.ti.piv hr hp,h.ints,fun i hi=> ?_,?_⟩
 ·by_cases e:i=r
  ·subst e;rw[dK];exact hk
  ·rw[cW _ _ e];exact h.bs i hi
 ·rw[Gk h.ti hr]
  have:=h.vol
  intro h0
  rcases Rat.mul_eq_zero.1 h0 with h1 | h1
  ·exact hp h1
  ·exact this h1
theorem TZ.mR {m N K:Nat} {E:Nat→Nat→Rat} {t:Tab} (h:TZ m N K E t):isInt (Lp.vol m E t)∧ -(lid K m:Rat)≤Lp.vol m E t∧Lp.vol m E t≤lid K m:=
 ⟨S5 fun j i hj hi=>h.ints.int i _ hi (h.bs j hj),Ck fun j i hj hi=>h.ints.le i _ hi (h.bs j hj)⟩
theorem TZ.entry {m N K:Nat} {E:Nat→Nat→Rat} {t:Tab} (h:TZ m N K E t) {p c:Nat} (hp:p<m) (hc:c<N):isInt (t.X p c*Lp.vol m E t)∧ -(lid K m:Rat)≤t.X p c*Lp.vol m E t∧t.X p c*Lp.vol m E t≤lid K m:=by
 rw[←N3 h.ti hp c]
 refine⟨S5 fun j i hj hi=> ?_,Ck fun j i hj hi=> ?_⟩
 ·unfold put;split
  ·exact h.ints.int i c hi hc
  ·exact h.ints.int i _ hi (h.bs j hj)
 ·unfold put;split
  ·exact h.ints.le i c hi hc
  ·exact h.ints.le i _ hi (h.bs j hj)
def kL (q:Rat):Rat:=if q<0 then -q else q
theorem Ah {q:Rat} (h:q≠0):0<kL q:=by unfold kL;split<;>grind
theorem Mi (a b:Rat):kL (a*b)=kL a*kL b:=by
 rcases gD a 0 with h1 | h1<;>rcases gD b 0 with h2 | h2
 ·have:=Rat.mul_nonneg (show 0≤ -a by grind) (show 0≤ -b by grind)
  unfold kL
  rw[if_neg (show ¬ a*b<0 by grind)]
  by_cases ha:a<0
  ·by_cases hb:b<0
   ·rw[if_pos ha,if_pos hb];grind
   ·have:b=0:=by grind
    rw[this];grind
  ·have:a=0:=by grind
   rw[this];grind
 ·unfold kL
  by_cases ha:a<0
  ·have:=Rat.mul_pos (show 0< -a by grind) h2
   rw[if_pos (show a*b<0 by grind),if_pos ha,if_neg (by grind)];grind
  ·have:a=0:=by grind
   rw[this];grind
 ·unfold kL
  by_cases hb:b<0
  ·have:=Rat.mul_pos h1 (show 0< -b by grind)
   rw[if_pos (show a*b<0 by grind),if_pos hb,if_neg (by grind)];grind
  ·have:b=0:=by grind
   rw[this];grind
 ·have:=Rat.mul_pos h1 h2
  unfold kL
  rw[if_neg (by grind),if_neg (by grind),if_neg (by grind)]
theorem vC {a:Rat} :isInt a→isInt (-a):=fun⟨x,hx⟩=>⟨-x,by rw[hx,Rat.intCast_neg]⟩
theorem M1 {a b:Rat} (ha:isInt a) (hb:isInt b):isInt (a - b):=by
 rw[show a - b=a+ -b by grind];exact M9 ha (vC hb)
theorem Cr {a:Rat} (h:isInt a):isInt (kL a):=by
 unfold kL;split
 ·exact vC h
 ·exact h
theorem F5 {q:Rat} (h:isInt q):(q.num:Rat)=q:=by obtain⟨z,rfl⟩:=h;simp
def dz (m:Nat) (E:Nat→Nat→Rat) (t:Tab):Int:=(kL (vol m E t)).num
def zt (m:Nat) (E:Nat→Nat→Rat) (t:Tab) (i c:Nat):Int:=(t.X i c*kL (vol m E t)).num
section
variable {m N K : Nat} {E : Nat → Nat → Rat} {t : Tab}
theorem pH (h:TZ m N K E t):(dz m E t:Rat)=kL (vol m E t):=F5 (Cr h.mR.1)
theorem sQ (h:TZ m N K E t):0<dz m E t:=by
 have:=Ah h.vol
 rw[←pH h] at this
 exact Rat.intCast_pos.1 this
theorem gS (h:TZ m N K E t) {i c:Nat} (hi:i<m) (hc:c<N):(zt m E t i c:Rat)=t.X i c*dz m E t:=by
 rw[pH h]
 refine F5 ?_
 have h1:=(h.entry hi hc).1
 unfold kL;split
 ·rw[show t.X i c* -vol m E t= -(t.X i c*vol m E t) by grind];exact vC h1
 ·exact h1
theorem Yk (h:TZ m N K E t) {i c:Nat} (hi:i<m) (hc:c<N): -(lid K m:Int)≤zt m E t i c∧zt m E t i c≤lid K m:=by
 have h1:=(h.entry hi hc).2
 have h2: -(lid K m:Rat)≤(zt m E t i c:Rat)∧(zt m E t i c:Rat)≤lid K m:=by
  rw[gS h hi hc,pH h]
  unfold kL;split<;>grind
 constructor
 ·have:=h2.1
  rw[←Rat.intCast_natCast,←Rat.intCast_neg] at this
  exact Rat.intCast_le_intCast.1 this
 ·have:=h2.2
  rw[←Rat.intCast_natCast] at this
  exact Rat.intCast_le_intCast.1 this
theorem Yn (h:TZ m N K E t):dz m E t≤lid K m:=by
 have h1:=h.mR.2
 have h2:(dz m E t:Rat)≤lid K m:=by
  rw[pH h]
  unfold kL;split<;>grind
 rw[←Rat.intCast_natCast] at h2
 exact Rat.intCast_le_intCast.1 h2
theorem qW (h:TZ m N K E t) {i c:Nat} (hi:i<m) (hc:c<N):(0<zt m E t i c ↔ 0<t.X i c)∧(zt m E t i c=0 ↔ t.X i c=0):=by
 have h1:=gS h hi hc
 have h2:(0:Rat)<dz m E t:=by rw[pH h];exact Ah h.vol
 constructor
 ·constructor
  ·intro hp
   have h3:(0:Rat)<zt m E t i c:=Rat.intCast_pos.2 hp
   rw[h1] at h3
   rcases gD (t.X i c) 0 with g | g
   ·have:=Rat.mul_nonneg (show 0≤ - t.X i c by grind) (show 0≤(dz m E t:Rat) by grind)
    grind
   ·exact g
  ·intro hp
   have:=Rat.mul_pos hp h2
   rw[←h1] at this
   exact Rat.intCast_pos.1 this
 ·constructor
  ·intro h0
   rw[h0] at h1
   rcases Rat.mul_eq_zero.1 h1.symm with g | g
   ·exact g
   ·rw[g] at h2;exact absurd h2 (by decide)
  ·intro h0
   rw[h0,Rat.zero_mul] at h1
   exact Rat.intCast_inj.1 h1
theorem aDG (h:TZ m N K E t) {r k:Nat} (hr:r<m) (hk:k<N) (hp:t.X r k≠0) {i c:Nat} (hi:i<m) (hc:c<N):
  (0<zt m E t r k→dz m E (piv t r k)=zt m E t r k∧(zt m E (piv t r k) i c*dz m E t=if i=r then zt m E t i c*dz m E t else zt m E t i c*zt m E t r k - zt m E t i k*zt m E t r c))∧
  (zt m E t r k<0→dz m E (piv t r k)= - zt m E t r k∧(zt m E (piv t r k) i c*dz m E t= - if i=r then zt m E t i c*dz m E t else zt m E t i c*zt m E t r k - zt m E t i k*zt m E t r c)):=by
 have h':=h.piv hr hk hp
 have e1:=gS h hi hc
 have e2:=gS h' hi hc
 have e3:=gS h hr hk
 have e4:=gS h hi hk
 have e5:=gS h hr hc
 have hd:(dz m E (piv t r k):Rat)=kL (t.X r k)*dz m E t:=by rw[pH h',pH h,Gk h.ti hr,Mi]
 have hdp:=sQ h
 have hs:=qW h hr hk
 constructor
 ·intro kN
  have hx:=hs.1.1 kN
  have hd2:(dz m E (piv t r k):Rat)=zt m E t r k:=by rw[hd,e3];unfold kL;rw[if_neg (by grind)]
  refine⟨Rat.intCast_inj.1 hd2,?_⟩
  have hz:=Rat.intCast_inj.1 hd2
  refine Rat.intCast_inj.1 ?_
  rw[Rat.intCast_mul,e2,hd]
  split
  ·rename_i e
   subst e
   rw[Rat.intCast_mul,rX,e1]
   unfold kL;rw[if_neg (by grind)]
   grind
  ·rename_i e
   rw[Rat.intCast_sub,Rat.intCast_mul,Rat.intCast_mul,nD _ _ _ e,e1,e3,e4,e5]
   unfold kL;rw[if_neg (by grind)]
   grind
 ·intro bP
  have hx:t.X r k<0:=by
   rcases gD (t.X r k) 0 with g | g
   ·grind
   ·have:=hs.1.2 g;omega
  have hd2:(dz m E (piv t r k):Rat)=((- zt m E t r k:Int):Rat):=by rw[hd,Rat.intCast_neg,e3];unfold kL;rw[if_pos hx];grind
  refine⟨Rat.intCast_inj.1 hd2,?_⟩
  refine Rat.intCast_inj.1 ?_
  rw[Rat.intCast_mul,e2,hd,Rat.intCast_neg]
  split
  ·rename_i e
   subst e
   rw[Rat.intCast_mul,rX,e1]
   unfold kL;rw[if_pos hx]
   grind
  ·rename_i e
   rw[Rat.intCast_sub,Rat.intCast_mul,Rat.intCast_mul,nD _ _ _ e,e1,e3,e4,e5]
   unfold kL;rw[if_pos hx]
   grind
end
end Go.Proofs.YticmgmemnpcbbaaGreat.Lp

namespace Go.Proofs.YticmgmemnpcbbaaGreat.Lp
set_option linter.unusedSimpArgs false
set_option linter.unusedVariables false
open Classical
noncomputable def fstP (p : Nat → Prop) : Nat → Option Nat
 | 0 => none
 | n + 1 => match fstP p n with
   | some k=>some k
   | none=>if p n then some n else none
theorem eP {p:Nat→Prop} : ∀ {n:Nat},fstP p n=none ↔ ∀k,k<n→ ¬ p k
 | 0 => by simp [fstP]
 | n + 1 => by
   have ih:=eP (p:=p) (n:=n)
   rw[fstP]
   cases h:fstP p n with
   | some k=>
     constructor
     ·intro h';cases h'
     ·intro h'
      have:=ih.2 fun k hk=>h' k (by omega)
      rw[h] at this;cases this
   | none=>
     have hn:=ih.1 h
     constructor
     ·intro h' k hk
      by_cases e:k=n
      ·subst e;intro hp;simp[hp] at h'
      ·exact hn k (by omega)
     ·intro h'
      simp[h' n (by omega)]
theorem dD {p:Nat→Prop} {k:Nat} : ∀ {n:Nat},fstP p n=some k ↔ k<n∧p k∧ ∀j,j<k→ ¬ p j
 | 0 => by simp [fstP]
 | n + 1 => by
   have ih:=dD (p:=p) (k:=k) (n:=n)
   rw[fstP]
   cases h:fstP p n with
   | some k'=>
     rw[h] at ih
     constructor
     ·intro h'
      obtain⟨h1,h2,h3⟩:=ih.1 h'
      exact⟨by omega,h2,h3⟩
     ·rintro⟨h1,h2,h3⟩
      by_cases e:k<n
      ·exact ih.2 ⟨e,h2,h3⟩
      ·obtain⟨g1,g2,_⟩:=dD.1 h
       exact absurd g2 (h3 k' (by omega))
   | none=>
     have hn:=eP.1 h
     constructor
     ·intro h'
      by_cases hp:p n
      ·simp[hp] at h'
       subst h'
       exact⟨by omega,hp,hn⟩
      ·simp[hp] at h'
     ·rintro⟨h1,h2,h3⟩
      by_cases e:k<n
      ·exact absurd h2 (hn k e)
      ·obtain rfl:k=n:=by omega
       simp[h2]
def quo (t:Tab) (b k i:Nat):Rat:=t.X i b / t.X i k
noncomputable def lvStep (t : Tab) (b k : Nat) (Md : Option Nat) (i : Nat) : Option Nat :=
 if 0<t.X i k then match Md with
  | none => some i
  | some j => if quo t b k i < quo t b k j ∨ quo t b k i = quo t b k j ∧ t.bs i < t.bs j then some i else some j
 else Md
noncomputable def leave (t : Tab) (b k : Nat) (rows : List Nat) : Option Nat := rows.foldl (lvStep t b k) none
theorem tF (t:Tab) (b k:Nat) (rows:List Nat) (i:Nat):leave t b k (rows++ [i])=lvStep t b k (leave t b k rows) i:=by
 unfold leave;rw[List.foldl_append];rfl
theorem Sd {α:Type} {P:List α→Prop} (h0:P []) (hs: ∀l x,P l→P (l++ [x])) (l:List α):P l:=by
 rw[←List.reverse_reverse l]
 induction l.reverse with
 | nil => exact h0
 | cons x xs ih => rw [List.reverse_cons]; exact hs _ _ ih
theorem lU (t:Tab) (b k:Nat) (rows:List Nat):(leave t b k rows=none→ ∀i,i∈rows→ ¬ 0<t.X i k)∧
  ∀r,leave t b k rows=some r→r∈rows∧0<t.X r k∧ ∀i,i∈rows→0<t.X i k→quo t b k r≤quo t b k i∧(quo t b k i=quo t b k r→t.bs r≤t.bs i):=by
 induction rows using Sd with
 | h0 => exact ⟨fun _ i hi => (by cases hi), fun r h => (by cases h)⟩
 | hs l x ih =>
   obtain⟨ih1,ih2⟩:=ih
   rw[tF]
   unfold lvStep
   by_cases hp:0<t.X x k
   ·rw[if_pos hp]
    cases hb:leave t b k l with
    | none =>
      refine⟨fun h=>(by cases h),fun r h=> ?_⟩
      have hx:x=r:=Option.some.inj h
      subst hx
      refine⟨by simp,hp,fun i hi hpi=> ?_⟩
      rcases List.mem_append.1 hi with hi | hi
      ·exact absurd hpi (ih1 hb i hi)
      ·obtain rfl:i=x:=by simpa using hi
       exact⟨Rat.le_refl,fun _=>Nat.le_refl _⟩
    | some j =>
      obtain⟨g1,g2,g3⟩:=ih2 j hb
      simp only
      by_cases hc:quo t b k x<quo t b k j∨quo t b k x=quo t b k j∧t.bs x<t.bs j
      ·rw[if_pos hc]
       refine⟨fun h=>(by cases h),fun r h=> ?_⟩
       have hx:x=r:=Option.some.inj h
       subst hx
       refine⟨by simp,hp,fun i hi hpi=> ?_⟩
       rcases List.mem_append.1 hi with hi | hi
       ·obtain⟨q1,q2⟩:=g3 i hi hpi
        rcases hc with hc | ⟨hc1,hc2⟩
        ·exact⟨by grind,fun e=>by grind⟩
        ·exact⟨by grind,fun e=>by have:=q2 (by grind);omega⟩
       ·obtain rfl:i=x:=by simpa using hi
        exact⟨Rat.le_refl,fun _=>Nat.le_refl _⟩
      ·rw[if_neg hc]
       refine⟨fun h=>(by cases h),fun r h=> ?_⟩
       have hx:j=r:=Option.some.inj h
       subst hx
       refine⟨by simp[g1],g2,fun i hi hpi=> ?_⟩
       rcases List.mem_append.1 hi with hi | hi
       ·exact g3 i hi hpi
       ·obtain rfl:i=x:=by simpa using hi
        have h1: ¬ quo t b k i<quo t b k j:=fun h=>hc (.inl h)
        refine⟨by grind,fun e=> ?_⟩
        have h2: ¬ t.bs i<t.bs j:=fun h=>hc (.inr ⟨e,h⟩)
        omega
   ·rw[if_neg hp]
    refine⟨fun h i hi=> ?_,fun r h=> ?_⟩
    ·rcases List.mem_append.1 hi with hi | hi
     ·exact ih1 h i hi
     ·obtain rfl:i=x:=by simpa using hi
      exact hp
    ·obtain⟨g1,g2,g3⟩:=ih2 r h
     refine⟨by simp[g1],g2,fun i hi hpi=> ?_⟩
     rcases List.mem_append.1 hi with hi | hi
     ·exact g3 i hi hpi
     ·obtain rfl:i=x:=by simpa using hi
      exact absurd hpi hp
theorem vS {a b c d:Rat} (hb:0<b) (hd:0<d):(a / b<c / d ↔ a*d<c*b)∧(a / b=c / d ↔ a*d=c*b):=by
 have h1:a / b*b=a:=by grind
 have h2:c / d*d=c:=by grind
 generalize a / b=x at *
 generalize c / d=y at *
 subst h1 h2
 have h3:=Rat.mul_pos hb hd
 constructor
 ·constructor
  ·intro h
   have:=Rat.mul_pos (show 0<y - x by grind) h3
   grind
  ·intro h
   rcases gD y x with g | g
   ·have:=Rat.mul_nonneg (show 0≤x - y by grind) (show 0≤b*d by grind)
    grind
   ·exact g
 ·constructor
  ·intro h;rw[h];grind
  ·intro h
   have:(x - y)*(b*d)=0:=by grind
   rcases Rat.mul_eq_zero.1 this with g | g
   ·grind
   ·grind
noncomputable def nx (N b : Nat) (rows : List Nat) (ok : Tab → Nat → Prop) (t : Tab) : Option (Nat × Nat) :=
 match fstP (ok t) N with
 | none => none
 | some k => match leave t b k rows with
   | none=>none
   | some r=>some (r,k)
theorem qZ {N b:Nat} {rows:List Nat} {ok:Tab→Nat→Prop} {t:Tab} {r k:Nat} :nx N b rows ok t=some (r,k) ↔ fstP (ok t) N=some k∧leave t b k rows=some r:=by
 unfold nx
 cases h1:fstP (ok t) N with
 | none => simp
 | some k' =>
   simp only
   cases h2:leave t b k' rows with
   | none=>
     constructor
     ·intro h;cases h
     ·rintro⟨h,h'⟩
      obtain rfl:k'=k:=Option.some.inj h
      rw[h2] at h';cases h'
   | some r'=>
     simp only[Option.some.injEq,Prod.mk.injEq]
     constructor
     ·rintro⟨rfl,rfl⟩;exact⟨rfl,h2⟩
     ·rintro⟨rfl,h'⟩;rw[h2] at h';exact⟨Option.some.inj h',rfl⟩
theorem Gu {N b:Nat} {rows:List Nat} {ok:Tab→Nat→Prop} {t:Tab} (h:nx N b rows ok t=none):fstP (ok t) N=none∨ ∃k,fstP (ok t) N=some k∧leave t b k rows=none:=by
 unfold nx at h
 cases h1:fstP (ok t) N with
 | none => exact .inl rfl
 | some k =>
   rw[h1] at h
   simp only at h
   cases h2:leave t b k rows with
   | none=>exact .inr ⟨k,rfl,h2⟩
   | some r=>rw[h2] at h;cases h
structure Inv (n m b N K : Nat) (E : Nat → Nat → Rat) (rows : List Nat) (t : Tab) : Prop where
 z:TZ m N K E t
 nn: ∀i,i<m→0≤t.X i b
 sub: ∀i,i∈rows→i<m
 dead: ∀i,i<m→i∉rows→n≤t.bs i∧t.X i b=0∧ ∀c,c<n→t.X i c=0
 lt: ∀i,i<m→t.bs i<b
structure uU (n m b Q N' N : Nat) (w : Nat → Nat → Rat) (F : Nat → Prop) (rows : List Nat) (ok : Tab → Nat → Prop) : Prop where
 ok: ∀t c,c<N'→(ok t c ↔ F c∧iK Q fun q=>rc m (w q) t c)
 hF: ∀c,F c→c<N'
 le:N'≤N
 lb:N'≤b
 few:(∀c,F c→c<n)∨ ∀i,i<m→i∈rows
theorem uU.step {n m b Q N' N K:Nat} {E:Nat→Nat→Rat} {w:Nat→Nat→Rat} {F:Nat→Prop} {rows:List Nat} {ok:Tab→Nat→Prop} (R:uU n m b Q N' N w F rows ok) {t:Tab} {r k:Nat} (h:Inv n m b N K E rows t)
  (hk:fstP (ok t) N'=some k) (hr:leave t b k rows=some r):Step m b Q w F t r k∧Inv n m b N K E rows (piv t r k)∧k<N'∧r∈rows∧r<m∧t.X r k≠0:=by
 obtain⟨k1,k2,k3⟩:=dD.1 hk
 obtain⟨r1,r2,r3⟩:=(lU t b k rows).2 r hr
 obtain⟨f1,f2⟩:=(R.ok t k k1).1 k2
 have hrm:=h.sub r r1
 have hin: ∀i,i<m→0<t.X i k→i∈rows:=fun i hi hp=>by
  rcases Classical.em (i∈rows) with g | g
  ·exact g
  ·rcases R.few with hf | hf
   ·have:=(h.dead i hi g).2.2 k (hf k f1)
    rw[this] at hp;exact absurd hp (by decide)
   ·exact hf i hi
 have hst:Step m b Q w F t r k:=⟨f1,f2,fun j hj hjk hp=>k3 j hjk ((R.ok t j (by omega)).2 ⟨hj,hp⟩),hrm,r2,fun i hi hp=>by
  have h1:=(r3 i (hin i hi hp) hp).1
  have h2:=vS (a:=t.X i b) (b:=t.X i k) (c:=t.X r b) (d:=t.X r k) hp r2
  unfold quo at h1
  rcases gD (t.X r b*t.X i k) (t.X i b*t.X r k) with g | g
  ·exact g
  ·have:=h2.1.2 g;grind,fun i hi hp e=>by
  have h1:=(r3 i (hin i hi hp) hp).2
  have h2:=vS (a:=t.X i b) (b:=t.X i k) (c:=t.X r b) (d:=t.X r k) hp r2
  exact h1 (h2.2.2 e)⟩
 have hne:t.X r k≠0:=by grind
 refine⟨hst,⟨h.z.piv hrm (by have:=R.le;omega) hne,hst.rhs h.nn,h.sub,fun i hi hno=> ?_,fun i hi=> ?_⟩,k1,r1,hrm,hne⟩
 ·have hir:i≠r:=fun e=>hno (e▸r1)
  obtain⟨d1,d2,d3⟩:=h.dead i hi hno
  have hkn:k<n:=by
   rcases R.few with hf | hf
   ·exact hf k f1
   ·exact absurd (hf i hi) hno
  rw[cW _ _ hir]
  refine⟨d1,?_,fun c hc=> ?_⟩
  ·rw[nD _ _ _ hir,d2,d3 k hkn];grind
  ·rw[nD _ _ _ hir,d3 c hc,d3 k hkn];grind
 ·by_cases e:i=r
  ·subst e;rw[dK];have:=R.lb;omega
  ·rw[cW _ _ e];exact h.lt i hi
theorem uU.low {n m b Q N' N K:Nat} {E:Nat→Nat→Rat} {w:Nat→Nat→Rat} {F:Nat→Prop} {rows:List Nat} {ok:Tab→Nat→Prop} (R:uU n m b Q N' N w F rows ok) (hF: ∀c,F c→c<n) {t:Tab} {e:Nat} (hI: ∀e',e'≤e→Inv n m b N K E rows (orb (nx N' b rows ok) t e')) (hl: ∀i,i∈rows→t.bs i<n):
  ∀e',e'≤e→ ∀i,i∈rows→(orb (nx N' b rows ok) t e').bs i<n
 | 0, _ => hl
 | e' + 1, he => by
   have ih:=uU.low R hF hI hl e' (by omega)
   rw[orb]
   cases hs:nx N' b rows ok (orb (nx N' b rows ok) t e') with
   | none=>exact ih
   | some p=>
     obtain⟨g1,g2⟩:=qZ.1 hs
     have hst:=(R.step (hI e' (by omega)) g1 g2).1
     intro i hi
     by_cases ei:i=p.1
     ·simp only;rw[ei,dK];exact hF _ hst.hF
     ·simp only;rw[cW _ _ ei];exact ih i hi
theorem uU.ends {n m b Q N' N K:Nat} {E:Nat→Nat→Rat} {w:Nat→Nat→Rat} {F:Nat→Prop} {rows:List Nat} {ok:Tab→Nat→Prop} (R:uU n m b Q N' N w F rows ok) {t:Tab} (h:Inv n m b N K E rows t):
  ∃e,nx N' b rows ok (orb (nx N' b rows ok) t e)=none∧(∀e',e'<e→(nx N' b rows ok (orb (nx N' b rows ok) t e')).isSome=true)∧ ∀e',e'≤e→Inv n m b N K E rows (orb (nx N' b rows ok) t e'):=by
 have hinv: ∀e,Inv n m b N K E rows (orb (nx N' b rows ok) t e):=by
  intro e
  induction e with
  | zero => exact h
  | succ e ih =>
    rw[orb]
    cases hs:nx N' b rows ok (orb (nx N' b rows ok) t e) with
    | none=>exact ih
    | some p=>
      obtain⟨g1,g2⟩:=qZ.1 hs
      exact(R.step ih g1 g2).2.1
 rcases Classical.em (∃e,nx N' b rows ok (orb (nx N' b rows ok) t e)=none) with ⟨e,he⟩| hno
 ·have least: ∀e,nx N' b rows ok (orb (nx N' b rows ok) t e)=none→ ∃e,nx N' b rows ok (orb (nx N' b rows ok) t e)=none∧ ∀e',e'<e→(nx N' b rows ok (orb (nx N' b rows ok) t e')).isSome=true:=by
   intro e
   induction e using Nat.strongRecOn with
   | ind e ih =>
     intro h
     rcases Classical.em (∃e',e'<e∧nx N' b rows ok (orb (nx N' b rows ok) t e')=none) with ⟨e',h1,h2⟩| h2
     ·exact ih e' h1 h2
     ·refine⟨e,h,fun e' he'=> ?_⟩
      cases hh:nx N' b rows ok (orb (nx N' b rows ok) t e') with
      | none => exact absurd ⟨e', he', hh⟩ h2
      | some p => rfl
  obtain⟨e,h1,h2⟩:=least e he
  exact⟨e,h1,h2,fun e' _=>hinv e'⟩
 ·exfalso
  have K6: ∀e,∃p,nx N' b rows ok (orb (nx N' b rows ok) t e)=some p:=fun e=>by
   cases hh:nx N' b rows ok (orb (nx N' b rows ok) t e) with
   | none => exact absurd ⟨e, hh⟩ hno
   | some p => exact ⟨p, rfl⟩
  obtain⟨a,c,h1,h2,h3⟩:=Fc (allL N m) (fun e=>(List.range m).map (orb (nx N' b rows ok) t e).bs) fun e _=>Ab N _ m (hinv e).z.bs
  have heq: ∀i,i<m→(orb (nx N' b rows ok) t a).bs i=(orb (nx N' b rows ok) t c).bs i:=fun i hi=>by
   have:=congrArg (fun l=>l[i]?) h3
   simpa [hi] using this
  let p:Nat→Nat×Nat:=fun e=>(nx N' b rows ok (orb (nx N' b rows ok) t e)).getD (0,0)
  have hp: ∀e,nx N' b rows ok (orb (nx N' b rows ok) t e)=some ((p e).1,(p e).2):=fun e=>by obtain⟨q,hq⟩:=K6 e;simp[p,hq]
  refine aNK (m:=m) (b:=b) (Q:=Q) (L:=c - a) (E:=E) (w:=w) (F:=F) (t:=fun e=>orb (nx N' b rows ok) t (a+e)) (r:=fun e=>(p (a+e)).1) (k:=fun e=>(p (a+e)).2) (fun e _=>(hinv _).z.ti) (fun e _=>(hinv _).nn)
   (fun e _=> ?_) (fun e _=> ?_) (by omega) (fun i hi=> ?_)
  ·obtain⟨g1,g2⟩:=qZ.1 (hp (a+e))
   exact(R.step (hinv _) g1 g2).1
  ·show orb (nx N' b rows ok) t (a+e+1)=_
   rw[orb,hp]
  ·simp only[Nat.add_zero]
   rw[show a+(c - a)=c by omega]
   exact heq i hi
end Go.Proofs.YticmgmemnpcbbaaGreat.Lp
