import Derived.Test.YticmgmemnpcbbaaGreatQCFnExactExtremeOf4

namespace Go.Proofs.YticmgmemnpcbbaaGreat.Vm
open Go Go.Proofs
set_option linter.unusedSimpArgs false
set_option linter.unusedVariables false
theorem P3 {n:Nat} : ∀(rs:List (List Int)),(∀r,r∈rs→r.length=n)→ ∀(i k:Nat) (hi:i<rs.length),k<n→lat rs.flatten (i*n+k)=lat rs[i] k
 | [], _, i, k, hi, _ => by simp at hi
 | r :: rs, h, 0, k, hi, hk => by
   have:=h r List.mem_cons_self
   simp[lat,List.flatten_cons,List.getElem?_append_left (show k<r.length by omega)]
 | r :: rs, h, i + 1, k, hi, hk => by
   have hr:=h r List.mem_cons_self
   have ih:=P3 rs (fun r hr=>h r (List.mem_cons_of_mem _ hr)) i k (by simpa using hi) hk
   have e:(i+1)*n+k=r.length+(i*n+k):=by rw[hr,Nat.add_mul];omega
   rw[List.flatten_cons,e]
   simp only[lat,List.getD_eq_getElem?_getD] at ih ⊢
   rw[List.getElem?_append_right (by omega),Nat.add_sub_cancel_left,ih];rfl
theorem A4 (s:Str):iF s=(gJ s).flatten:=by
 unfold iF gJ
 induction aQ s.js with
 | nil => rfl
 | cons j js ih => simp [ih]
theorem sT (s:Str): ∀r,r∈gJ s→r.length=s.ms.length:=by
 intro r hr
 unfold gJ at hr
 obtain⟨j,_,hr⟩:=List.mem_flatMap.1 hr
 simp at hr
 rcases hr with rfl | rfl<;>simp
theorem aBP (s:Str) (n m:Nat) (h:m<n):(iv (aTo s n))[m]'(by simpa using h)= [.int .i64 (ent s (m / nC s) (m % nC s))]:=by simp[aTo]
theorem eW (s:Str) (l:List Int):(right s l).length=nR s:=by
 have e:right s l=fR s l (aQ s.js).length:=by simp[right,fR]
 rw[e,jQ s l _ (Nat.le_refl _)];rfl
theorem Y1 (s:Str) (l:List Int): ∀(fs:List Int) (i:Nat) (h:i<fs.length),lat (fs.flatMap fun j=> [-lat l (2*j).toNat, -lat l (2*j+1).toNat]) (2*i)= -lat l (2*fs[i]).toNat∧lat (fs.flatMap fun j=> [-lat l (2*j).toNat, -lat l (2*j+1).toNat]) (2*i+1)= -lat l (2*fs[i]+1).toNat
 | [], i, h => by simp at h
 | f :: fs, 0, _ => by simp [lat]
 | f :: fs, i + 1, h => by
   have ih:=Y1 s l fs i (by simpa using h)
   have e1:2*(i+1)=(2*i)+1+1:=by omega
   have e2:2*(i+1)+1=(2*i+1)+1+1:=by omega
   rw[e2,e1]
   simpa [lat] using ih
theorem B8 (s:Str) (hs:SOk s):RO Tryz.prog 148 [.ptr s.c] (.sl (ivv (gJ s))):=by
 have:=jA 2 (G5 s hs) (Ut _)
 rwa [aD3] at this
def dPg (p:Pg):D:= .a [.c (.int .i64 p.rows),.c (.int .i64 p.aS),fl 1 (iv p.a),fl 1 (iv p.b),fl 1 (iv p.c)]
structure ABC where
 a:Int
 b:Int
 c:Int
structure Xy (bl : Int → Option Blk) (gr gp : Int) (p : ABC) : Prop where
 a0:0≤p.a
 b0:0≤p.b
 c0:0≤p.c
 ba: ¬p.b=p.a
 ca: ¬p.c=p.a
 cb: ¬p.c=p.b
 ar: ¬p.a=gr
 ap: ¬p.a=gp
 br: ¬p.b=gr
 bp: ¬p.b=gp
 cr: ¬p.c=gr
 cp: ¬p.c=gp
 fa:bl p.a=none
 fb:bl p.b=none
 fc:bl p.c=none
theorem ad {p:Prop} {a b:Int} (F:p) (h: ¬a=b):p∧(a=b)=False∧(b=a)=False:=⟨F,eq_false h,eq_false fun e=>h e.symm⟩
theorem an {p q:Prop} (F:p) (h:q):p∧q:=⟨F,h⟩
set_option maxHeartbeats 4000000 in
theorem yJ (s:Str) (l:List Int) (hL:LOk s l):NW Tryz.prog 72 [.ptr s.c,.sl (iv l),.int .i64 0,.int .i64 0] (dPg (cX s l)):=by
 have hs:=hL.sok
 have h6:=hs.nj
 have h8:=hs.nm
 have hfr:=jB s.js s.js.length
 change(aQ s.js).length≤s.js.length at hfr
 have hcn:nC s≤2*s.ms.length:=jJ s.ms s.ms.length
 have hrn:nR s≤12:=by unfold nR;omega
 have er:(gJ s).length=nR s:=by
  have e:gJ s=zV s (aQ s.js).length:=by simp[zV,gJ]
  rw[e,qR s _ (Nat.le_refl _)];rfl
 have ec:(aS s.ms).length=nC s:=rfl
 refine iD Tryz.func72 rfl rfl (by rw[Tryz.ntmps72];simp) fun bl=> ?_
 rw[Tryz.ntmps72,Tryz.results72]
 refine aE ?_
 simp
 intro gr aB7 hbr
 refine aE ?_
 simp
 refine aD (B8 s hs) ?_
 simp
 refine aD (pQ s (by omega)) ?_
 simp
 refine aE ?_
 have w1:IntKind.i64.wrap (nR s:Int)=nR s:=i64_in (by omega) (by omega)
 have w2:IntKind.i64.wrap (nC s:Int)=nC s:=i64_in (by omega) (by omega)
 simp[er,ec,w1,w2]
 intro gp aTR hpr hbp
 obtain⟨nA,hA⟩: ∃n:Nat,n=nR s*nC s:=⟨_,rfl⟩
 have hA2:nA≤12*16:=by rw[hA];exact Nat.mul_le_mul (by omega) (by omega)
 have w3:IntKind.i64.wrap ((nR s:Int)*nC s)=nA:=by
  rw[hA]
  have:((nR s*nC s:Nat):Int)=nR s*nC s:=by simp
  rw[←this]
  exact i64_in (by omega) (by omega)
 let S:ABC→List (Nat×V):=fun _=> [(0,.ptr s.c),(1,.sl (iv l)),(8,.loc gr 5 0 0),(9,.sl (ivv (gJ s))),(10,.sl (cv (aS s.ms))),(11,.loc gp 5 0 0)]
 let B:ABC→Int→Option Blk:=fun p=>upd (upd (upd (upd (upd bl gr (some ⟨5,[[.int .i64 0,.int .i64 0,.nils,.nils,.nils]]⟩)) gp (some ⟨5,[[.int .i64 (nR s),.int .i64 (nC s),.lsl p.a 1 0 nA,.lsl p.b 1 0 (nR s),.lsl p.c 1 0 (nC s)]]⟩)) p.a (some ⟨1,List.replicate nA [.int .i64 0]⟩)) p.b (some ⟨1,List.replicate (nR s) [.int .i64 0]⟩)) p.c (some ⟨1,List.replicate (nC s) [.int .i64 0]⟩)
 have leaf: ∀(n:Nat) (σ:St) (ga gb gc:Int),0≤ga→0≤gb→0≤gc→(¬gb=ga∧ ¬gc=ga∧ ¬gc=gb∧ ¬ga=gr∧ ¬ga=gp∧ ¬gb=gr∧ ¬gb=gp∧ ¬gc=gr∧ ¬gc=gp∧bl ga=none∧bl gb=none∧bl gc=none)→σ.n=n→(∀p,p∈S ⟨ga,gb,gc⟩→σ.sl p.1=p.2)→Sub (B ⟨ga,gb,gc⟩) σ.bl→
   ∃a,Xy bl gr gp a∧Fit (S a) n (B a) σ:=fun n σ ga gb gc h1 h2 h3 ⟨h4,h5,h6,h7,h8,h9,h10,h11,h12,h13,h14,h15⟩ h16 h17 h18=>⟨⟨ga,gb,gc⟩,⟨h1,h2,h3,h4,h5,h6,h7,h8,h9,h10,h11,h12,h13,h14,h15⟩,h16,h17,h18⟩
 refine gH S B (Xy bl gr gp) 113 ?_ ?_
 ·have F:=an (an (ad trivial (show ¬gp=gr from hpr)) hbr) hbp
  refine Jn aM _ (Sub.refl _) [0,1,2,3,4,6,7,9,10] 9 12 (by kernel_rfl) ?_
  simp[w3]
  refine uY (i:=5) (j:=8) (m:=11) false false false (by kernel_rfl) rfl rfl (by kernel_rfl) rfl rfl (by kernel_rfl) rfl rfl (by kernel_rfl) ?_ ?_ ?_
  ·simp[F]
   refine⟨by omega,by unfold maxLen;omega,?_⟩
   intro ga hga
   intros
   have F:=an (ad (ad F (show ¬ga=gr by assumption)) (show ¬ga=gp by assumption)) (show bl ga=none by assumption)
   refine⟨by simp[F],?_⟩
   refine uY (i:=8) (j:=11) (m:=12) false false true (by kernel_rfl) rfl rfl (by kernel_rfl) rfl rfl (by kernel_rfl) rfl rfl (by kernel_rfl) ?_ ?_ ?_
   ·simp[F]
    refine⟨by omega,by unfold maxLen;omega,?_⟩
    intro gb hgb
    intros
    have F:=an (ad (ad (ad F (show ¬gb=gr by assumption)) (show ¬gb=gp by assumption)) (show ¬gb=ga by assumption)) (show bl gb=none by assumption)
    refine⟨by simp[F],?_⟩
    refine Dw 11 12 false true ?_ ?_
    ·simp[F]
     refine⟨by omega,by unfold maxLen;omega,?_⟩
     intro gc hgc
     intros
     have F:=an (ad (ad (ad (ad F (show ¬gc=gr by assumption)) (show ¬gc=gp by assumption)) (show ¬gc=ga by assumption)) (show ¬gc=gb by assumption)) (show bl gc=none by assumption)
     refine⟨by simp[F],?_⟩
     refine Dq 12 true ?_
     simp[F]
     refine Dq 13 true ?_
     simp[F]
     refine Dq 14 true ?_
     simp[F]
     refine Dq 15 true ?_
     simp[F]
     refine Dq 16 true ?_
     simp[F]
     refine Dq 17 true ?_
     simp[F]
     refine Dd ?_
     rw[aH]
     exact leaf _ _ ga gb gc hga hgb hgc (by simp[F]) rfl (by simp[S]) (by intro x y hx;simp only[B,aA] at hx ⊢;grind)
    ·simp[F]
     refine Dw 11 13 true true ?_ ?_
     ·simp[F]
      refine⟨by omega,by unfold maxLen;omega,?_⟩
      intro gc hgc
      intros
      have F:=an (ad (ad (ad (ad F (show ¬gc=gr by assumption)) (show ¬gc=gp by assumption)) (show ¬gc=ga by assumption)) (show ¬gc=gb by assumption)) (show bl gc=none by assumption)
      refine Dq 13 true ?_
      simp[F]
      refine Dq 14 true ?_
      simp[F]
      refine Dq 15 true ?_
      simp[F]
      refine Dq 16 true ?_
      simp[F]
      refine Dq 17 true ?_
      simp[F]
      refine Dd ?_
      rw[aH]
      exact leaf _ _ ga gb gc hga hgb hgc (by simp[F]) rfl (by simp[S]) (by intro x y hx;simp only[B,aA] at hx ⊢;grind)
     ·simp[F]
      refine Dw 11 14 true true ?_ ?_
      ·simp[F]
       refine⟨by omega,by unfold maxLen;omega,?_⟩
       intro gc hgc
       intros
       have F:=an (ad (ad (ad (ad F (show ¬gc=gr by assumption)) (show ¬gc=gp by assumption)) (show ¬gc=ga by assumption)) (show ¬gc=gb by assumption)) (show bl gc=none by assumption)
       refine Dq 14 true ?_
       simp[F]
       refine Dq 15 true ?_
       simp[F]
       refine Dq 16 true ?_
       simp[F]
       refine Dq 17 true ?_
       simp[F]
       refine Dd ?_
       rw[aH]
       exact leaf _ _ ga gb gc hga hgb hgc (by simp[F]) rfl (by simp[S]) (by intro x y hx;simp only[B,aA] at hx ⊢;grind)
      ·simp[F]
       refine Dw 11 15 true true ?_ ?_
       ·simp[F]
        refine⟨by omega,by unfold maxLen;omega,?_⟩
        intro gc hgc
        intros
        have F:=an (ad (ad (ad (ad F (show ¬gc=gr by assumption)) (show ¬gc=gp by assumption)) (show ¬gc=ga by assumption)) (show ¬gc=gb by assumption)) (show bl gc=none by assumption)
        refine Dq 15 true ?_
        simp[F]
        refine Dq 16 true ?_
        simp[F]
        refine Dq 17 true ?_
        simp[F]
        refine Dd ?_
        rw[aH]
        exact leaf _ _ ga gb gc hga hgb hgc (by simp[F]) rfl (by simp[S]) (by intro x y hx;simp only[B,aA] at hx ⊢;grind)
       ·simp[F]
        refine Dq 11 true ?_
        simp[F]
        refine⟨by omega,by unfold maxLen;omega,?_⟩
        intro gc hgc
        intros
        have F:=an (ad (ad (ad (ad F (show ¬gc=gr by assumption)) (show ¬gc=gp by assumption)) (show ¬gc=ga by assumption)) (show ¬gc=gb by assumption)) (show bl gc=none by assumption)
        refine Dq 16 true ?_
        simp[F]
        refine Dq 17 true ?_
        simp[F]
        refine Dd ?_
        rw[aH]
        exact leaf _ _ ga gb gc hga hgb hgc (by simp[F]) rfl (by simp[S]) (by intro x y hx;simp only[B,aA] at hx ⊢;grind)
   ·simp[F]
    refine⟨by omega,by unfold maxLen;omega,?_⟩
    intro gc hgc
    intros
    have F:=an (ad (ad (ad F (show ¬gc=gr by assumption)) (show ¬gc=gp by assumption)) (show ¬gc=ga by assumption)) (show bl gc=none by assumption)
    refine⟨by simp[F],?_⟩
    refine Dw 8 12 false true ?_ ?_
    ·simp[F]
     refine⟨by omega,by unfold maxLen;omega,?_⟩
     intro gb hgb
     intros
     have F:=an (ad (ad (ad (ad F (show ¬gb=gr by assumption)) (show ¬gb=gp by assumption)) (show ¬gb=ga by assumption)) (show ¬gb=gc by assumption)) (show bl gb=none by assumption)
     refine⟨by simp[F],?_⟩
     refine Dq 12 true ?_
     simp[F]
     refine Dq 13 true ?_
     simp[F]
     refine Dq 14 true ?_
     simp[F]
     refine Dq 15 true ?_
     simp[F]
     refine Dq 16 true ?_
     simp[F]
     refine Dq 17 true ?_
     simp[F]
     refine Dd ?_
     rw[aH]
     exact leaf _ _ ga gb gc hga hgb hgc (by simp[F]) rfl (by simp[S]) (by intro x y hx;simp only[B,aA] at hx ⊢;grind)
    ·simp[F]
     refine Dw 8 13 true true ?_ ?_
     ·simp[F]
      refine⟨by omega,by unfold maxLen;omega,?_⟩
      intro gb hgb
      intros
      have F:=an (ad (ad (ad (ad F (show ¬gb=gr by assumption)) (show ¬gb=gp by assumption)) (show ¬gb=ga by assumption)) (show ¬gb=gc by assumption)) (show bl gb=none by assumption)
      refine Dq 13 true ?_
      simp[F]
      refine Dq 14 true ?_
      simp[F]
      refine Dq 15 true ?_
      simp[F]
      refine Dq 16 true ?_
      simp[F]
      refine Dq 17 true ?_
      simp[F]
      refine Dd ?_
      rw[aH]
      exact leaf _ _ ga gb gc hga hgb hgc (by simp[F]) rfl (by simp[S]) (by intro x y hx;simp only[B,aA] at hx ⊢;grind)
     ·simp[F]
      refine Dq 8 true ?_
      simp[F]
      refine⟨by omega,by unfold maxLen;omega,?_⟩
      intro gb hgb
      intros
      have F:=an (ad (ad (ad (ad F (show ¬gb=gr by assumption)) (show ¬gb=gp by assumption)) (show ¬gb=ga by assumption)) (show ¬gb=gc by assumption)) (show bl gb=none by assumption)
      refine Dq 14 true ?_
      simp[F]
      refine Dq 15 true ?_
      simp[F]
      refine Dq 16 true ?_
      simp[F]
      refine Dq 17 true ?_
      simp[F]
      refine Dd ?_
      rw[aH]
      exact leaf _ _ ga gb gc hga hgb hgc (by simp[F]) rfl (by simp[S]) (by intro x y hx;simp only[B,aA] at hx ⊢;grind)
   ·simp[F]
    refine uY (i:=8) (j:=11) (m:=13) true true true (by kernel_rfl) rfl rfl (by kernel_rfl) rfl rfl (by kernel_rfl) rfl rfl (by kernel_rfl) ?_ ?_ ?_
    ·simp[F]
     refine⟨by omega,by unfold maxLen;omega,?_⟩
     intro gb hgb
     intros
     have F:=an (ad (ad (ad F (show ¬gb=gr by assumption)) (show ¬gb=gp by assumption)) (show ¬gb=ga by assumption)) (show bl gb=none by assumption)
     refine Dw 11 13 true true ?_ ?_
     ·simp[F]
      refine⟨by omega,by unfold maxLen;omega,?_⟩
      intro gc hgc
      intros
      have F:=an (ad (ad (ad (ad F (show ¬gc=gr by assumption)) (show ¬gc=gp by assumption)) (show ¬gc=ga by assumption)) (show ¬gc=gb by assumption)) (show bl gc=none by assumption)
      refine Dq 13 true ?_
      simp[F]
      refine Dq 14 true ?_
      simp[F]
      refine Dq 15 true ?_
      simp[F]
      refine Dq 16 true ?_
      simp[F]
      refine Dq 17 true ?_
      simp[F]
      refine Dd ?_
      rw[aH]
      exact leaf _ _ ga gb gc hga hgb hgc (by simp[F]) rfl (by simp[S]) (by intro x y hx;simp only[B,aA] at hx ⊢;grind)
     ·simp[F]
      refine Dw 11 14 true true ?_ ?_
      ·simp[F]
       refine⟨by omega,by unfold maxLen;omega,?_⟩
       intro gc hgc
       intros
       have F:=an (ad (ad (ad (ad F (show ¬gc=gr by assumption)) (show ¬gc=gp by assumption)) (show ¬gc=ga by assumption)) (show ¬gc=gb by assumption)) (show bl gc=none by assumption)
       refine Dq 14 true ?_
       simp[F]
       refine Dq 15 true ?_
       simp[F]
       refine Dq 16 true ?_
       simp[F]
       refine Dq 17 true ?_
       simp[F]
       refine Dd ?_
       rw[aH]
       exact leaf _ _ ga gb gc hga hgb hgc (by simp[F]) rfl (by simp[S]) (by intro x y hx;simp only[B,aA] at hx ⊢;grind)
      ·simp[F]
       refine Dw 11 15 true true ?_ ?_
       ·simp[F]
        refine⟨by omega,by unfold maxLen;omega,?_⟩
        intro gc hgc
        intros
        have F:=an (ad (ad (ad (ad F (show ¬gc=gr by assumption)) (show ¬gc=gp by assumption)) (show ¬gc=ga by assumption)) (show ¬gc=gb by assumption)) (show bl gc=none by assumption)
        refine Dq 15 true ?_
        simp[F]
        refine Dq 16 true ?_
        simp[F]
        refine Dq 17 true ?_
        simp[F]
        refine Dd ?_
        rw[aH]
        exact leaf _ _ ga gb gc hga hgb hgc (by simp[F]) rfl (by simp[S]) (by intro x y hx;simp only[B,aA] at hx ⊢;grind)
       ·simp[F]
        refine Dq 11 true ?_
        simp[F]
        refine⟨by omega,by unfold maxLen;omega,?_⟩
        intro gc hgc
        intros
        have F:=an (ad (ad (ad (ad F (show ¬gc=gr by assumption)) (show ¬gc=gp by assumption)) (show ¬gc=ga by assumption)) (show ¬gc=gb by assumption)) (show bl gc=none by assumption)
        refine Dq 16 true ?_
        simp[F]
        refine Dq 17 true ?_
        simp[F]
        refine Dd ?_
        rw[aH]
        exact leaf _ _ ga gb gc hga hgb hgc (by simp[F]) rfl (by simp[S]) (by intro x y hx;simp only[B,aA] at hx ⊢;grind)
    ·simp[F]
     refine⟨by omega,by unfold maxLen;omega,?_⟩
     intro gc hgc
     intros
     have F:=an (ad (ad (ad F (show ¬gc=gr by assumption)) (show ¬gc=gp by assumption)) (show ¬gc=ga by assumption)) (show bl gc=none by assumption)
     refine Dw 8 13 true true ?_ ?_
     ·simp[F]
      refine⟨by omega,by unfold maxLen;omega,?_⟩
      intro gb hgb
      intros
      have F:=an (ad (ad (ad (ad F (show ¬gb=gr by assumption)) (show ¬gb=gp by assumption)) (show ¬gb=ga by assumption)) (show ¬gb=gc by assumption)) (show bl gb=none by assumption)
      refine Dq 13 true ?_
      simp[F]
      refine Dq 14 true ?_
      simp[F]
      refine Dq 15 true ?_
      simp[F]
      refine Dq 16 true ?_
      simp[F]
      refine Dq 17 true ?_
      simp[F]
      refine Dd ?_
      rw[aH]
      exact leaf _ _ ga gb gc hga hgb hgc (by simp[F]) rfl (by simp[S]) (by intro x y hx;simp only[B,aA] at hx ⊢;grind)
     ·simp[F]
      refine Dq 8 true ?_
      simp[F]
      refine⟨by omega,by unfold maxLen;omega,?_⟩
      intro gb hgb
      intros
      have F:=an (ad (ad (ad (ad F (show ¬gb=gr by assumption)) (show ¬gb=gp by assumption)) (show ¬gb=ga by assumption)) (show ¬gb=gc by assumption)) (show bl gb=none by assumption)
      refine Dq 14 true ?_
      simp[F]
      refine Dq 15 true ?_
      simp[F]
      refine Dq 16 true ?_
      simp[F]
      refine Dq 17 true ?_
      simp[F]
      refine Dd ?_
      rw[aH]
      exact leaf _ _ ga gb gc hga hgb hgc (by simp[F]) rfl (by simp[S]) (by intro x y hx;simp only[B,aA] at hx ⊢;grind)
    ·simp[F]
     refine Dw 8 11 true true ?_ ?_
     ·simp[F]
      refine⟨by omega,by unfold maxLen;omega,?_⟩
      intro gb hgb
      intros
      have F:=an (ad (ad (ad F (show ¬gb=gr by assumption)) (show ¬gb=gp by assumption)) (show ¬gb=ga by assumption)) (show bl gb=none by assumption)
      refine Dw 11 14 true true ?_ ?_
      ·simp[F]
       refine⟨by omega,by unfold maxLen;omega,?_⟩
       intro gc hgc
       intros
       have F:=an (ad (ad (ad (ad F (show ¬gc=gr by assumption)) (show ¬gc=gp by assumption)) (show ¬gc=ga by assumption)) (show ¬gc=gb by assumption)) (show bl gc=none by assumption)
       refine Dq 14 true ?_
       simp[F]
       refine Dq 15 true ?_
       simp[F]
       refine Dq 16 true ?_
       simp[F]
       refine Dq 17 true ?_
       simp[F]
       refine Dd ?_
       rw[aH]
       exact leaf _ _ ga gb gc hga hgb hgc (by simp[F]) rfl (by simp[S]) (by intro x y hx;simp only[B,aA] at hx ⊢;grind)
      ·simp[F]
       refine Dw 11 15 true true ?_ ?_
       ·simp[F]
        refine⟨by omega,by unfold maxLen;omega,?_⟩
        intro gc hgc
        intros
        have F:=an (ad (ad (ad (ad F (show ¬gc=gr by assumption)) (show ¬gc=gp by assumption)) (show ¬gc=ga by assumption)) (show ¬gc=gb by assumption)) (show bl gc=none by assumption)
        refine Dq 15 true ?_
        simp[F]
        refine Dq 16 true ?_
        simp[F]
        refine Dq 17 true ?_
        simp[F]
        refine Dd ?_
        rw[aH]
        exact leaf _ _ ga gb gc hga hgb hgc (by simp[F]) rfl (by simp[S]) (by intro x y hx;simp only[B,aA] at hx ⊢;grind)
       ·simp[F]
        refine Dq 11 true ?_
        simp[F]
        refine⟨by omega,by unfold maxLen;omega,?_⟩
        intro gc hgc
        intros
        have F:=an (ad (ad (ad (ad F (show ¬gc=gr by assumption)) (show ¬gc=gp by assumption)) (show ¬gc=ga by assumption)) (show ¬gc=gb by assumption)) (show bl gc=none by assumption)
        refine Dq 16 true ?_
        simp[F]
        refine Dq 17 true ?_
        simp[F]
        refine Dd ?_
        rw[aH]
        exact leaf _ _ ga gb gc hga hgb hgc (by simp[F]) rfl (by simp[S]) (by intro x y hx;simp only[B,aA] at hx ⊢;grind)
     ·simp[F]
      refine⟨by omega,by unfold maxLen;omega,?_⟩
      intro gc hgc
      intros
      have F:=an (ad (ad (ad F (show ¬gc=gr by assumption)) (show ¬gc=gp by assumption)) (show ¬gc=ga by assumption)) (show bl gc=none by assumption)
      refine Dq 8 true ?_
      simp[F]
      refine⟨by omega,by unfold maxLen;omega,?_⟩
      intro gb hgb
      intros
      have F:=an (ad (ad (ad (ad F (show ¬gb=gr by assumption)) (show ¬gb=gp by assumption)) (show ¬gb=ga by assumption)) (show ¬gb=gc by assumption)) (show bl gb=none by assumption)
      refine Dq 14 true ?_
      simp[F]
      refine Dq 15 true ?_
      simp[F]
      refine Dq 16 true ?_
      simp[F]
      refine Dq 17 true ?_
      simp[F]
      refine Dd ?_
      rw[aH]
      exact leaf _ _ ga gb gc hga hgb hgc (by simp[F]) rfl (by simp[S]) (by intro x y hx;simp only[B,aA] at hx ⊢;grind)
  ·simp[F]
   refine⟨by omega,by unfold maxLen;omega,?_⟩
   intro gb hgb
   intros
   have F:=an (ad (ad F (show ¬gb=gr by assumption)) (show ¬gb=gp by assumption)) (show bl gb=none by assumption)
   refine⟨by simp[F],?_⟩
   refine Dw 5 11 false false ?_ ?_
   ·simp[F]
    refine⟨by omega,by unfold maxLen;omega,?_⟩
    intro ga hga
    intros
    have F:=an (ad (ad (ad F (show ¬ga=gr by assumption)) (show ¬ga=gp by assumption)) (show ¬ga=gb by assumption)) (show bl ga=none by assumption)
    refine⟨by simp[F],?_⟩
    refine Dw 11 12 false true ?_ ?_
    ·simp[F]
     refine⟨by omega,by unfold maxLen;omega,?_⟩
     intro gc hgc
     intros
     have F:=an (ad (ad (ad (ad F (show ¬gc=gr by assumption)) (show ¬gc=gp by assumption)) (show ¬gc=gb by assumption)) (show ¬gc=ga by assumption)) (show bl gc=none by assumption)
     refine⟨by simp[F],?_⟩
     refine Dq 12 true ?_
     simp[F]
     refine Dq 13 true ?_
     simp[F]
     refine Dq 14 true ?_
     simp[F]
     refine Dq 15 true ?_
     simp[F]
     refine Dq 16 true ?_
     simp[F]
     refine Dq 17 true ?_
     simp[F]
     refine Dd ?_
     rw[aH]
     exact leaf _ _ ga gb gc hga hgb hgc (by simp[F]) rfl (by simp[S]) (by intro x y hx;simp only[B,aA] at hx ⊢;grind)
    ·simp[F]
     refine Dw 11 13 true true ?_ ?_
     ·simp[F]
      refine⟨by omega,by unfold maxLen;omega,?_⟩
      intro gc hgc
      intros
      have F:=an (ad (ad (ad (ad F (show ¬gc=gr by assumption)) (show ¬gc=gp by assumption)) (show ¬gc=gb by assumption)) (show ¬gc=ga by assumption)) (show bl gc=none by assumption)
      refine Dq 13 true ?_
      simp[F]
      refine Dq 14 true ?_
      simp[F]
      refine Dq 15 true ?_
      simp[F]
      refine Dq 16 true ?_
      simp[F]
      refine Dq 17 true ?_
      simp[F]
      refine Dd ?_
      rw[aH]
      exact leaf _ _ ga gb gc hga hgb hgc (by simp[F]) rfl (by simp[S]) (by intro x y hx;simp only[B,aA] at hx ⊢;grind)
     ·simp[F]
      refine Dw 11 14 true true ?_ ?_
      ·simp[F]
       refine⟨by omega,by unfold maxLen;omega,?_⟩
       intro gc hgc
       intros
       have F:=an (ad (ad (ad (ad F (show ¬gc=gr by assumption)) (show ¬gc=gp by assumption)) (show ¬gc=gb by assumption)) (show ¬gc=ga by assumption)) (show bl gc=none by assumption)
       refine Dq 14 true ?_
       simp[F]
       refine Dq 15 true ?_
       simp[F]
       refine Dq 16 true ?_
       simp[F]
       refine Dq 17 true ?_
       simp[F]
       refine Dd ?_
       rw[aH]
       exact leaf _ _ ga gb gc hga hgb hgc (by simp[F]) rfl (by simp[S]) (by intro x y hx;simp only[B,aA] at hx ⊢;grind)
      ·simp[F]
       refine Dw 11 15 true true ?_ ?_
       ·simp[F]
        refine⟨by omega,by unfold maxLen;omega,?_⟩
        intro gc hgc
        intros
        have F:=an (ad (ad (ad (ad F (show ¬gc=gr by assumption)) (show ¬gc=gp by assumption)) (show ¬gc=gb by assumption)) (show ¬gc=ga by assumption)) (show bl gc=none by assumption)
        refine Dq 15 true ?_
        simp[F]
        refine Dq 16 true ?_
        simp[F]
        refine Dq 17 true ?_
        simp[F]
        refine Dd ?_
        rw[aH]
        exact leaf _ _ ga gb gc hga hgb hgc (by simp[F]) rfl (by simp[S]) (by intro x y hx;simp only[B,aA] at hx ⊢;grind)
       ·simp[F]
        refine Dq 11 true ?_
        simp[F]
        refine⟨by omega,by unfold maxLen;omega,?_⟩
        intro gc hgc
        intros
        have F:=an (ad (ad (ad (ad F (show ¬gc=gr by assumption)) (show ¬gc=gp by assumption)) (show ¬gc=gb by assumption)) (show ¬gc=ga by assumption)) (show bl gc=none by assumption)
        refine Dq 16 true ?_
        simp[F]
        refine Dq 17 true ?_
        simp[F]
        refine Dd ?_
        rw[aH]
        exact leaf _ _ ga gb gc hga hgb hgc (by simp[F]) rfl (by simp[S]) (by intro x y hx;simp only[B,aA] at hx ⊢;grind)
   ·simp[F]
    refine⟨by omega,by unfold maxLen;omega,?_⟩
    intro gc hgc
    intros
    have F:=an (ad (ad (ad F (show ¬gc=gr by assumption)) (show ¬gc=gp by assumption)) (show ¬gc=gb by assumption)) (show bl gc=none by assumption)
    refine⟨by simp[F],?_⟩
    refine Dq 5 false ?_
    simp[F]
    refine⟨by omega,by unfold maxLen;omega,?_⟩
    intro ga hga
    intros
    have F:=an (ad (ad (ad (ad F (show ¬ga=gr by assumption)) (show ¬ga=gp by assumption)) (show ¬ga=gb by assumption)) (show ¬ga=gc by assumption)) (show bl ga=none by assumption)
    refine⟨by simp[F],?_⟩
    refine Dq 12 true ?_
    simp[F]
    refine Dq 13 true ?_
    simp[F]
    refine Dq 14 true ?_
    simp[F]
    refine Dq 15 true ?_
    simp[F]
    refine Dq 16 true ?_
    simp[F]
    refine Dq 17 true ?_
    simp[F]
    refine Dd ?_
    rw[aH]
    exact leaf _ _ ga gb gc hga hgb hgc (by simp[F]) rfl (by simp[S]) (by intro x y hx;simp only[B,aA] at hx ⊢;grind)
  ·simp[F]
   refine⟨by omega,by unfold maxLen;omega,?_⟩
   intro gc hgc
   intros
   have F:=an (ad (ad F (show ¬gc=gr by assumption)) (show ¬gc=gp by assumption)) (show bl gc=none by assumption)
   refine⟨by simp[F],?_⟩
   refine Dw 5 8 false false ?_ ?_
   ·simp[F]
    refine⟨by omega,by unfold maxLen;omega,?_⟩
    intro ga hga
    intros
    have F:=an (ad (ad (ad F (show ¬ga=gr by assumption)) (show ¬ga=gp by assumption)) (show ¬ga=gc by assumption)) (show bl ga=none by assumption)
    refine⟨by simp[F],?_⟩
    refine Dw 8 12 false true ?_ ?_
    ·simp[F]
     refine⟨by omega,by unfold maxLen;omega,?_⟩
     intro gb hgb
     intros
     have F:=an (ad (ad (ad (ad F (show ¬gb=gr by assumption)) (show ¬gb=gp by assumption)) (show ¬gb=gc by assumption)) (show ¬gb=ga by assumption)) (show bl gb=none by assumption)
     refine⟨by simp[F],?_⟩
     refine Dq 12 true ?_
     simp[F]
     refine Dq 13 true ?_
     simp[F]
     refine Dq 14 true ?_
     simp[F]
     refine Dq 15 true ?_
     simp[F]
     refine Dq 16 true ?_
     simp[F]
     refine Dq 17 true ?_
     simp[F]
     refine Dd ?_
     rw[aH]
     exact leaf _ _ ga gb gc hga hgb hgc (by simp[F]) rfl (by simp[S]) (by intro x y hx;simp only[B,aA] at hx ⊢;grind)
    ·simp[F]
     refine Dw 8 13 true true ?_ ?_
     ·simp[F]
      refine⟨by omega,by unfold maxLen;omega,?_⟩
      intro gb hgb
      intros
      have F:=an (ad (ad (ad (ad F (show ¬gb=gr by assumption)) (show ¬gb=gp by assumption)) (show ¬gb=gc by assumption)) (show ¬gb=ga by assumption)) (show bl gb=none by assumption)
      refine Dq 13 true ?_
      simp[F]
      refine Dq 14 true ?_
      simp[F]
      refine Dq 15 true ?_
      simp[F]
      refine Dq 16 true ?_
      simp[F]
      refine Dq 17 true ?_
      simp[F]
      refine Dd ?_
      rw[aH]
      exact leaf _ _ ga gb gc hga hgb hgc (by simp[F]) rfl (by simp[S]) (by intro x y hx;simp only[B,aA] at hx ⊢;grind)
     ·simp[F]
      refine Dq 8 true ?_
      simp[F]
      refine⟨by omega,by unfold maxLen;omega,?_⟩
      intro gb hgb
      intros
      have F:=an (ad (ad (ad (ad F (show ¬gb=gr by assumption)) (show ¬gb=gp by assumption)) (show ¬gb=gc by assumption)) (show ¬gb=ga by assumption)) (show bl gb=none by assumption)
      refine Dq 14 true ?_
      simp[F]
      refine Dq 15 true ?_
      simp[F]
      refine Dq 16 true ?_
      simp[F]
      refine Dq 17 true ?_
      simp[F]
      refine Dd ?_
      rw[aH]
      exact leaf _ _ ga gb gc hga hgb hgc (by simp[F]) rfl (by simp[S]) (by intro x y hx;simp only[B,aA] at hx ⊢;grind)
   ·simp[F]
    refine⟨by omega,by unfold maxLen;omega,?_⟩
    intro gb hgb
    intros
    have F:=an (ad (ad (ad F (show ¬gb=gr by assumption)) (show ¬gb=gp by assumption)) (show ¬gb=gc by assumption)) (show bl gb=none by assumption)
    refine⟨by simp[F],?_⟩
    refine Dq 5 false ?_
    simp[F]
    refine⟨by omega,by unfold maxLen;omega,?_⟩
    intro ga hga
    intros
    have F:=an (ad (ad (ad (ad F (show ¬ga=gr by assumption)) (show ¬ga=gp by assumption)) (show ¬ga=gc by assumption)) (show ¬ga=gb by assumption)) (show bl ga=none by assumption)
    refine⟨by simp[F],?_⟩
    refine Dq 12 true ?_
    simp[F]
    refine Dq 13 true ?_
    simp[F]
    refine Dq 14 true ?_
    simp[F]
    refine Dq 15 true ?_
    simp[F]
    refine Dq 16 true ?_
    simp[F]
    refine Dq 17 true ?_
    simp[F]
    refine Dd ?_
    rw[aH]
    exact leaf _ _ ga gb gc hga hgb hgc (by simp[F]) rfl (by simp[S]) (by intro x y hx;simp only[B,aA] at hx ⊢;grind)
 rintro⟨ga,gb,gc⟩ ⟨a0,b0,c0,ba,ca,cb,ar,ap,br,bp,cr,cp,fa,fb,fc⟩
 simp only at a0 b0 c0 ba ca cb ar ap br bp cr cp fa fb fc
 simp only[S,B]
 clear leaf S B
 obtain⟨BB,hBB⟩: ∃BB:List (List V)→List (List V)→Int→Option Blk,BB=fun ea eb=>upd (upd (upd (upd (upd bl gr (some ⟨5,[[.int .i64 0,.int .i64 0,.nils,.nils,.nils]]⟩)) gp (some ⟨5,[[.int .i64 (nR s),.int .i64 (nC s),.lsl ga 1 0 nA,.lsl gb 1 0 (nR s),.lsl gc 1 0 (nC s)]]⟩)) ga (some ⟨1,ea⟩)) gb (some ⟨1,eb⟩)) gc (some ⟨1,List.replicate (nC s) [.int .i64 0]⟩):=⟨_,rfl⟩
 have hBr: ∀ea eb,BB ea eb gr=some ⟨5,[[.int .i64 0,.int .i64 0,.nils,.nils,.nils]]⟩:=fun ea eb=>by rw[hBB];simp[hpr,Ne.symm hpr,ar,br,cr,Ne.symm ar,Ne.symm br,Ne.symm cr]
 have hBp: ∀ea eb,BB ea eb gp=some ⟨5,[[.int .i64 (nR s),.int .i64 (nC s),.lsl ga 1 0 nA,.lsl gb 1 0 (nR s),.lsl gc 1 0 (nC s)]]⟩:=fun ea eb=>by rw[hBB];simp[ap,bp,cp,Ne.symm ap,Ne.symm bp,Ne.symm cp]
 have hBa: ∀ea eb,BB ea eb ga=some ⟨1,ea⟩:=fun ea eb=>by rw[hBB];simp[ba,ca,Ne.symm ba,Ne.symm ca]
 have hBb: ∀ea eb,BB ea eb gb=some ⟨1,eb⟩:=fun ea eb=>by rw[hBB];simp[cb,Ne.symm cb]
 have hBc: ∀ea eb,BB ea eb gc=some ⟨1,List.replicate (nC s) [.int .i64 0]⟩:=fun ea eb=>by rw[hBB];simp
 have hBs: ∀ea eb,Sub bl (BB ea eb):=fun ea eb=>by rw[hBB];simp[hbr,hbp,fa,fb,fc]
 have aLD: ∀ea eb e,upd (BB ea eb) ga (some ⟨1,e⟩)=BB e eb:=fun ea eb e=>by
  rw[hBB];funext x;simp only[aA];grind
 have aKK: ∀ea eb e,upd (BB ea eb) gb (some ⟨1,e⟩)=BB ea e:=fun ea eb e=>by
  rw[hBB];funext x;simp only[aA];grind
 have hB0:upd (upd (upd (upd (upd bl gr (some ⟨5,[[.int .i64 0,.int .i64 0,.nils,.nils,.nils]]⟩)) gp (some ⟨5,[[.int .i64 (nR s),.int .i64 (nC s),.lsl ga 1 0 nA,.lsl gb 1 0 (nR s),.lsl gc 1 0 (nC s)]]⟩)) ga (some ⟨1,List.replicate nA [.int .i64 0]⟩)) gb (some ⟨1,List.replicate (nR s) [.int .i64 0]⟩)) gc (some ⟨1,List.replicate (nC s) [.int .i64 0]⟩)=BB (part (iv (aTo s nA)) [.int .i64 0] 0) (part (iv (right s l)) [.int .i64 0] 0):=by
  rw[hBB];simp[eW]
 rw[hB0]
 clear hB0 hBB
 refine aC ?_
 simp[er]
 refine aJ (fun i:Nat=> [(0,.ptr s.c),(1,.sl (iv l)),(8,.loc gr 5 0 0),(10,.sl (cv (aS s.ms))),(11,.loc gp 5 0 0),(46,.sl (ivv (gJ s))),(47,.int .i64 (nR s)),(48,.int .i64 i)]) (fun i=>BB (part (iv (aTo s nA)) [.int .i64 0] (i*nC s)) (part (iv (right s l)) [.int .i64 0] 0)) (fun i=>i≤nR s) (fun i=>nR s - i) 113 0 (Nat.zero_le _) ⟨rfl,by simp,sub_eq (by simp)⟩ ?_
 intro i hi
 refine aC ?_
 simp
 refine⟨fun h=> ?_,fun h=> ?_⟩
 ·have hie:i<(gJ s).length:=by omega
  simp[hie]
  obtain⟨row,Jv⟩: ∃r,(gJ s)[i]=r:=⟨_,rfl⟩
  have aWU:row.length=s.ms.length:=sT s row (Jv▸List.getElem_mem hie)
  rw[Jv]
  refine aJ (fun c:Nat=> [(0,.ptr s.c),(1,.sl (iv l)),(8,.loc gr 5 0 0),(10,.sl (cv (aS s.ms))),(11,.loc gp 5 0 0),(12,.int .i64 i),(13,.sl (iv row)),(46,.sl (ivv (gJ s))),(47,.int .i64 (nR s)),(48,.int .i64 i),(53,.sl (cv (aS s.ms))),(54,.int .i64 (nC s)),(55,.int .i64 c)]) (fun c=>BB (part (iv (aTo s nA)) [.int .i64 0] (i*nC s+c)) (part (iv (right s l)) [.int .i64 0] 0)) (fun c=>c≤nC s) (fun c=>nC s - c) 113 0 (Nat.zero_le _) ⟨rfl,by simp[ec],sub_eq (by simp)⟩ ?_
  intro c hc
  refine aC ?_
  simp
  refine⟨fun hcl=> ?_,fun hcl=> ?_⟩
  ·have hcc:c<(aS s.ms).length:=hcl
   obtain⟨⟨k0,k1⟩,k2⟩:=nX s c hcl
   have qc:(cv (aS s.ms))[c]? =some [.int .i64 (dJ s c).1,.int .i64 (dJ s c).2]:=by simp[cv,dJ,hcc]
   simp[qc]
   intro g1 hg1 hb1
   have n1p:g1≠gp:=fun e=>by rw[e,hBp] at hb1;cases hb1
   have n1a:g1≠ga:=fun e=>by rw[e,hBa] at hb1;cases hb1
   have f1:=aR (hBs _ _) hb1
   obtain⟨⟨k,sg⟩,hk⟩: ∃k,dJ s c=k:=⟨_,rfl⟩
   rw[hk] at k0 k1 k2 ⊢
   simp only at k0 k1 k2 ⊢
   have en:ent s i c=sg*lat row k.toNat:=by
    unfold ent
    rw[hk,A4,P3 _ (sT s) i k.toNat hie (by omega),Jv]
   have bd: -100≤lat row k.toNat∧lat row k.toNat≤100:=by
    rw[←Jv,←P3 _ (sT s) i k.toNat hie (by omega),←A4];exact G4 hs _
   have qr:(iv row)[k.toNat]? =some [.int .i64 (lat row k.toNat)]:=xJ (by omega)
   have w6:IntKind.i64.wrap (sg*lat row k.toNat)=ent s i c:=by
    rw[en];rcases k2 with rfl | rfl<;>exact i64_in (by omega) (by omega)
   have mc:(i+1)*nC s≤nA:=by rw[hA];exact Nat.mul_le_mul_right _ h
   rw[Nat.add_mul] at mc
   have mi:((i*nC s:Nat):Int)=(i:Int)*nC s:=by simp
   have w4:IntKind.i64.wrap ((i:Int)*nC s)=(i:Int)*nC s:=i64_in (by omega) (by omega)
   have w5:IntKind.i64.wrap ((i:Int)*nC s+c)=(i:Int)*nC s+c:=i64_in (by omega) (by omega)
   have w7:IntKind.i64.wrap ((c:Int)+1)=c+1:=i64_in (by omega) (by omega)
   have e1:((i:Int)*nC s+c).toNat=i*nC s+c:=by omega
   have p1:0≤(i:Int)*nC s+c:=by omega
   have p2:(i:Int)*nC s+c<nA:=by omega
   have p3:k<row.length:=by omega
   have hlt:i*nC s+c<(iv (aTo s nA)).length:=by simp;omega
   have ps:=cI (iv (aTo s nA)) [.int .i64 0] (i*nC s+c) hlt [.int .i64 (ent s i c)] (by
    rw[aBP s nA _ (by omega),Nat.mul_comm i,Nat.mul_add_div (by omega),Nat.mul_add_mod,Nat.div_eq_of_lt hcl,Nat.mod_eq_of_lt hcl,Nat.add_zero])
   have hK:Sub (upd (upd bl gp (some ⟨5,[[.int .i64 (nR s),.int .i64 (nC s),.lsl ga 1 0 nA,.lsl gb 1 0 (nR s),.lsl gc 1 0 (nC s)]]⟩)) g1 (some ⟨2,[[.int .i64 k,.int .i64 sg]]⟩)) (upd (BB (part (iv (aTo s nA)) [.int .i64 0] (i*nC s+c)) (List.replicate (right s l).length [.int .i64 0])) g1 (some ⟨2,[[.int .i64 k,.int .i64 sg]]⟩)):=by
    refine Bi fun x y hx=> ?_
    rw[aA] at hx
    split at hx
    ·rename_i e;rw[e,hBp];exact hx
    ·exact hBs _ _ x y hx
   have hkr:k.toNat<row.length:=by omega
   have er2:row[k.toNat]'hkr=lat row k.toNat:=by simp[lat,hkr]
   refine aY aM _ hK [0,1,2,3,4,5,6,7,8,9,10,11,12,13,14,15,16] 1 (by kernel_rfl) ?_
   simp[-eK,n1p,Ne.symm n1p,w4,w5,w6,qr,k0,p1,p2,p3,er2]
   refine Dz 17 ?_
   have pg:=dW (iv (aTo s nA)) [.int .i64 0] (i*nC s+c) hlt
   simp[n1a,Ne.symm n1a,hBa,e1,pg,ps,er2,w6]
   have hK2: ∀z,Sub (upd (upd bl gp (some ⟨5,[[.int .i64 (nR s),.int .i64 (nC s),.lsl ga 1 0 nA,.lsl gb 1 0 (nR s),.lsl gc 1 0 (nC s)]]⟩)) g1 (some ⟨2,[[.int .i64 k,.int .i64 sg]]⟩)) (upd (upd (BB (part (iv (aTo s nA)) [.int .i64 0] (i*nC s+c)) (List.replicate (right s l).length [.int .i64 0])) g1 (some ⟨2,[[.int .i64 k,.int .i64 sg]]⟩)) ga z):=by
    intro z x y hx
    have hxa:x≠ga:=fun e=>by
     rw[e,aA,if_neg (Ne.symm n1a),aA,if_neg ap,fa] at hx;cases hx
    rw[aA,if_neg hxa]
    exact hK x y hx
   refine⟨hK2 _,Dy ?_⟩
   simp[w7,aB]
   refine⟨c+1,by omega,by omega,rfl,by simp,?_⟩
   intro x y hx
   show upd (upd (BB _ _) g1 _) ga _ x=some y
   rw[aA,aA]
   split
   ·rename_i e;rw[e,hBa] at hx;exact hx
   ·rename_i e
    rw[if_neg (fun e=>by rw[e] at hx;rw[←aLD (part (iv (aTo s nA)) [.int .i64 0] (i*nC s+c)),aA,if_neg n1a,hb1] at hx;cases hx)]
    rw[←aLD (part (iv (aTo s nA)) [.int .i64 0] (i*nC s+c)),aA,if_neg e] at hx
    exact hx
  ·have:c=nC s:=by omega
   subst this
   have w7:IntKind.i64.wrap ((i:Int)+1)=i+1:=i64_in (by omega) (by omega)
   simp[w7,aB]
   exact⟨i+1,by omega,by omega,rfl,by simp,sub_eq (by rw[Nat.add_mul,Nat.one_mul])⟩
 ·have:i=nR s:=by omega
  subst this
  rw[←hA,fD _ _ _ (by simp)]
  refine aD (sH s (by omega)) ?_
  simp
  refine aJ (fun i:Nat=> [(1,.sl (iv l)),(8,.loc gr 5 0 0),(11,.loc gp 5 0 0),(80,.sl (iv (aQ s.js))),(81,.int .i64 (aQ s.js).length),(82,.int .i64 i)]) (fun i=>BB (iv (aTo s nA)) (part (iv (right s l)) [.int .i64 0] (2*i))) (fun i=>i≤(aQ s.js).length) (fun i=>(aQ s.js).length - i) 113 0 (Nat.zero_le _) ⟨rfl,by simp,sub_eq (by simp)⟩ ?_
  intro i hi
  refine aC ?_
  simp
  refine⟨fun h=> ?_,fun h=> ?_⟩
  ·obtain⟨r1,r2⟩:=xV (List.getElem_mem h)
   have ra:=Y1 s l (aQ s.js) i h
   simp[h]
   obtain⟨j,hj⟩: ∃j,(aQ s.js)[i]=j:=⟨_,rfl⟩
   rw[hj] at r1 r2 ra ⊢
   change lat (right s l) (2*i)=_∧lat (right s l) (2*i+1)=_ at ra
   have a1:(2*j).toNat<l.length:=by rw[hL.n];omega
   have a2:(2*j+1).toNat<l.length:=by rw[hL.n];omega
   have b1:=hL.f _ a1
   have b2:=hL.f _ a2
   have q1:=xJ a1
   have q2:=xJ a2
   have w1:IntKind.i64.wrap (2*j)=2*j:=i64_in (by omega) (by omega)
   have w2:IntKind.i64.wrap (2*j+1)=2*j+1:=i64_in (by omega) (by omega)
   have w3:IntKind.i64.wrap (-lat l (2*j).toNat)=lat (right s l) (2*i):=by rw[ra.1];exact i64_in (by omega) (by omega)
   have w4:IntKind.i64.wrap (-lat l (2*j+1).toNat)=lat (right s l) (2*i+1):=by rw[ra.2];exact i64_in (by omega) (by omega)
   have w5:IntKind.i64.wrap ((i:Int)+1)=i+1:=i64_in (by omega) (by omega)
   have w6:IntKind.i64.wrap (2*(i:Int))=2*i:=i64_in (by omega) (by omega)
   have w7:IntKind.i64.wrap (2*(i:Int)+1)=2*i+1:=i64_in (by omega) (by omega)
   have p1:0≤2*j:=by omega
   have p2:0≤2*j+1:=by omega
   have p3:2*(i:Int)<nR s:=by unfold nR;omega
   have p4:2*(i:Int)+1<nR s:=by unfold nR;omega
   have t1:(2*(i:Int)).toNat=2*i:=by omega
   have t2:(2*(i:Int)+1).toNat=2*i+1:=by omega
   have hl1:2*i<(iv (right s l)).length:=by rw[jZ,eW];omega
   have hl2:2*i+1<(iv (right s l)).length:=by rw[jZ,eW];omega
   have hK:Sub (upd bl gp (some ⟨5,[[.int .i64 (nR s),.int .i64 (nC s),.lsl ga 1 0 nA,.lsl gb 1 0 (nR s),.lsl gc 1 0 (nC s)]]⟩)) (BB (iv (aTo s nA)) (part (iv (right s l)) [.int .i64 0] (2*i))):=by
    intro x y hx
    rw[aA] at hx
    split at hx
    ·rename_i e;rw[e,hBp];exact hx
    ·exact hBs _ _ x y hx
   have hK2: ∀e,Sub (upd bl gp (some ⟨5,[[.int .i64 (nR s),.int .i64 (nC s),.lsl ga 1 0 nA,.lsl gb 1 0 (nR s),.lsl gc 1 0 (nC s)]]⟩)) (BB (iv (aTo s nA)) e):=by
    intro e x y hx
    rw[aA] at hx
    split at hx
    ·rename_i e;rw[e,hBp];exact hx
    ·exact hBs _ _ x y hx
   have g1:=dW (iv (right s l)) [.int .i64 0] (2*i) hl1
   have g2:=dW (iv (right s l)) [.int .i64 0] (2*i+1) hl2
   have s1:=cI (iv (right s l)) [.int .i64 0] (2*i) hl1 [.int .i64 (lat (right s l) (2*i))] (by
    have:=xJ (l:=right s l) (i:=2*i) (by simpa using hl1);rw[List.getElem?_eq_getElem hl1] at this;exact(Option.some.inj this).symm)
   have s2:=cI (iv (right s l)) [.int .i64 0] (2*i+1) hl2 [.int .i64 (lat (right s l) (2*i+1))] (by
    have:=xJ (l:=right s l) (i:=2*i+1) (by simpa using hl2);rw[List.getElem?_eq_getElem hl2] at this;exact(Option.some.inj this).symm)
   refine aY aM _ hK [0,1,2,3,4,5,6,7,8,9,10,11,12,13,14,15,16,17,18,19,20,21,22] 3 (by kernel_rfl) ?_
   have p5:0≤2*(i:Int):=by omega
   have p6:0≤2*(i:Int)+1:=by omega
   simp[-eK,w1,w2,w3,w4,w6,w7,q1,q2,p1,p2,p3,p4,p5,p6]
   refine tZ (i:=23) (by kernel_rfl) (by rfl) (by rfl) ?_
   simp[hBb,t1,g1,s1,aKK]
   refine⟨hK2 _,tZ (i:=24) (by kernel_rfl) (by rfl) (by rfl) ?_⟩
   simp[p4,p6]
   refine⟨hK2 _,tZ (i:=25) (by kernel_rfl) (by rfl) (by rfl) ?_⟩
   simp[hBb,t2,g2,s2,aKK]
   refine⟨hK2 _,Dy ?_⟩
   simp[w5,aB]
   exact⟨i+1,by omega,by omega,rfl,by simp,sub_eq (by rw[Nat.mul_add])⟩
  ·have:i=(aQ s.js).length:=by omega
   subst this
   have bI:part (iv (right s l)) [.int .i64 0] (2*(aQ s.js).length)=iv (right s l):=by
    have e:(iv (right s l)).length=2*(aQ s.js).length:=by rw[jZ,eW];rfl
    rw[←e];exact fD _ _ _ (Nat.le_refl _)
   rw[bI]
   simp[hBp,hBr]
   refine fH [.agg [.int .i64 (nR s),.int .i64 (nC s),.lsl ga 1 0 nA,.lsl gb 1 0 (nR s),.lsl gc 1 0 (nC s)]] [ga,gb,gc] (by simp) ?_ (by simp[fa,fb,fc]) ?_
   ·show OwnD _ (.a _) (.agg _) _
    rw[OwnD]
    refine⟨_,rfl,iU (zL _) (iU (zL _) (iU (g1:= [ga]) (dI.2 (.inr ⟨ga,by simp[cX,hA],rfl,?_,by omega⟩)) (iU (g1:= [gb]) (dI.2 (.inr ⟨gb,by simp[cX,eW],rfl,?_,by omega⟩)) (iU (g1:= [gc]) (dI.2 (.inr ⟨gc,by simp[cX],rfl,?_,by omega⟩)) Uj (by simp)) (by simp[Ne.symm cb])) (by simp[Ne.symm ba,Ne.symm ca])) (by simp)) (by simp)⟩
    ·simp[ar,hBa,cX,hA]
    ·simp[br,hBb,cX]
    ·simp[cr,hBc,cX,iv]
   ·intro x y hx
    have hxr:x≠gr:=fun e=>by rw[e,hbr] at hx;cases hx
    simp[hxr]
    exact hBs _ _ x y hx

theorem Fy {bl:Int→Option Blk} {p:Pg} {v:V} {gs:List Int} :OwnD bl (dPg p) v gs ↔ ∃va vb vc ga gb gc,v= .agg [.int .i64 p.rows,.int .i64 p.aS,va,vb,vc]∧gs=ga++(gb++gc)∧(∀g,g∈ga→g∉gb++gc)∧(∀g,g∈gb→g∉gc)∧
  OwnD bl (fl 1 (iv p.a)) va ga∧OwnD bl (fl 1 (iv p.b)) vb gb∧OwnD bl (fl 1 (iv p.c)) vc gc:=by
 unfold dPg
 rw[OwnD]
 constructor
 ·rintro⟨vs,rfl,h⟩
  rw[OwnL] at h
  obtain⟨v1,vs1,g1,r1,rfl,rfl,_,h1,h⟩:=h
  rw[OwnD] at h1
  obtain⟨rfl,_,rfl⟩:=h1
  rw[OwnL] at h
  obtain⟨v2,vs2,g2,r2,rfl,rfl,_,h2,h⟩:=h
  rw[OwnD] at h2
  obtain⟨rfl,_,rfl⟩:=h2
  rw[OwnL] at h
  obtain⟨va,vs3,ga,r3,rfl,rfl,ha,h3,h⟩:=h
  obtain⟨vb,vc,gb,gc,rfl,rfl,hd,h4,h5⟩:=gS.1 h
  exact⟨va,vb,vc,ga,gb,gc,rfl,rfl,ha,hd,h3,h4,h5⟩
 ·rintro⟨va,vb,vc,ga,gb,gc,rfl,rfl,ha,hb,h1,h2,h3⟩
  refine⟨_,rfl,?_⟩
  show OwnL bl [_,_,_,_,_] [_,_,_,_,_] ([]++([]++(ga++(gb++gc))))
  exact iU (zL _) (iU (zL _) (iU h1 (gS.2 ⟨vb,vc,gb,gc,rfl,rfl,hb,h2,h3⟩) ha) (fun x hx=>by cases hx)) (fun x hx=>by cases hx)
def aU7 :Pg:=⟨0,0,[],[],[]⟩
def aWV (s:Str) (l:List Int):Pg:=if lOk s l=true then cX s l else aU7
def aYF (p q:Pg):Bool:=decide (p.rows=q.rows)&& (decide (p.aS=q.aS)&& (decide (p.a=q.a)&& (decide (p.b=q.b)&& decide (p.c=q.c))))
def mkP (k:Nat) (p:Pg):Pg:=⟨p.rows,p.aS,marks k p.a.length,marks (k+p.a.length:Nat) p.b.length,marks (k+p.a.length+p.b.length:Nat) p.c.length⟩
def aX6 (k:Nat) (p:Pg):Nat:=k+p.a.length+p.b.length+p.c.length
end Go.Proofs.YticmgmemnpcbbaaGreat.Vm

namespace Go.Proofs.YticmgmemnpcbbaaGreat.Vm
set_option linter.unusedSimpArgs false
set_option linter.unusedVariables false
def LB :Nat:=1000000000
theorem iH :0<LB:=by decide
def lim (n:Nat):List Int:=if h:n=0 then [] else((n % LB:Nat):Int)::lim (n / LB)
termination_by n
decreasing_by exact Nat.div_lt_self (Nat.pos_of_ne_zero h) (by decide)
def val :List Int→Nat
 | [] => 0
 | d :: ds => d.toNat + LB * val ds
def Dig (l:List Int):Prop:= ∀d,d∈l→0≤d∧d<1000000000
theorem aW :lim 0= []:=by rw[lim,dif_pos rfl]
theorem pP {n:Nat} (h:n≠0):lim n=((n % LB:Nat):Int)::lim (n / LB):=by rw[lim,dif_neg h]
@[simp] theorem eY (n : Nat) : val (lim n) = n := by
 induction n using Nat.strongRecOn with
 | _ n ih =>
   by_cases h:n=0
   ·subst h;rw[aW];rfl
   ·rw[pP h,val,ih _ (Nat.div_lt_self (Nat.pos_of_ne_zero h) (by decide)),Int.toNat_natCast,Nat.mod_add_div]
theorem gK (n:Nat):Dig (lim n):=by
 induction n using Nat.strongRecOn with
 | _ n ih =>
   by_cases h:n=0
   ·subst h;rw[aW];intro d hd;cases hd
   ·rw[pP h]
    intro d hd
    rcases List.mem_cons.1 hd with rfl | hd
    ·have:n % LB<1000000000:=Nat.mod_lt _ iH
     omega
    ·exact ih _ (Nat.div_lt_self (Nat.pos_of_ne_zero h) (by decide)) d hd
theorem Gw {a b:Nat} (h:lim a=lim b):a=b:=by rw[←eY a,←eY b,h]
@[simp] theorem aBJ {a b : Nat} : lim a = lim b ↔ a = b := ⟨Gw, fun h => by rw [h]⟩
theorem eN {n:Nat} :lim n= [] ↔ n=0:=by rw[←aW,aBJ]
theorem Dig.tail {d:Int} {l:List Int} (h:Dig (d::l)):Dig l:=fun x hx=>h x (List.mem_cons_of_mem _ hx)
theorem Dig.append {a b:List Int} :Dig (a++b) ↔ Dig a∧Dig b:=by
 constructor
 ·intro h;exact⟨fun d hd=>h d (List.mem_append_left _ hd),fun d hd=>h d (List.mem_append_right _ hd)⟩
 ·rintro⟨h1,h2⟩ d hd
  rcases List.mem_append.1 hd with hd | hd
  ·exact h1 d hd
  ·exact h2 d hd
theorem jE (a b:List Int):val (a++b)=val a+LB^a.length*val b:=by
 induction a with
 | nil => simp [val]
 | cons d a ih => rw [List.cons_append, val, ih, val, List.length_cons, Nat.pow_succ, Nat.mul_add, Nat.add_assoc, Nat.mul_comm (LB ^ a.length) LB, Nat.mul_assoc]
theorem D8 {l:List Int} (h:Dig l):val l<LB^l.length:=by
 induction l with
 | nil => simp [val]
 | cons d l ih =>
   have h1:=h d List.mem_cons_self
   have h2:=ih h.tail
   rw[val,List.length_cons,Nat.pow_succ]
   have:LB*(val l+1)≤LB*LB^l.length:=Nat.mul_le_mul_left _ h2
   have h3:d.toNat<LB:=by unfold LB;omega
   rw[Nat.mul_comm (LB^l.length)]
   rw[Nat.mul_add] at this
   omega
theorem S0 {l:List Int} (h:Dig l) (hz: ∀d,l.getLast? =some d→d≠0):lim (val l)=l:=by
 induction l with
 | nil => exact aW
 | cons d l ih =>
   have h1:=h d List.mem_cons_self
   have hd:d.toNat<LB:=by unfold LB;omega
   have e1:(d.toNat+LB*val l) % LB=d.toNat:=by rw[Nat.add_mul_mod_self_left,Nat.mod_eq_of_lt hd]
   have e2:(d.toNat+LB*val l) / LB=val l:=by rw[Nat.add_mul_div_left _ _ iH,Nat.div_eq_of_lt hd,Nat.zero_add]
   have hl:lim (val l)=l:=ih h.tail fun x hx=>hz x (by
    cases l with
    | nil => cases hx
    | cons y l => rw [List.getLast?_cons_cons]; exact hx)
   have hne:d.toNat+LB*val l≠0:=by
    intro h0
    have hv:val l=0:=by
     have:LB*val l=0:=by omega
     rcases Nat.mul_eq_zero.1 this with h | h
     ·exact absurd h (by decide)
     ·exact h
    rw[hv,aW] at hl
    subst hl
    have:d=0:=by omega
    exact hz d rfl this
   rw[val,pP hne,e1,e2,hl]
   congr 1
   omega
theorem Cg (n:Nat) (d:Int) (h:(lim n).getLast? =some d):d≠0:=by
 induction n using Nat.strongRecOn generalizing d with
 | _ n ih =>
   by_cases h0:n=0
   ·subst h0;rw[aW] at h;cases h
   ·rw[pP h0] at h
    have hlt:=Nat.div_lt_self (Nat.pos_of_ne_zero h0) (show 1<LB by decide)
    cases hq:lim (n / LB) with
    | nil =>
      rw[hq] at h
      simp at h
      subst h
      have hq0:=eN.1 hq
      have:=Nat.mod_add_div n LB
      rw[hq0] at this
      omega
    | cons y l =>
      rw[hq,List.getLast?_cons_cons,←hq] at h
      exact ih _ hlt d h
theorem aL {n k:Nat} :(lim n).length≤k ↔ n<LB^k:=by
 constructor
 ·intro h
  have h1:=D8 (gK n)
  rw[eY] at h1
  exact Nat.lt_of_lt_of_le h1 (Nat.pow_le_pow_right iH h)
 ·intro h
  induction k generalizing n with
  | zero => have : n = 0 := by simpa using h
            subst this;rw[aW];simp
  | succ k ih =>
    by_cases h0:n=0
    ·subst h0;rw[aW];simp
    ·rw[pP h0,List.length_cons]
     have:n / LB<LB^k:=by
      rw[Nat.div_lt_iff_lt_mul iH,←Nat.pow_succ];exact h
     have:=ih this
     omega
theorem mZ {a b:Nat} (h:(lim a).length<(lim b).length):a<b:=by
 have h1:a<LB^(lim a).length:=aL.1 (Nat.le_refl _)
 have h2: ¬ b<LB^(lim a).length:=fun hh=>by have:=aL.2 hh;omega
 omega
theorem cD {a b:Nat} (h:a≤b):(lim a).length≤(lim b).length:=by
 rcases Nat.lt_or_ge (lim b).length (lim a).length with hh | hh
 ·have:=mZ hh;omega
 ·exact hh
theorem sN {l:List Int} {n:Nat} (h: ∀i (hi:i<l.length),n≤i→l[i]=0):val (l.take n)=val l:=by
 induction l generalizing n with
 | nil => simp
 | cons d l ih =>
   cases n with
   | zero=>
     have hd:d=0:=by have:=h 0 (by simp) (Nat.le_refl _);simpa using this
     have:=ih (n:=0) fun i hi _=>by have:=h (i+1) (by simpa using hi) (by omega);simpa using this
     simp[val] at this ⊢
     subst hd;rw[←this];simp
   | succ n=>
     rw[List.take_succ_cons,val,val,ih fun i hi hn=>by have:=h (i+1) (by simpa using hi) (by omega);simpa using this]
theorem G9 {l:List Int} (h:Dig l) (n:Nat):Dig (l.take n):=fun d hd=>h d (List.mem_of_mem_take hd)
theorem G6 {l:List Int} {n:Nat} (h:Dig l) (hn:n≤l.length) (hz: ∀i (hi:i<l.length),n≤i→l[i]=0) (hl: ∀i (hi:i<l.length),n=i+1→l[i]≠0):l.take n=lim (val l):=by
 rw[←sN hz,S0 (G9 h n)]
 intro d hd
 rw[List.getLast?_eq_getElem?] at hd
 have hlen:(l.take n).length=n:=by simp;omega
 rw[hlen] at hd
 obtain⟨h1,h2⟩:=List.getElem?_eq_some_iff.1 hd
 rw[hlen] at h1
 rw[List.getElem_take] at h2
 rw[←h2]
 exact hl (n - 1) (by omega) (by omega)

theorem kL {l:List Int} {i:Nat} (h:i<l.length):val (l.take (i+1))=val (l.take i)+LB^i*l[i].toNat:=by
 rw[List.take_add_one,List.getElem?_eq_getElem h,jE]
 have:(l.take i).length=i:=by simp;omega
 rw[this]
 simp[val]
theorem vR : ∀ {a b:List Int} {i:Nat} (ha:Dig a) (hb:Dig b) (hl:a.length=b.length) (hi:i<a.length),(∀j (h1:j<a.length),i<j→a[j]=b[j]'(hl▸h1))→a[i]<b[i]'(hl▸hi)→val a<val b
 | [], b, i, _, _, _, hi, _, _ => by simp at hi
 | x :: a, [], i, _, _, hl, _, _, _ => by simp at hl
 | x :: a, y :: b, 0, ha, hb, hl, _, he, hlt => by
   have hx:=ha x List.mem_cons_self
   have hy:=hb y List.mem_cons_self
   have hab:a=b:=by
    apply List.ext_getElem
    ·simpa using hl
    ·intro j h1 h2
     have:=he (j+1) (by simpa using h1) (by omega)
     simpa using this
   subst hab
   simp at hlt
   simp only[val]
   omega
 | x :: a, y :: b, i + 1, ha, hb, hl, hi, he, hlt => by
   have hx:=ha x List.mem_cons_self
   have hy:=hb y List.mem_cons_self
   have:=vR (a:=a) (b:=b) (i:=i) ha.tail hb.tail (by simpa using hl) (by simpa using hi) (fun j h1 h2=>by have:=he (j+1) (by simpa using h1) (by omega);simpa using this) (by simpa using hlt)
   simp only[val]
   have h2:LB*(val a+1)≤LB*val b:=Nat.mul_le_mul_left _ this
   rw[Nat.mul_add] at h2
   have:LB=1000000000:=rfl
   omega
def jD (a b:Nat):Int:=if a<b then -1 else if a=b then 0 else 1
theorem Mg {o:List Int} {i A S:Nat} {c x:Int} {P:Nat} (hP:P=LB^i) (ho:o.length=i) (hx0:0≤x) (hc:(val o:Int)+c*P=S) (hA:x=c+A):
  (val (o++ [x.tmod 1000000000]):Int)+x.tdiv 1000000000*(LB^(i+1):Nat)=(S+P*A:Nat):=by
 obtain⟨n,rfl⟩: ∃n:Nat,x=n:=⟨x.toNat,by omega⟩
 have e1:(n:Int).tmod 1000000000=(n % 1000000000:Nat):=by rw[Int.tmod_eq_emod_of_nonneg (by omega)];omega
 have e2:(n:Int).tdiv 1000000000=(n / 1000000000:Nat):=by rw[Int.tdiv_eq_ediv_of_nonneg (by omega)];omega
 rw[e1,e2,jE,ho,Nat.pow_succ,←hP]
 simp only[val,Int.toNat_natCast,Nat.mul_zero,Nat.add_zero]
 have h3:n % 1000000000+1000000000*(n / 1000000000)=n:=Nat.mod_add_div n _
 have h4:P*(n % 1000000000)+P*(1000000000*(n / 1000000000))=P*n:=by rw[←Nat.mul_add,h3]
 have h5:n / 1000000000*(P*LB)=P*(1000000000*(n / 1000000000)):=by
  show n / 1000000000*(P*1000000000)=_
  rw[Nat.mul_comm,Nat.mul_assoc]
 have h6:(P:Int)*n=P*c+P*A:=by rw[hA,Int.mul_add]
 have h7:(c:Int)*P=P*c:=Int.mul_comm _ _
 rw[←Int.natCast_mul,h5]
 have h8:((P*(n % 1000000000)+P*(1000000000*(n / 1000000000)):Nat):Int)=(P:Int)*n:=by rw[h4];simp
 rw[h6] at h8
 simp only[Int.natCast_add] at h8 ⊢
 have h9:((P*A:Nat):Int)=(P:Int)*A:=by simp
 rw[h9]
 omega

theorem rN : ∀ {l:List Int} {k:Nat} (h:k<l.length) (d:Int),val (l.set k d)+LB^k*l[k].toNat=val l+LB^k*d.toNat
 | [], k, h, d => by simp at h
 | x :: l, 0, h, d => by simp [val]; omega
 | x :: l, k + 1, h, d => by
   have hk:k<l.length:=by simpa using h
   have ih:=rN (l:=l) (k:=k) hk d
   have e:LB*(val (l.set k d)+LB^k*l[k].toNat)=LB*(val l+LB^k*d.toNat):=by rw[ih]
   rw[Nat.mul_add,Nat.mul_add,←Nat.mul_assoc,←Nat.mul_assoc,Nat.mul_comm LB (LB^k),←Nat.pow_succ] at e
   simp only[List.set_cons_succ,val,List.getElem_cons_succ]
   rw[Nat.succ_eq_add_one] at e
   omega
theorem Dig.set {l:List Int} (h:Dig l) {k:Nat} {d:Int} (hd:0≤d∧d<1000000000):Dig (l.set k d):=by
 intro x hx
 rcases List.mem_or_eq_of_mem_set hx with hx | rfl
 ·exact h x hx
 ·exact hd
theorem Dig.at {l:List Int} (h:Dig l) {k:Nat} (hk:k<l.length):0≤l[k]∧l[k]<1000000000:=h _ (List.getElem_mem hk)
theorem sB (n:Nat):Dig (List.replicate n 0):=by
 intro d hd
 rw[(List.mem_replicate.1 hd).2];decide
theorem sG (n:Nat):val (List.replicate n 0)=0:=by
 induction n with
 | zero => rfl
 | succ n ih => rw [List.replicate_succ, val, ih]; rfl
theorem G3 {o:List Int} {i A B Sa Sb br br':Nat} {x:Int} (ho:o.length=i) (hI:val o+Sb=Sa+br*LB^i) (hx:x=(A:Int) - br - B+br'*1000000000) (hx0:0≤x):
  val (o++ [x])+(Sb+LB^i*B)=(Sa+LB^i*A)+br'*LB^(i+1):=by
 obtain⟨n,rfl⟩: ∃n:Nat,x=n:=⟨x.toNat,by omega⟩
 have hn:n+br+B=A+br'*LB:=by
  show n+br+B=A+br'*1000000000
  omega
 rw[jE,ho]
 simp only[val,Int.toNat_natCast,Nat.mul_zero,Nat.add_zero]
 have h1:LB^i*(n+br+B)=LB^i*(A+br'*LB):=by rw[hn]
 rw[Nat.mul_add,Nat.mul_add,Nat.mul_add] at h1
 have h2:br'*LB^(i+1)=LB^i*(br'*LB):=by rw[Nat.pow_succ,←Nat.mul_assoc,Nat.mul_comm br',Nat.mul_assoc]
 have h3:br*LB^i=LB^i*br:=Nat.mul_comm _ _
 omega
theorem A5 {O:List Int} {k:Nat} (hk:k<O.length) (hO:Dig O) {n m c S:Nat} (hI:val O+c*LB^k=S):
  val (O.set k ((O[k]+n*m+c).tmod 1000000000))+((O[k]+n*m+c).tdiv 1000000000).toNat*LB^(k+1)=S+LB^k*(n*m):=by
 have h0:=hO.at hk
 obtain⟨o,ho⟩: ∃o:Nat,O[k]=o:=⟨O[k].toNat,by omega⟩
 have hv:=rN hk ((O[k]+n*m+c).tmod 1000000000)
 rw[ho] at hv ⊢
 obtain⟨x,hx⟩: ∃x:Nat,x=o+n*m+c:=⟨_,rfl⟩
 have hxi:(o:Int)+n*m+c=(x:Nat):=by rw[hx];simp
 rw[hxi] at hv ⊢
 have e1:(x:Int).tmod 1000000000=(x % 1000000000:Nat):=by rw[Int.tmod_eq_emod_of_nonneg (by omega)];omega
 have e2:(x:Int).tdiv 1000000000=(x / 1000000000:Nat):=by rw[Int.tdiv_eq_ediv_of_nonneg (by omega)];omega
 rw[e1] at hv ⊢
 rw[e2,Int.toNat_natCast]
 simp only[Int.toNat_natCast] at hv
 have h3:LB^k*(x % 1000000000+1000000000*(x / 1000000000))=LB^k*x:=by rw[Nat.mod_add_div]
 rw[Nat.mul_add] at h3
 have h4:x / 1000000000*LB^(k+1)=LB^k*(1000000000*(x / 1000000000)):=by
  rw[Nat.pow_succ,Nat.mul_comm,Nat.mul_assoc];rfl
 have h5:LB^k*x=LB^k*o+LB^k*(n*m)+LB^k*c:=by rw[hx,Nat.mul_add,Nat.mul_add]
 have h6:c*LB^k=LB^k*c:=Nat.mul_comm _ _
 omega
theorem W3 {o n m c:Int} (ho:0≤o∧o<1000000000) (hn:0≤n∧n<1000000000) (hm:0≤m∧m<1000000000) (hc:0≤c∧c<1000000000):
  0≤o+n*m+c∧o+n*m+c<1000000000000000000∧0≤(o+n*m+c).tdiv 1000000000∧(o+n*m+c).tdiv 1000000000<1000000000:=by
 have h1:0≤n*m:=Int.mul_nonneg hn.1 hm.1
 have h2:n*m≤999999999*999999999:=Int.mul_le_mul (by omega) (by omega) hm.1 (by omega)
 have h3:0≤o+n*m+c:=by omega
 rw[Int.tdiv_eq_ediv_of_nonneg h3]
 omega
theorem Dr {Q A r b a:Nat} {L:Nat} (hI:A=Q*b+r) (hb:0<b):(a+L*A)=((r*L+a) / b+L*Q)*b+(r*L+a) % b:=by
 have h:=Nat.div_add_mod (r*L+a) b
 rw[hI,Nat.mul_add,Nat.add_mul]
 have h1:(r*L+a) / b*b=b*((r*L+a) / b):=Nat.mul_comm _ _
 have h2:L*(Q*b)=L*Q*b:=(Nat.mul_assoc _ _ _).symm
 have h3:L*r=r*L:=Nat.mul_comm _ _
 omega

theorem Lt {g v t T ul vl:Nat} (hT:0<T) (hu:ul<T) (hv:0<v) (h:t<g*v):(t*T+ul) / (v*T+vl)<g:=by
 have hV:0<v*T+vl:=by have:=Nat.mul_pos hv hT;omega
 rw[Nat.div_lt_iff_lt_mul hV,Nat.mul_add,←Nat.mul_assoc]
 have h1:(t+1)*T≤g*v*T:=Nat.mul_le_mul_right _ h
 rw[Nat.add_mul] at h1
 omega
theorem Fj {g U V:Nat} (hV:0<V) (h:U<LB*V) (hg:LB≤g):U / V<g:=by
 rw[Nat.div_lt_iff_lt_mul hV]
 exact Nat.lt_of_lt_of_le h (Nat.mul_le_mul_right _ hg)
theorem L9 {g v1 v2 t T ul vl:Nat} (hvl:vl<T) (hv:0<v1) (hg:g<LB) (h:g*(v1*LB+v2)≤t):g≤(t*T+ul) / ((v1*LB+v2)*T+vl)+1:=by
 have hT:0<T:=by omega
 have hV:0<(v1*LB+v2)*T+vl:=by
  have:0<v1*LB+v2:=by have:=Nat.mul_pos hv iH;omega
  have:=Nat.mul_pos this hT
  omega
 by_cases h0:g=0
 ·rw[h0];exact Nat.zero_le _
 have h1:g - 1≤(t*T+ul) / ((v1*LB+v2)*T+vl):=by
  rw[Nat.le_div_iff_mul_le hV]
  have e1:(g - 1)*((v1*LB+v2)*T+vl)+((v1*LB+v2)*T+vl)=g*((v1*LB+v2)*T+vl):=by
   obtain⟨k,rfl⟩: ∃k,g=k+1:=⟨g - 1,by omega⟩
   rw[Nat.add_sub_cancel,Nat.add_mul k 1,Nat.one_mul]
  have e2:g*((v1*LB+v2)*T+vl)=g*(v1*LB+v2)*T+g*vl:=by rw[Nat.mul_add,Nat.mul_assoc]
  have e3:g*(v1*LB+v2)*T≤t*T:=Nat.mul_le_mul_right _ h
  have e4:g*vl≤LB*T:=Nat.mul_le_mul (by omega) (by omega)
  have e5:LB*T≤(v1*LB+v2)*T:=Nat.mul_le_mul_right _ (by have:=Nat.mul_le_mul_right LB hv;omega)
  omega
 omega
theorem Ag {g r v1 v2 top u:Nat} (ht:top=g*v1+r) (hr:LB≤r) (tQ:top≤v1*LB+(LB - 1)) (hv2:v2<LB) (hv1:0<v1):g<LB∧g*(v1*LB+v2)≤top*LB+u:=by
 have hb:=iH
 have hg:g<LB:=by
  rcases Nat.lt_or_ge g LB with h | h
  ·exact h
  ·have:=Nat.mul_le_mul_right v1 h
   have e:v1*LB=LB*v1:=Nat.mul_comm _ _
   omega
 refine⟨hg,?_⟩
 have h1:g*v2≤LB*LB:=Nat.mul_le_mul (by omega) (by omega)
 have h2:LB*LB≤r*LB:=Nat.mul_le_mul_right _ hr
 have h3:top*LB=g*v1*LB+r*LB:=by rw[ht,Nat.add_mul]
 have h4:g*(v1*LB+v2)=g*v1*LB+g*v2:=by rw[Nat.mul_add,Nat.mul_assoc]
 omega
theorem B4 {g r v1 v2 top u:Nat} (ht:top=g*v1+r):r*LB+u<g*v2 ↔ top*LB+u<g*(v1*LB+v2):=by
 have h3:top*LB=g*v1*LB+r*LB:=by rw[ht,Nat.add_mul]
 have h4:g*(v1*LB+v2)=g*v1*LB+g*v2:=by rw[Nat.mul_add,Nat.mul_assoc]
 omega

theorem Mm (n:Int) {d:Nat} (hd:d≠0):(mkRat n d).num.natAbs=n.natAbs / Nat.gcd n.natAbs d∧(mkRat n d).den=d / Nat.gcd n.natAbs d∧((mkRat n d).num<0 ↔ n<0):=by
 rw[←Rat.normalize_eq_mkRat hd,Rat.normalize_eq hd]
 have hg:0<Nat.gcd n.natAbs d:=Nat.gcd_pos_of_pos_right _ (Nat.pos_of_ne_zero hd)
 obtain⟨k,hk⟩:(Nat.gcd n.natAbs d:Int)∣n:=by
  exact Int.ofNat_dvd_left.2 (Nat.gcd_dvd_left _ _)
 show(n / ((Nat.gcd n.natAbs d:Nat):Int)).natAbs=_∧d / Nat.gcd n.natAbs d=_∧(n / ((Nat.gcd n.natAbs d:Nat):Int)<0 ↔ n<0)
 generalize Nat.gcd n.natAbs d=g at *
 have e:n / (g:Int)=k:=by rw[hk,Int.mul_ediv_cancel_left _ (by omega)]
 have ea:n.natAbs / g=k.natAbs:=by rw[hk,Int.natAbs_mul,Int.natAbs_natCast,Nat.mul_div_cancel_left _ hg]
 refine⟨by rw[e,ea],rfl,?_⟩
 show n / (g:Int)<0 ↔ n<0
 rw[e,hk]
 constructor
 ·intro h;exact Int.mul_neg_of_pos_of_neg (by omega) h
 ·intro h
  by_cases h1:k<0
  ·exact h1
  ·have:=Int.mul_nonneg (show 0≤(g:Int) by omega) (show 0≤k by omega);omega
theorem aD8 (a b:Rat) (hb:b.num≠0):a / b=mkRat (a.num*(b.num.sign*b.den)) (a.den*b.num.natAbs):=by
 rw[Rat.div_def,Rat.mul_def',Rat.num_inv,Rat.den_inv,if_neg hb]
theorem On (a b:Rat):a<b ↔ a.num*b.den<b.num*a.den:=Rat.lt_iff a b

theorem Tt {x t T rl bl:Nat} (hb:bl<T) (ht:0<t):x / (t+1)≤(x*T+rl) / (t*T+bl):=by
 have hT:0<T:=by omega
 have hV:0<t*T+bl:=by have:=Nat.mul_pos ht hT;omega
 rw[Nat.le_div_iff_mul_le hV]
 have h1:t*T+bl≤(t+1)*T:=by rw[Nat.add_mul];omega
 have h2:x / (t+1)*(t*T+bl)≤x / (t+1)*((t+1)*T):=Nat.mul_le_mul_left _ h1
 have h3:x / (t+1)*(t+1)≤x:=Nat.div_mul_le_self _ _
 have h4:x / (t+1)*((t+1)*T)≤x*T:=by rw[←Nat.mul_assoc];exact Nat.mul_le_mul_right _ h3
 omega
theorem Ci {x t T rl bl:Nat} (hr:rl<T) (ht:0<t):(x*T+rl) / (t*T+bl)≤x / t:=by
 have hT:0<T:=by omega
 have hV:0<t*T:=Nat.mul_pos ht hT
 have h1:(x*T+rl) / (t*T+bl)≤(x*T+rl) / (t*T):=Nat.div_le_div_left (by omega) hV
 have h2:(x*T+rl) / (t*T)=x / t:=by
  rw[Nat.mul_comm t T,←Nat.div_div_eq_div_mul,Nat.mul_comm x T,Nat.mul_add_div hT,Nat.div_eq_of_lt hr,Nat.add_zero]
 omega
theorem Du {b r q:Nat} (hb:0<b):b*q≤r ↔ q≤r / b:=by
 rw[Nat.le_div_iff_mul_le hb,Nat.mul_comm]
theorem Yq {Q A r b a q:Nat} {L:Nat} (hI:A=Q*b+r):a+L*A=(q+L*Q)*b+(a+L*r - q*b)∨a+L*r<q*b:=by
 rcases Nat.lt_or_ge (a+L*r) (q*b) with h | h
 ·exact .inr h
 ·refine .inl ?_
  rw[hI,Nat.mul_add,Nat.add_mul]
  have h2:L*(Q*b)=L*Q*b:=(Nat.mul_assoc _ _ _).symm
  omega

theorem take_set {O:List Int} {k:Nat} (hk:k<O.length) (hO:Dig O) {m c c' S A:Nat} {x:Int} (hI:val O+S=A+c*LB^k) (hx:x=O[k] - m - c+c'*1000000000) (hx0:0≤x):
  val (O.set k x)+(S+LB^k*m)=A+c'*LB^(k+1):=by
 have h0:=hO.at hk
 have hv:=rN hk x
 obtain⟨o,ho⟩: ∃o:Nat,O[k]=o:=⟨O[k].toNat,by omega⟩
 obtain⟨n,rfl⟩: ∃n:Nat,x=n:=⟨x.toNat,by omega⟩
 rw[ho] at hv hx
 simp only[Int.toNat_natCast] at hv
 have hn:n+m+c=o+c'*LB:=by
  show n+m+c=o+c'*1000000000
  omega
 have h1:LB^k*(n+m+c)=LB^k*(o+c'*LB):=by rw[hn]
 rw[Nat.mul_add,Nat.mul_add,Nat.mul_add] at h1
 have h2:c'*LB^(k+1)=LB^k*(c'*LB):=by rw[Nat.pow_succ,←Nat.mul_assoc,Nat.mul_comm c',Nat.mul_assoc]
 have h3:c*LB^k=LB^k*c:=Nat.mul_comm _ _
 omega
theorem Dl {o x c:Int} (hx:x<0) (hc:c=(1000000000 - 1 - x).tdiv 1000000000):0≤x+c*1000000000∧x+c*1000000000<1000000000∧0≤c:=by
 rw[Int.tdiv_eq_ediv_of_nonneg (by omega)] at hc
 omega
theorem Tx {O:List Int} {k:Nat} (hk:k<O.length) (hO:Dig O) {m c S:Nat} (hI:val O+c*LB^k=S):
  val (O.set k ((O[k]+m+c).tmod 1000000000))+((O[k]+m+c).tdiv 1000000000).toNat*LB^(k+1)=S+LB^k*m:=by
 have:=A5 hk hO (n:=m) (m:=1) hI
 simpa using this
theorem aOW {M:Nat} {n:Nat} {t:Int} (hM:M<LB^n):(M:Int)+t*(LB^n:Nat)<0 ↔ t<0:=by
 have hP:0<LB^n:=Nat.pow_pos iH
 generalize LB^n=P at *
 constructor
 ·intro h
  by_cases ht:t<0
  ·exact ht
  ·have:=Int.mul_nonneg (show 0≤t by omega) (show 0≤(P:Int) by omega)
   omega
 ·intro ht
  have h1:t*(P:Int)≤(-1)*P:=Int.mul_le_mul_of_nonneg_right (by omega) (by omega)
  omega

theorem B2 {a b:Nat} (h:(lim a).length<(lim b).length):jD a b= -1:=by
 have:=mZ h
 unfold jD;rw[if_pos this]
theorem E6 {a b:Nat} (h:(lim b).length<(lim a).length):jD a b=1:=by
 have:=mZ h
 unfold jD;rw[if_neg (by omega),if_neg (by omega)]
theorem Ix {a b i:Nat} (hl:(lim a).length=(lim b).length) (h1:i<(lim a).length) (h2:i<(lim b).length) (he: ∀j (h1:j<(lim a).length) (h2:j<(lim b).length),i<j→(lim a)[j]=(lim b)[j]) (h:(lim a)[i]<(lim b)[i]):jD a b= -1:=by
 have:=vR (gK a) (gK b) hl h1 (fun j hj hij=>he j hj _ hij) h
 rw[eY,eY] at this
 unfold jD;rw[if_pos this]
theorem Ke {a b i:Nat} (hl:(lim a).length=(lim b).length) (h1:i<(lim a).length) (h2:i<(lim b).length) (he: ∀j (h1:j<(lim a).length) (h2:j<(lim b).length),i<j→(lim a)[j]=(lim b)[j]) (h:(lim b)[i]<(lim a)[i]):jD a b=1:=by
 have:=vR (gK b) (gK a) hl.symm h2 (fun j hj hij=>(he j (hl▸hj) hj hij).symm) h
 rw[eY,eY] at this
 unfold jD;rw[if_neg (by omega),if_neg (by omega)]
theorem Tq {a b:Nat} (hl:(lim a).length=(lim b).length) (he: ∀j (h1:j<(lim a).length) (h2:j<(lim b).length),(lim a)[j]=(lim b)[j]):jD a b=0:=by
 have:a=b:=Gw (List.ext_getElem hl fun j h1 h2=>he j h1 h2)
 subst this
 unfold jD;rw[if_neg (by omega),if_pos rfl]
def pv (a i:Nat):Nat:=val ((lim a).take i)
def dg (a i:Nat):Nat:=(((lim a)[i]?).getD 0).toNat
theorem eP (a i:Nat):dg a i<1000000000:=by
 unfold dg
 rcases h:(lim a)[i]? with _ | d
 ·simp
 ·have:=gK a d (List.mem_of_getElem? h)
  simp;omega
theorem gP {a i:Nat} (h:i<(lim a).length):(lim a)[i]=(dg a i:Nat):=by
 have:=(gK a).at h
 unfold dg
 rw[List.getElem?_eq_getElem h]
 simp;omega
theorem kD {a i:Nat} (h:(lim a).length≤i):dg a i=0:=by
 unfold dg
 rw[List.getElem?_eq_none h];rfl
theorem Sd {a b i:Nat} (hl:(lim a).length=(lim b).length) (hi:i<(lim a).length) (he: ∀j,i<j→dg a j=dg b j) (h:dg a i<dg b i):jD a b= -1:=
 Ix hl hi (hl▸hi) (fun j h1 h2 hj=>by rw[gP h1,gP h2,he j hj]) (by rw[gP hi,gP (hl▸hi)];omega)
theorem Nu {a b i:Nat} (hl:(lim a).length=(lim b).length) (hi:i<(lim a).length) (he: ∀j,i<j→dg a j=dg b j) (h:dg b i<dg a i):jD a b=1:=
 Ke hl hi (hl▸hi) (fun j h1 h2 hj=>by rw[gP h1,gP h2,he j hj]) (by rw[gP hi,gP (hl▸hi)];omega)
theorem Sm {a b:Nat} (hl:(lim a).length=(lim b).length) (he: ∀j,dg a j=dg b j):jD a b=0:=
 Tq hl fun j h1 h2=>by rw[gP h1,gP h2,he j]
@[simp] theorem aP7 (a : Nat) : pv a 0 = 0 := by simp [pv, val]
theorem eL (a i:Nat):pv a (i+1)=pv a i+LB^i*dg a i:=by
 rcases Nat.lt_or_ge i (lim a).length with h | h
 ·unfold pv
  rw[kL h,gP h,Int.toNat_natCast]
 ·unfold pv
  rw[kD h,List.take_of_length_le h,List.take_of_length_le (by omega)];simp
theorem fT {a i:Nat} (h:(lim a).length≤i):pv a i=a:=by
 unfold pv;rw[List.take_of_length_le h,eY]
theorem Cs (a i:Nat):pv a i<LB^i:=by
 have h1:=D8 (G9 (gK a) i)
 refine Nat.lt_of_lt_of_le h1 (Nat.pow_le_pow_right iH ?_)
 simp;omega
theorem qZ {n:Nat} (h:n≠0):LB^((lim n).length - 1)≤n:=by
 rcases Nat.lt_or_ge n (LB^((lim n).length - 1)) with hh | hh
 ·have:=aL.2 hh
  have:(lim n).length≠0:=fun h0=>h (eN.1 (List.length_eq_zero_iff.1 h0))
  omega
 ·exact hh
theorem Tz {o:List Int} {n:Nat} (ho:Dig o) (hv:val o=n) (hn:o.length=0∨LB^(o.length - 1)≤n):lim n=o:=by
 rw[←hv]
 refine S0 ho fun d hd h0=> ?_
 subst h0
 rcases o.eq_nil_or_concat with rfl | ⟨o',x,e⟩
 ·cases hd
 ·rw[List.concat_eq_append] at e
  subst e
  simp at hd;subst hd
  simp[jE,val] at hv hn
  have:=D8 (Dig.append.1 ho).1
  omega
structure kR (a b i : Nat) (o : List Int) (c : Int) : Prop where
 len:o.length=i
 dig:Dig o
 c0:0≤c
 c1:c≤1
 v:(val o:Int)+c*(LB^i:Nat)=(pv a i+pv b i:Nat)
theorem kR.start (a b:Nat):kR a b 0 [] 0:=⟨rfl,(fun _ h=>by cases h),by decide,by decide,by simp[val]⟩
theorem kR.x {a b i:Nat} {o:List Int} {c:Int} (h:kR a b i o c):0≤c+dg a i+dg b i∧c+dg a i+dg b i≤1999999999:=by
 have:=eP a i;have:=eP b i;have:=h.c0;have:=h.c1;omega
theorem kR.next {a b i:Nat} {o:List Int} {c x:Int} (h:kR a b i o c) (hx:x=c+dg a i+dg b i):kR a b (i+1) (o++ [x.tmod 1000000000]) (x.tdiv 1000000000):=by
 have hb:=h.x
 rw[←hx] at hb
 have e1:x.tmod 1000000000=x % 1000000000:=Int.tmod_eq_emod_of_nonneg hb.1
 have e2:x.tdiv 1000000000=x / 1000000000:=Int.tdiv_eq_ediv_of_nonneg hb.1
 refine⟨by simp[h.len],Dig.append.2 ⟨h.dig,fun d hd=> ?_⟩,by omega,by omega,?_⟩
 ·simp at hd;subst hd;omega
 ·rw[Mg (P:=LB^i) (A:=dg a i+dg b i) rfl h.len hb.1 h.v (by rw[hx];simp;omega),eL,eL]
  congr 1
  rw[Nat.mul_add];omega
theorem kR.impl {a b i:Nat} {o:List Int} {c:Int} (h:kR a b i o c) (ha:(lim a).length≤i) (hb:(lim b).length≤i):Dig (o++ [c])∧val (o++ [c])=a+b:=by
 have h0:=h.c0;have h1:=h.c1
 refine⟨Dig.append.2 ⟨h.dig,fun d hd=> ?_⟩,?_⟩
 ·simp at hd;subst hd;omega
 ·have:=h.v
  rw[fT ha,fT hb] at this
  rw[jE,h.len]
  simp only[val,Nat.mul_zero,Nat.add_zero]
  have e:c=0∨c=1:=by omega
  generalize LB^i=P at this ⊢
  rcases e with rfl | rfl
  ·simp at this ⊢;omega
  ·simp at this ⊢;omega
theorem kR.spec {a b i:Nat} {o:List Int} (h:kR a b i o 0) (ha:(lim a).length≤i) (hb:(lim b).length≤i) (hn:i=0∨LB^(i - 1)≤a+b):o=lim (a+b):=by
 have:=h.v
 rw[fT ha,fT hb] at this
 refine(Tz h.dig (by simp at this;omega) ?_).symm
 rw[h.len];exact hn
theorem kR.more {a b i:Nat} {o:List Int} {c:Int} (h:kR a b i o c) (hc:i<(lim a).length∨i<(lim b).length∨0<c):LB^i≤a+b:=by
 have ex: ∀n,i<(lim n).length→LB^i≤n:=fun n hn=>by
  have h0:n≠0:=fun h=>by rw[h,aW] at hn;simp at hn
  exact Nat.le_trans (Nat.pow_le_pow_right iH (by omega)) (qZ h0)
 by_cases h1:i<(lim a).length
 ·have:=ex a h1;omega
 by_cases h2:i<(lim b).length
 ·have:=ex b h2;omega
 have h3:0<c:=by omega
 have hv:=h.v
 rw[fT (by omega),fT (by omega)] at hv
 have hc1:=h.c1
 have e:c=1:=by omega
 subst e
 generalize LB^i=P at hv ⊢
 omega
structure iG (a b i : Nat) (o : List Int) (br : Nat) : Prop where
 len:o.length=i
 dig:Dig o
 c1:br≤1
 v:val o+pv b i=pv a i+br*LB^i
theorem iG.start (a b:Nat):iG a b 0 [] 0:=⟨rfl,(fun _ h=>by cases h),by decide,by simp[val]⟩
theorem iG.x {a b i:Nat} {o:List Int} {br:Nat} (h:iG a b i o br): -1000000000≤(dg a i:Int) - br - dg b i∧(dg a i:Int) - br - dg b i≤999999999:=by
 have:=eP a i;have:=eP b i;have:=h.c1;omega
theorem iG.M3 {a b i:Nat} {o:List Int} {br:Nat} {x:Int} (h:iG a b i o br) (hx:x=(dg a i:Int) - br - dg b i) (h0:0≤x):iG a b (i+1) (o++ [x]) 0:=by
 have hb:=h.x
 refine⟨by simp[h.len],Dig.append.2 ⟨h.dig,fun d hd=> ?_⟩,by decide,?_⟩
 ·simp at hd;subst hd;omega
 ·rw[eL,eL]
  exact G3 (br':=0) h.len h.v (by rw[hx];simp) h0
theorem iG.O1 {a b i:Nat} {o:List Int} {br:Nat} {x:Int} (h:iG a b i o br) (hx:x=(dg a i:Int) - br - dg b i) (h0:x<0):iG a b (i+1) (o++ [x+1000000000]) 1:=by
 have hb:=h.x
 refine⟨by simp[h.len],Dig.append.2 ⟨h.dig,fun d hd=> ?_⟩,by decide,?_⟩
 ·simp at hd;subst hd;omega
 ·rw[eL,eL]
  exact G3 (br':=1) h.len h.v (by rw[hx];simp) (by omega)
theorem iG.done {a b i:Nat} {o:List Int} {br:Nat} (h:iG a b i o br) (hab:b≤a) (ha:(lim a).length≤i):val o=a - b:=by
 have hv:=h.v
 have hb:=cD hab
 rw[fT ha,fT (by omega)] at hv
 have:=D8 h.dig
 rw[h.len] at this
 have:br=0∨br=1:=by have:=h.c1;omega
 rcases this with rfl | rfl<;>omega

structure iN (a b i j : Nat) (O : List Int) (c : Nat) : Prop where
 len:O.length=(lim a).length+(lim b).length
 dig:Dig O
 c1:c<1000000000
 z: ∀k (hk:k<O.length),i+(lim b).length≤k→O[k]=0
 v:val O+c*LB^(i+j)=pv a i*b+LB^i*(dg a i*pv b j)
theorem iN.start (a b:Nat):iN a b 0 0 (List.replicate ((lim a).length+(lim b).length) 0) 0:=by
 refine⟨by simp,sB _,by decide,fun k hk _=>by simp,?_⟩
 rw[sG];simp
theorem iN.next {a b i j:Nat} {O:List Int} {c:Nat} (h:iN a b i j O c) (hi:i<(lim a).length) (hj:j<(lim b).length) (hk:i+j<O.length):
  0≤(O[i+j]+dg a i*dg b j+c).tdiv 1000000000∧O[i+j]+dg a i*dg b j+c<1000000000000000000∧0≤O[i+j]+dg a i*dg b j+c∧
  iN a b i (j+1) (O.set (i+j) ((O[i+j]+dg a i*dg b j+c).tmod 1000000000)) ((O[i+j]+dg a i*dg b j+c).tdiv 1000000000).toNat:=by
 have h0:=h.dig.at hk
 have hx:=eP a i
 have hy:=eP b j
 have hc:=h.c1
 obtain⟨b1,b2,b3,b4⟩:=W3 (o:=O[i+j]) (n:=dg a i) (m:=dg b j) (c:=c) h0 (by omega) (by omega) (by omega)
 have hs:=A5 hk h.dig h.v (n:=dg a i) (m:=dg b j)
 refine⟨b3,b2,b1,by simp[h.len],h.dig.set ?_,by omega,fun k hk2 hz=> ?_,?_⟩
 ·rw[Int.tmod_eq_emod_of_nonneg b1];omega
 ·rw[List.getElem_set_ne (by omega)]
  exact h.z k (by simpa using hk2) hz
 ·rw[←Nat.add_assoc,hs,eL,Nat.pow_add]
  have e:LB^i*(dg a i*(pv b j+LB^j*dg b j))=LB^i*(dg a i*pv b j)+LB^i*LB^j*(dg a i*dg b j):=by
   rw[Nat.mul_add,Nat.mul_add]
   congr 1
   rw[←Nat.mul_assoc,←Nat.mul_assoc,←Nat.mul_assoc,Nat.mul_assoc (LB^i) (dg a i),Nat.mul_comm (dg a i) (LB^j),←Nat.mul_assoc]
  omega
theorem iN.row {a b i j:Nat} {O:List Int} {c:Nat} (h:iN a b i j O c) (hi:i<(lim a).length) (hj:(lim b).length≤j) (hj2:j≤(lim b).length) (hk:i+(lim b).length<O.length):iN a b (i+1) 0 (O.set (i+(lim b).length) c) 0:=by
 have e:j=(lim b).length:=by omega
 subst e
 have hc:=h.c1
 have hv:=rN hk c
 have hz:=h.z _ hk (Nat.le_refl _)
 refine⟨by simp[h.len],h.dig.set (by omega),by decide,fun k hk2 hz=> ?_,?_⟩
 ·rw[List.getElem_set_ne (by omega)]
  exact h.z k (by simpa using hk2) (by omega)
 ·rw[hz] at hv
  have:=h.v
  rw[fT (Nat.le_refl _)] at this
  simp at hv ⊢
  rw[hv,eL,Nat.add_mul,Nat.mul_assoc]
  rw[Nat.mul_comm c] at this
  omega
theorem iN.done {a b i:Nat} {O:List Int} {c:Nat} (h:iN a b i 0 O 0) (hi:(lim a).length≤i):val O=a*b:=by
 have:=h.v
 rw[fT hi] at this
 simpa using this
structure qF (a b i : Nat) (Q : List Int) (r : Nat) : Prop where
 le:i≤(lim a).length
 len:Q.length=(lim a).length - i
 dig:Dig Q
 rlt:r<b
 v:val ((lim a).drop i)=val Q*b+r
theorem qF.start (a b:Nat) (hb:0<b):qF a b (lim a).length [] 0:=⟨Nat.le_refl _,by simp,(fun _ h=>by cases h),hb,by simp[val]⟩
theorem qF.quot {b r d:Nat} (hr:r<b) (hd:d<1000000000):(r*1000000000+d) / b<1000000000:=by
 rw[Nat.div_lt_iff_lt_mul (by omega)]
 have:(r+1)*1000000000≤b*1000000000:=Nat.mul_le_mul_right _ hr
 omega
theorem qF.next {a b i:Nat} {Q:List Int} {r:Nat} (h:qF a b (i+1) Q r) {q r':Nat} (hq:q=(r*1000000000+dg a i) / b) (hr:r'=(r*1000000000+dg a i) % b):qF a b i ((q:Int)::Q) r':=by
 have hl:=h.le
 have hb:0<b:=by have:=h.rlt;omega
 have hd:=eP a i
 have hlt:=qF.quot h.rlt hd
 refine⟨by omega,by simp[h.len];omega,fun d hd=> ?_,?_,?_⟩
 ·rcases List.mem_cons.1 hd with rfl | hd
  ·omega
  ·exact h.dig d hd
 ·subst hr;exact Nat.mod_lt _ hb
 ·rw[List.drop_eq_getElem_cons (by omega),val,val,gP (by omega),h.v]
  simp only[Int.toNat_natCast]
  have:=Dr (Q:=val Q) (A:=val Q*b+r) (r:=r) (b:=b) (a:=dg a i) (L:=LB) rfl hb
  rw[this,hq,hr]
  rfl
theorem qF.done {a b:Nat} {Q:List Int} {r:Nat} (h:qF a b 0 Q r):val Q=a / b∧r=a % b:=by
 have hv:=h.v
 have hr:=h.rlt
 simp at hv
 rw[hv]
 rw[Nat.mul_comm,Nat.mul_add_div (by omega),Nat.div_eq_of_lt hr,Nat.mul_add_mod,Nat.mod_eq_of_lt hr]
 exact⟨rfl,rfl⟩
theorem qS (i:Nat) (q z:Int) (Q:List Int):(List.replicate (i+1) z++Q).set i q=List.replicate i z++q::Q:=by
 rw[List.replicate_succ',List.append_assoc,List.set_append_right _ _ (by simp)]
 simp
theorem Jr (i:Nat) (z:Int) (Q:List Int):List.replicate (i+1) z++Q=List.replicate i z++z::Q:=by
 rw[List.replicate_succ',List.append_assoc];rfl

theorem kH (l:List Int) {k:Nat} (h:k≤l.length):val l=val (l.take k)+LB^k*val (l.drop k):=by
 have:=jE (l.take k) (l.drop k)
 rw[List.take_append_drop,List.length_take,Nat.min_eq_left h] at this
 exact this
theorem oS {l:List Int} (h:Dig l) {k:Nat} :val (l.take k)<LB^k:=by
 refine Nat.lt_of_lt_of_le (D8 (G9 h k)) (Nat.pow_le_pow_right iH ?_)
 simp;omega
theorem tD : ∀ {l:List Int} {n:Nat} (h:Dig l) (hv:val l<LB^n) (k:Nat) (hk:k<l.length),n≤k→l[k]=0
 | [], n, _, _, k, hk, _ => by simp at hk
 | d :: l, 0, h, hv, 0, hk, _ => by
   have:=h d List.mem_cons_self
   simp[val] at hv ⊢;omega
 | d :: l, 0, h, hv, k + 1, hk, _ => by
   have h0:val l<LB^0:=by
    simp only[val,Nat.pow_zero] at hv ⊢
    rcases Nat.eq_zero_or_pos (val l) with h | h
    ·omega
    ·have:=Nat.mul_le_mul (Nat.le_of_eq (rfl:LB=LB)) h
     have:LB=1000000000:=rfl
     omega
   simpa using tD h.tail h0 k (by simpa using hk) (Nat.zero_le _)
 | d :: l, n + 1, h, hv, 0, hk, hn => by omega
 | d :: l, n + 1, h, hv, k + 1, hk, hn => by
   have h0:val l<LB^n:=by
    simp only[val,Nat.pow_succ] at hv
    rcases Nat.lt_or_ge (val l) (LB^n) with h | h
    ·exact h
    ·have:=Nat.mul_le_mul_left LB h
     rw[Nat.mul_comm LB (LB^n)] at this
     omega
   simpa using tD h.tail h0 k (by simpa using hk) (by omega)
theorem U2 {l:List Int} {n:Nat} (hz: ∀k (hk:k<l.length),n<k→l[k]=0) (hn:n<l.length):val l=val (l.take n)+LB^n*l[n].toNat:=by
 rw[←kL hn,sN fun i hi h=>hz i hi (by omega)]
structure jG (u : List Int) (V g j i : Nat) (O : List Int) (c : Nat) : Prop where
 len:O.length=u.length
 dig:Dig O
 c1:c<1000000000
 v:val O+LB^j*(g*pv V i)=val u+c*LB^(j+i)
 same: ∀k (h:k<O.length) (h2:k<u.length),k<j∨j+i≤k→O[k]=u[k]
theorem jG.start {u:List Int} (V g j:Nat) (h:Dig u):jG u V g j 0 u 0:=⟨rfl,h,by decide,by simp,fun _ _ _ _=>rfl⟩
theorem jG.acc (V g j i:Nat):LB^j*(g*pv V (i+1))=LB^j*(g*pv V i)+LB^(j+i)*(g*dg V i):=by
 rw[eL,Nat.mul_add,Nat.mul_add,Nat.pow_add]
 congr 1
 rw[←Nat.mul_assoc,←Nat.mul_assoc,←Nat.mul_assoc,Nat.mul_assoc (LB^j) g,Nat.mul_comm g (LB^i),←Nat.mul_assoc]
theorem jG.x {u:List Int} {V g j i:Nat} {O:List Int} {c:Nat} (h:jG u V g j i O c) (hg:g<1000000000) (hk:j+i<O.length):
  0≤(g:Int)*dg V i∧(g:Int)*dg V i≤999999998000000001:=by
 have h2:=eP V i
 refine⟨by rw[←Int.natCast_mul];omega,?_⟩
 have:(g:Int)*dg V i≤999999999*999999999:=Int.mul_le_mul (by omega) (by omega) (by omega) (by omega)
 omega
theorem jG.M3 {u:List Int} {V g j i:Nat} {O:List Int} {c:Nat} (h:jG u V g j i O c) (hg:g<1000000000) (hk:j+i<O.length) {x:Int} (hx:x=O[j+i] - g*dg V i - c) (h0:0≤x):
  jG u V g j (i+1) (O.set (j+i) x) 0:=by
 have ho:=h.dig.at hk
 obtain⟨m0,m1⟩:=h.x hg hk
 refine⟨by simp[h.len],h.dig.set (by omega),by decide,?_,fun k h1 h2 h3=> ?_⟩
 ·rw[jG.acc,←Nat.add_assoc j i 1]
  have:=take_set hk h.dig h.v (m:=g*dg V i) (c':=0) (x:=x) (by rw[hx];simp) h0
  omega
 ·rw[List.getElem_set_ne (by omega)]
  exact h.same k _ h2 (by omega)
theorem jG.O1 {u:List Int} {V g j i:Nat} {O:List Int} {c:Nat} (h:jG u V g j i O c) (hg:g<1000000000) (hk:j+i<O.length) {x y:Int} (hx:x=O[j+i] - g*dg V i - c) (h0:x<0) (hy:y=(1000000000 - 1 - x).tdiv 1000000000):
  0≤y∧y<1000000000∧jG u V g j (i+1) (O.set (j+i) (x+y*1000000000)) y.toNat:=by
 have ho:=h.dig.at hk
 have hc:=h.c1
 obtain⟨m0,m1⟩:=h.x hg hk
 obtain⟨c1,c2,c3⟩:=Dl (o:=0) h0 hy
 have c4:y<1000000000:=by
  rw[Int.tdiv_eq_ediv_of_nonneg (by omega)] at hy
  omega
 refine⟨c3,c4,by simp[h.len],h.dig.set ⟨c1,c2⟩,by omega,?_,fun k h1 h2 h3=> ?_⟩
 ·rw[jG.acc,←Nat.add_assoc j i 1]
  have:=take_set hk h.dig h.v (m:=g*dg V i) (c':=y.toNat) (x:=x+y*1000000000) (by rw[hx];simp;omega) c1
  omega
 ·rw[List.getElem_set_ne (by omega)]
  exact h.same k _ h2 (by omega)
structure uG (O : List Int) (V j i : Nat) (W : List Int) (c : Nat) : Prop where
 len:W.length=O.length
 dig:Dig W
 c1:c≤1
 v:val W+c*LB^(j+i)=val O+LB^j*pv V i
 same: ∀k (h:k<W.length) (h2:k<O.length),k<j∨j+i≤k→W[k]=O[k]
theorem uG.start {O:List Int} (V j:Nat) (h:Dig O):uG O V j 0 O 0:=⟨rfl,h,by decide,by simp,fun _ _ _ _=>rfl⟩
theorem uG.next {O:List Int} {V j i:Nat} {W:List Int} {c:Nat} (h:uG O V j i W c) (hk:j+i<W.length):
  0≤W[j+i]+dg V i+c∧W[j+i]+dg V i+c<2000000000∧0≤(W[j+i]+dg V i+c).tdiv 1000000000∧
  uG O V j (i+1) (W.set (j+i) ((W[j+i]+dg V i+c).tmod 1000000000)) ((W[j+i]+dg V i+c).tdiv 1000000000).toNat:=by
 have ho:=h.dig.at hk
 have hd:=eP V i
 have hc:=h.c1
 have b1:0≤W[j+i]+dg V i+c:=by omega
 have e2:(W[j+i]+dg V i+c).tdiv 1000000000=(W[j+i]+dg V i+c) / 1000000000:=Int.tdiv_eq_ediv_of_nonneg b1
 have e1:(W[j+i]+dg V i+c).tmod 1000000000=(W[j+i]+dg V i+c) % 1000000000:=Int.tmod_eq_emod_of_nonneg b1
 refine⟨b1,by omega,by omega,by simp[h.len],h.dig.set (by omega),by omega,?_,fun k h1 h2 h3=> ?_⟩
 ·have:=Tx hk h.dig h.v (m:=dg V i)
  rw[←Nat.add_assoc j i 1,this,eL,Nat.mul_add,Nat.pow_add]
  have:LB^j*(LB^i*dg V i)=LB^j*LB^i*dg V i:=(Nat.mul_assoc _ _ _).symm
  omega
 ·rw[List.getElem_set_ne (by omega)]
  exact h.same k _ h2 (by omega)
theorem Cw {u O:List Int} {V g j n c:Nat} (hu:Dig u) (h:jG u V g j n O c) (hn:(lim V).length=n) (hk:j+n<O.length) (hg:g=val (u.drop j) / V∨g=val (u.drop j) / V+1) (hV:0<V) (hc:(c:Int)≤O[j+n]):
  Dig (O.set (j+n) (O[j+n] - c))∧g=val (u.drop j) / V∧val (O.set (j+n) (O[j+n] - c))+LB^j*(val (u.drop j) / V*V)=val u:=by
 have ho:=h.dig.at hk
 have hv:=rN hk (O[j+n] - c)
 have h1:=h.v
 rw[fT (by omega)] at h1
 have hl:=h.len
 have h2:=kH u (k:=j) (by omega)
 have h3:=oS hu (k:=j)
 obtain⟨o,ho2⟩: ∃o:Nat,O[j+n]=o:=⟨O[j+n].toNat,by omega⟩
 rw[ho2] at hv hc ⊢
 have e:((o:Int) - c).toNat=o - c:=by omega
 rw[e] at hv
 simp only[Int.toNat_natCast] at hv
 have e2:LB^(j+n)*(o - c)+LB^(j+n)*c=LB^(j+n)*o:=by rw[←Nat.mul_add];congr 1;omega
 have e3:c*LB^(j+n)=LB^(j+n)*c:=Nat.mul_comm _ _
 have h4:val (O.set (j+n) ((o:Int) - c))+LB^j*(g*V)=val u:=by omega
 have h5:g*V≤val (u.drop j):=by
  rcases Nat.lt_or_ge (val (u.drop j)) (g*V) with hh | hh
  ·have:=Nat.mul_le_mul_left (LB^j) (Nat.succ_le_of_lt hh)
   rw[Nat.mul_succ] at this
   omega
  ·exact hh
 have h6:g=val (u.drop j) / V:=by
  have:=(Nat.le_div_iff_mul_le hV).2 h5
  omega
 refine⟨h.dig.set (by rw[ho2] at ho;omega),h6,?_⟩
 rw[←h6];exact h4
theorem Ed {u O:List Int} {V g j n c:Nat} (hu:Dig u) (h:jG u V g j n O c) (hn:(lim V).length=n) (hk:j+n<O.length) (hz: ∀k (hk:k<u.length),j+n<k→u[k]=0) (hg:g=val (u.drop j) / V∨g=val (u.drop j) / V+1) (hV:0<V) (hc:O[j+n]<c):
  g=val (u.drop j) / V+1:=by
 have ho:=h.dig.at hk
 have h1:=h.v
 rw[fT (by omega)] at h1
 have hl:=h.len
 have h2:=kH u (k:=j) (by omega)
 have h3:=U2 (l:=O) (n:=j+n) (fun k hk2 hjk=>by rw[h.same k hk2 (by omega) (by omega)];exact hz k (by omega) hjk) hk
 obtain⟨o,ho2⟩: ∃o:Nat,O[j+n]=o:=⟨O[j+n].toNat,by omega⟩
 rw[ho2] at h3 hc
 simp only[Int.toNat_natCast] at h3
 have h4:=oS h.dig (k:=j+n)
 rcases hg with hg | hg
 ·exfalso
  have h5:g*V≤val (u.drop j):=by rw[hg];exact Nat.div_mul_le_self _ _
  have h6:=Nat.mul_le_mul_left (LB^j) h5
  have h7:LB^(j+n)*(o+1)≤LB^(j+n)*c:=Nat.mul_le_mul_left _ (by omega)
  rw[Nat.mul_add] at h7
  have e3:c*LB^(j+n)=LB^(j+n)*c:=Nat.mul_comm _ _
  omega
 ·exact hg
theorem Ew {u O W:List Int} {V g j n c d:Nat} (hu:Dig u) (h:jG u V g j n O c) (hw:uG O V j n W d) (hn:(lim V).length=n) (hk:j+n<O.length) (hk2:j+n<W.length) (hz: ∀k (hk:k<u.length),j+n<k→u[k]=0) (hg:g=val (u.drop j) / V+1) (hV:0<V):
  O[j+n] - c+d=0∧Dig (W.set (j+n) 0)∧val (W.set (j+n) 0)+LB^j*(val (u.drop j) / V*V)=val u:=by
 have h1:=h.v
 have h1w:=hw.v
 rw[fT (by omega)] at h1 h1w
 have hl:=h.len
 have hlw:=hw.len
 have e0:W[j+n]=O[j+n]:=hw.same _ hk2 hk (by omega)
 have ho:=h.dig.at hk
 have h2:=kH u (k:=j) (by omega)
 have h3:=U2 (l:=W) (n:=j+n) (fun k hk2 hjk=>by rw[hw.same k hk2 (by omega) (by omega),h.same k (by omega) (by omega) (by omega)];exact hz k (by omega) hjk) hk2
 have hs:=rN hk2 0
 rw[e0] at h3 hs
 obtain⟨o,ho2⟩: ∃o:Nat,O[j+n]=o:=⟨O[j+n].toNat,by omega⟩
 rw[ho2] at h3 hs ⊢
 simp only[Int.toNat_natCast,Int.toNat_zero,Nat.mul_zero,Nat.add_zero] at h3 hs
 have h4:=oS hw.dig (k:=j+n)
 have h5:=oS hu (k:=j)
 have hVn:V<LB^n:=aL.1 (by omega)
 generalize hU:val (u.drop j)=U at *
 have hm:=Nat.div_add_mod U V
 have hlt:=Nat.mod_lt U hV
 have hR:val (u.take j)+LB^j*(U % V)<LB^(j+n):=by
  rw[Nat.pow_add]
  have:LB^j*(U % V+1)≤LB^j*LB^n:=Nat.mul_le_mul_left _ (by omega)
  rw[Nat.mul_add] at this
  omega
 have eU:LB^j*U=LB^j*(U / V*V)+LB^j*(U % V):=by
  rw[←Nat.mul_add,Nat.mul_comm (U / V) V,hm]
 have eg:LB^j*(g*V)=LB^j*(U / V*V)+LB^j*V:=by rw[hg,Nat.add_mul,Nat.one_mul,Nat.mul_add]
 have Ho:val (W.take (j+n))+LB^(j+n)*(o+d)=(val (u.take j)+LB^j*(U % V))+LB^(j+n)*c:=by
  rw[Nat.mul_add,Nat.mul_comm (LB^(j+n)) d,Nat.mul_comm (LB^(j+n)) c]
  omega
 generalize LB^(j+n)=P at *
 have hod:o+d=c:=by
  have a1:=congrArg (fun x=>x / P) Ho
  try simp only at a1
  rw[Nat.add_mul_div_left _ _ (by omega),Nat.add_mul_div_left _ _ (by omega),Nat.div_eq_of_lt h4,Nat.div_eq_of_lt hR] at a1
  omega
 refine⟨by omega,hw.dig.set (by decide),?_⟩
 rw[hod] at Ho
 omega
structure KnI (A V L n j : Nat) (u Q : List Int) : Prop where
 len:u.length=L
 dig:Dig u
 le:j+n≤L
 aCP:Q.length=L - n - j
 aH5:Dig Q
 v:val u+LB^j*(val Q*V)=A
 r:val (u.drop j)<V
theorem KnI.U {A V L n j:Nat} {u Q:List Int} (h:KnI A V L n (j+1) u Q):val (u.drop j)<LB*V:=by
 have hj:j<u.length:=by have:=h.len;have:=h.le;omega
 rw[List.drop_eq_getElem_cons hj,val]
 have:=h.dig.at hj
 have h2:=Nat.mul_le_mul_left LB (Nat.succ_le_of_lt h.r)
 have:LB=1000000000:=rfl
 rw[Nat.mul_succ] at h2
 omega
theorem KnI.zero {A V L n j:Nat} {u Q:List Int} (h:KnI A V L n (j+1) u Q) (hn:(lim V).length=n): ∀k (hk:k<u.length),j+n<k→u[k]=0:=by
 intro k hk hjk
 have hV:V<LB^n:=aL.1 (by omega)
 have:=tD (l:=u.drop (j+1)) (n:=n) (fun d hd=>h.dig d (List.mem_of_mem_drop hd)) (Nat.lt_trans h.r hV) (k - (j+1)) (by simp;omega) (by omega)
 rw[List.getElem_drop] at this
 have e:j+1+(k - (j+1))=k:=by omega
 simpa [e] using this
theorem KnI.next {A V L n j:Nat} {u Q O:List Int} (h:KnI A V L n (j+1) u Q) (hl:O.length=L) (hd:Dig O) (hv:val O+LB^j*(val (u.drop j) / V*V)=val u):KnI A V L n j O ((val (u.drop j) / V:Nat)::Q):=by
 have hU:=h.U
 have hV:0<V:=by have:=h.r;omega
 have hq:val (u.drop j) / V<LB:=by rw[Nat.div_lt_iff_lt_mul hV];exact hU
 have hLB:LB=1000000000:=rfl
 have hle:=h.le
 have hlen:=h.len
 refine⟨hl,hd,by omega,by simp[h.aCP];omega,fun d hd=> ?_,?_,?_⟩
 ·rcases List.mem_cons.1 hd with rfl | hd
  ·rw[hLB] at hq
   generalize val (u.drop j) / V=q at hq ⊢
   omega
  ·exact h.aH5 d hd
 ·have:=h.v
  rw[val,Int.toNat_natCast,Nat.add_mul,Nat.mul_add]
  rw[Nat.pow_succ] at this
  have e:LB^j*(LB*val Q*V)=LB^j*LB*(val Q*V):=by rw[Nat.mul_assoc LB,←Nat.mul_assoc]
  omega
 ·have h1:=kH u (k:=j) (by omega)
  have h2:=kH O (k:=j) (by omega)
  have h3:=oS h.dig (k:=j)
  have h4:=oS hd (k:=j)
  have hm:=Nat.div_add_mod (val (u.drop j)) V
  have hlt:=Nat.mod_lt (val (u.drop j)) hV
  have eU:LB^j*val (u.drop j)=LB^j*(val (u.drop j) / V*V)+LB^j*(val (u.drop j) % V):=by
   rw[←Nat.mul_add,Nat.mul_comm (val (u.drop j) / V) V,hm]
  have Ho:val (O.take j)+LB^j*val (O.drop j)=val (u.take j)+LB^j*(val (u.drop j) % V):=by omega
  have a1:=congrArg (fun x=>x / LB^j) Ho
  try simp only at a1
  have hP:0<LB^j:=Nat.pow_pos iH
  rw[Nat.add_mul_div_left _ _ hP,Nat.add_mul_div_left _ _ hP,Nat.div_eq_of_lt h4,Nat.div_eq_of_lt h3] at a1
  omega
theorem KnI.done {A V L n:Nat} {u Q:List Int} (h:KnI A V L n 0 u Q):val Q=A / V∧val u=A % V:=by
 have hv:=h.v
 have hr:=h.r
 simp at hv hr
 rw[←hv,Nat.mul_comm (val Q),Nat.add_comm,Nat.mul_add_div (by omega),Nat.div_eq_of_lt hr,Nat.mul_add_mod,Nat.mod_eq_of_lt hr]
 exact⟨rfl,rfl⟩
theorem aH8 {V n:Nat} (hn:(lim V).length=n+2):V=(dg V (n+1)*LB+dg V n)*LB^n+pv V n:=by
 have h1:=eL V n
 have h2:=eL V (n+1)
 have e0:pv V (n+1+1)=V:=fT (by omega)
 rw[h2,h1,Nat.pow_succ] at e0
 have e1:dg V (n+1)*LB*LB^n=LB^n*LB*dg V (n+1):=by ac_rfl
 have e2:dg V n*LB^n=LB^n*dg V n:=Nat.mul_comm _ _
 rw[Nat.add_mul]
 omega
theorem U9 {V n:Nat} (hn:(lim V).length=n+1):0<dg V n:=by
 have h:n<(lim V).length:=by omega
 have h1:=gP h
 have h2:=Cg V ((lim V)[n]) (by rw[List.getLast?_eq_getElem?,hn];simp[h])
 omega
theorem Xg (x y z T L:Nat):((x*L+y)*L+z)*T=T*L*L*x+T*L*y+T*z:=by
 rw[Nat.add_mul,Nat.add_mul,Nat.add_mul]
 have e1:x*L*L*T=T*L*L*x:=by ac_rfl
 have e2:y*L*T=T*L*y:=by ac_rfl
 rw[e1,e2,Nat.mul_comm z T]
theorem aPX {u:List Int} {n j:Nat} (hu:Dig u) (hz: ∀k (hk:k<u.length),j+(n+2)<k→u[k]=0) (h2:j+(n+2)<u.length) (h1:j+(n+1)<u.length) (h0:j+n<u.length):
  val (u.drop j)=((u[j+(n+2)].toNat*LB+u[j+(n+1)].toNat)*LB+u[j+n].toNat)*LB^n+val ((u.drop j).take n):=by
 have hd:Dig (u.drop j):=fun d hd=>hu d (List.mem_of_mem_drop hd)
 have e:=U2 (l:=u.drop j) (n:=n+2) (fun k hk hlt=>by rw[List.getElem_drop];exact hz _ (by simp at hk;omega) (by omega)) (by simp;omega)
 have e1:=kL (l:=u.drop j) (i:=n+1) (by simp;omega)
 have e0:=kL (l:=u.drop j) (i:=n) (by simp;omega)
 simp only[List.getElem_drop] at e e1 e0
 have p1:LB^(n+1)=LB^n*LB:=Nat.pow_succ ..
 have p2:LB^(n+2)=LB^n*LB*LB:=by rw[Nat.pow_succ,Nat.pow_succ]
 rw[Xg,e,e1,e0,p1,p2]
 omega
theorem KnI.top {A V L n j:Nat} {u Q:List Int} (h:KnI A V L (n+2) (j+1) u Q) (hn:(lim V).length=n+2) (hk:j+(n+2)<u.length):u[j+(n+2)]≤dg V (n+1):=by
 have hz:=h.zero hn
 have hd:Dig (u.drop (j+1)):=fun d hd=>h.dig d (List.mem_of_mem_drop hd)
 have e:=U2 (l:=u.drop (j+1)) (n:=n+1) (fun k hk hlt=>by rw[List.getElem_drop];exact hz _ (by simp at hk;omega) (by omega)) (by simp;omega)
 simp only[List.getElem_drop] at e
 have e9:j+1+(n+1)=j+(n+2):=by omega
 simp only[e9] at e
 have hr:=h.r
 have hV:=eL V (n+1)
 rw[fT (by omega)] at hV
 have hlt:=Cs V (n+1)
 have ho:=h.dig.at hk
 have h1:LB^(n+1)*u[j+(n+2)].toNat<LB^(n+1)*(dg V (n+1)+1):=by rw[Nat.mul_add];omega
 have:=Nat.lt_of_mul_lt_mul_left h1
 omega
end Go.Proofs.YticmgmemnpcbbaaGreat.Vm

namespace Go.Proofs.YticmgmemnpcbbaaGreat.Vm
open Go Go.Proofs
set_option linter.unusedSimpArgs false
set_option linter.unusedVariables false
theorem bA (a i:Nat) (h:i<(lim a).length):(iv (lim a))[i]? =some [.int .i64 (dg a i:Nat)]:=by rw[eK _ _ h,gP h]
theorem vU (a b:Int):(a==b)=decide (a=b):=by rw[Bool.eq_iff_iff];simp
theorem It (ns:List Int):(iv ns).all (fun c=>1==c.length)=true:=by simp[iv]
theorem zA (ns:List Int) (n:Nat):(iv ns).take n=iv (ns.take n):=by simp[iv,List.map_take]
@[simp high] theorem aHA (P : Program) (t : TypeId) (a b : Int) : binV P .add t (.int .i64 a) (.int .i64 b) = some (.int .i64 (IntKind.i64.wrap (a + b))) := (rfl)
@[simp high] theorem aGD (P : Program) (t : TypeId) (a b : Int) : binV P .sub t (.int .i64 a) (.int .i64 b) = some (.int .i64 (IntKind.i64.wrap (a - b))) := (rfl)
@[simp high] theorem aHB (P : Program) (t : TypeId) (a b : Int) : binV P .mul t (.int .i64 a) (.int .i64 b) = some (.int .i64 (IntKind.i64.wrap (a * b))) := (rfl)
@[simp high] theorem aFE (P : Program) (t : TypeId) (a b : Int) : binV P .quo t (.int .i64 a) (.int .i64 b) = if b = 0 then none else some (.int .i64 (IntKind.i64.wrap (a.tdiv b))) := (rfl)
@[simp high] theorem aHO (P : Program) (t : TypeId) (a b : Int) : binV P .rem t (.int .i64 a) (.int .i64 b) = if b = 0 then none else some (.int .i64 (a.tmod b)) := (rfl)
@[simp high] theorem aFK (P : Program) (t : TypeId) (a b : Int) : binV P .eql t (.int .i64 a) (.int .i64 b) = some (.bool (a == b)) := (rfl)
@[simp high] theorem aEQ (P : Program) (t : TypeId) (a b : Int) : binV P .neq t (.int .i64 a) (.int .i64 b) = some (.bool (a != b)) := (rfl)
@[simp high] theorem aG7 (P : Program) (t : TypeId) (a b : Int) : binV P .lss t (.int .i64 a) (.int .i64 b) = some (.bool (decide (a < b))) := (rfl)
@[simp high] theorem aF2 (P : Program) (t : TypeId) (a b : Int) : binV P .leq t (.int .i64 a) (.int .i64 b) = some (.bool (decide (a ≤ b))) := (rfl)
@[simp high] theorem aG8 (P : Program) (t : TypeId) (a b : Int) : binV P .gtr t (.int .i64 a) (.int .i64 b) = some (.bool (decide (b < a))) := (rfl)
@[simp high] theorem aGQ (P : Program) (t : TypeId) (a b : Int) : binV P .geq t (.int .i64 a) (.int .i64 b) = some (.bool (decide (b ≤ a))) := (rfl)
theorem lX (a b:Nat) (ha:(lim a).length≤1048576) (hb:(lim b).length≤1048576):RO Tryz.prog 100 [.sl (iv (lim a)),.sl (iv (lim b))] (.int .i64 (jD a b)):=by
 refine aI Tryz.func100 rfl rfl (by rw[Tryz.ntmps100];simp) fun bl=> ?_
 rw[Tryz.ntmps100,Tryz.results100]
 refine aC ?_
 simp
 refine⟨fun h=>⟨fun h1=> ?_,fun h1=> ?_⟩,fun h=> ?_⟩
 ·exact aP (by simp[B2 h1]) rfl rfl
 ·exact aP (by simp[E6 (show(lim b).length<(lim a).length by omega)]) rfl rfl
 have h:(lim a).length=(lim b).length:=by omega
 have w0:IntKind.i64.wrap (((lim a).length:Int) - 1)=((lim a).length:Int) - 1:=i64_in (by omega) (by omega)
 simp[w0]
 refine aJ (fun k:Nat=> [(0,.sl (iv (lim a))),(1,.sl (iv (lim b))),(5,.int .i64 ((k:Int) - 1))]) (fun _=>bl) (fun k=>k≤(lim a).length∧ ∀j,k≤j→dg a j=dg b j) (fun k=>k) _ (lim a).length ⟨Nat.le_refl _,fun j hj=>by rw[kD hj,kD (by omega)]⟩ ⟨rfl,by simp,Sub.refl _⟩ ?_
 intro k ⟨hk,hc⟩
 refine aC ?_
 simp
 refine⟨fun h1=> ?_,fun h1=> ?_⟩
 ·obtain⟨m,rfl⟩: ∃m,k=m+1:=⟨k - 1,by omega⟩
  have hm:m<(lim a).length:=by omega
  have hm2:m<(lim b).length:=by omega
  have e1:((m+1:Nat):Int) - 1=m:=by omega
  refine bW aM (by kernel_rfl) ?_
  simp[e1,bA _ _ hm,bA _ _ hm2]
  refine⟨fun h2=> ?_,fun h2=> ?_⟩
  ·exact aP (by simp[Sd h hm (fun j hj=>hc j (by omega)) h2]) rfl rfl
  refine bW aM (by kernel_rfl) ?_
  simp[e1,bA _ _ hm,bA _ _ hm2]
  refine⟨fun h3=> ?_,fun h3=> ?_⟩
  ·exact aP (by simp[Nu h hm (fun j hj=>hc j (by omega)) h3]) rfl rfl
  have w1:IntKind.i64.wrap ((m:Int) - 1)=(m:Int) - 1:=i64_in (by omega) (by omega)
  simp[w1,aB]
  refine⟨m,⟨by omega,fun j hj=> ?_⟩,by omega,rfl,by simp,Sub.refl _⟩
  rcases Nat.lt_or_ge m j with hlt | hge
  ·exact hc j (by omega)
  ·obtain rfl:j=m:=by omega
   omega
 ·have:k=0:=by omega
  subst this
  exact aP (by simp[Sm h fun j=>hc j (Nat.zero_le _)]) rfl rfl
theorem tN (ns:List Int) (hd:Dig ns) (hn:ns.length≤1048576):RO Tryz.prog 238 [.sl (iv ns)] (.sl (iv (lim (val ns)))):=by
 refine aI Tryz.func238 rfl rfl (by rw[Tryz.ntmps238];simp) fun bl=> ?_
 rw[Tryz.ntmps238,Tryz.results238]
 refine aC ?_
 simp
 refine aJ (fun n:Nat=> [(0,.sl (iv (ns.take n)))]) (fun _=>bl) (fun n=>n≤ns.length∧ ∀i (hi:i<ns.length),n≤i→ns[i]=0) (fun n=>n) _ ns.length ⟨Nat.le_refl _,fun i hi h=>by omega⟩ ⟨rfl,by simp,Sub.refl _⟩ ?_
 intro n ⟨hl,hz⟩
 have hlen:(ns.take n).length=n:=by simp;omega
 refine aC ?_
 simp
 refine bD [(0,.sl (iv (ns.take n)))] _ bl 14 (.bool (decide (0<n)&& decide (ns.getD (n - 1) 1=0))) ⟨rfl,by simp,Sub.refl _⟩ rfl ?_ ?_
 ·simp[hlen]
  refine⟨fun h=> ?_,fun h=>by simp[h]⟩
  have w1:IntKind.i64.wrap ((n:Int) - 1)=((n - 1:Nat):Int):=by rw[i64_in (by omega) (by omega)];omega
  have h2:n - 1<ns.length:=by omega
  have q:(iv (ns.take n))[n - 1]? =some [.int .i64 ns[n - 1]]:=by rw[eK _ _ (by omega)];simp
  simp[w1,h2,h,q,vU]
 simp
 refine⟨fun h1 h2=> ?_,fun h1=> ?_⟩
 ·have w1:IntKind.i64.wrap ((n:Int) - 1)=((n - 1:Nat):Int):=by rw[i64_in (by omega) (by omega)];omega
  simp[Nat.min_eq_left hl,w1,sliV,It,aB]
  refine⟨n - 1,⟨by omega,fun i hi h3=> ?_⟩,by omega,rfl,?_,Sub.refl _⟩
  ·rcases Nat.lt_or_ge i n with h4 | h4
   ·obtain rfl:i=n - 1:=by omega
    simpa [hi] using h2
   ·exact hz i hi h4
  ·simp[zA,List.take_take]
   try (congr 2;omega)
 ·have hz2: ∀i (hi:i<ns.length),n=i+1→ns[i]≠0:=by
   intro i hi e
   subst e
   have:=h1 (by omega)
   simpa [hi] using this
  have:=G6 hd hl hz hz2
  rw[this]
  exact aP (by simp) rfl rfl
theorem pM {o:List Int} {i k:Nat} (h:o.length=i) (x z:Int):(o++List.replicate (k+1) z).set i x=(o++ [x])++List.replicate k z:=by
 subst h
 rw[List.set_append_right _ _ (Nat.le_refl _),Nat.sub_self,List.replicate_succ,List.set_cons_zero,List.append_assoc];rfl
theorem lG {o:List Int} {i k:Nat} (h:o.length=i) (z:Int):(iv (o++List.replicate (k+1) z))[i]? =some [.int .i64 z]:=by
 subst h
 rw[eK _ _ (by simp)]
 simp
theorem fG (ns:List Int) (i:Nat) (x:Int):(iv ns).set i [.int .i64 x]=iv (ns.set i x):=by simp[iv,List.map_set]
theorem wq {x n:Int} (h0:0≤x) (h1:x≤9223372036854775807) (hn:0<n):IntKind.i64.wrap (x.tdiv n)=x.tdiv n:=by
 rw[Int.tdiv_eq_ediv_of_nonneg h0]
 have a1:=Int.ediv_nonneg h0 (by omega:0≤n)
 have a2:=Int.ediv_le_self n h0
 exact i64_in (by omega) (by omega)
theorem mO {bl bl':Int→Option Blk} {g:Int} {ns:List Int} {n:Nat} (hg0:0≤g) (hg:bl g=none) (hb:bl' g=some ⟨1,iv ns⟩) (hn:ns.length=n):frzL (dropB bl' bl) 1 [.lsl g 1 0 n]=some [.sl (iv ns)]:=by
 unfold frzL frzL
 rw[dD hg0 hg hb (by simp[hn]) (nZ ns)]
theorem Sg {o:List Int} {i:Nat} (h:o.length=i) (x z:Int):(o++ [z]).set i x=o++ [x]:=by
 have:=pM (k:=0) h x z
 simpa using this
structure PL where
 i:Nat
 o:List Int
 c:Int
theorem Wx (a b:Nat) (ha:(lim a).length≤1048575) (hb:(lim b).length≤1048575):RO Tryz.prog 271 [.sl (iv (lim a)),.sl (iv (lim b))] (.sl (iv (lim (a+b)))):=by
 refine aI Tryz.func271 rfl rfl (by rw[Tryz.ntmps271];simp) fun bl=> ?_
 rw[Tryz.ntmps271,Tryz.results271]
 refine aE ?_
 simp
 refine gH (fun p:Nat×Nat=> [(0,.sl (iv (lim p.1))),(1,.sl (iv (lim p.2)))]) (fun _=>bl) (fun p=>p.1+p.2=a+b∧(lim p.2).length≤(lim p.1).length∧(lim p.1).length≤1048575) 55 ?_ ?_
 ·refine aC ?_
  simp
  refine⟨fun h=> ?_,fun h=> ?_⟩
  ·rw[aH]
   exact⟨(b,a),⟨Nat.add_comm _ _,by simp only;omega,hb⟩,rfl,by simp,Sub.refl _⟩
  ·rw[aH]
   exact⟨(a,b),⟨rfl,by simp only;omega,ha⟩,rfl,by simp,Sub.refl _⟩
 rintro⟨x,y⟩ ⟨hxy,hle,hx⟩
 simp only at hxy hle hx
 rw[←hxy]
 refine aC ?_
 have w0:IntKind.i64.wrap (((lim x).length:Int)+1)=(lim x).length+1:=i64_in (by omega) (by omega)
 simp[w0]
 refine⟨(lim x).length+1,by simp,by simp,by omega,by unfold maxLen;omega,fun g hg0 hg=> ?_⟩
 have er:List.replicate ((lim x).length+1) [V.int IntKind.i64 0]=iv (List.replicate ((lim x).length+1) 0):=by simp[iv]
 simp[er]
 refine aJ (fun p:PL=> [(0,.sl (iv (lim x))),(1,.sl (iv (lim y))),(5,.lsl g 1 0 ((lim x).length+1)),(6,.int .i64 p.c),(20,.sl (iv (lim x))),(21,.int .i64 (lim x).length),(22,.int .i64 p.i)]) (fun p=>upd bl g (some ⟨1,iv (p.o++List.replicate ((lim x).length+1 - p.i) 0)⟩))
  (fun p=>p.i≤(lim x).length∧kR x y p.i p.o p.c) (fun p=>(lim x).length - p.i) _ ⟨0,[],0⟩ ⟨Nat.zero_le _,kR.start x y⟩ ⟨rfl,by simp,sub_eq (by simp)⟩ ?_
 rintro⟨i,o,c⟩ ⟨hi,hI⟩
 simp only at hi hI
 have hb1:=hI.x
 have hd1:=eP x i
 have hd2:=eP y i
 have hc0:=hI.c0
 have hc1:=hI.c1
 obtain⟨k,hk⟩: ∃k,(lim x).length+1 - i=k+1:=⟨(lim x).length - i,by omega⟩
 refine aC ?_
 simp
 refine⟨fun h1=> ?_,fun h1=> ?_⟩
 ·have w1:IntKind.i64.wrap ((dg x i:Int)+c)=dg x i+c:=i64_in (by omega) (by omega)
  have w2:IntKind.i64.wrap ((dg x i:Int)+c+dg y i)=dg x i+c+dg y i:=i64_in (by omega) (by omega)
  have w3:IntKind.i64.wrap ((i:Int)+1)=i+1:=i64_in (by omega) (by omega)
  simp[bA _ _ h1,w1]
  refine⟨fun h2=> ?_,fun h2=> ?_⟩
  ·have w4:=wq (x:=(dg x i:Int)+c+dg y i) (n:=1000000000) (by omega) (by omega) (by omega)
   simp[bA _ _ h2,w2,w3,w4,hk,lG hI.len]
   refine⟨by omega,?_⟩
   rw[aB]
   refine⟨⟨i+1,o++ [((dg x i:Int)+c+dg y i).tmod 1000000000],((dg x i:Int)+c+dg y i).tdiv 1000000000⟩,⟨by simp only;omega,hI.next (by omega)⟩,by simp only;omega,rfl,by simp,sub_eq ?_⟩
   rw[fG,pM hI.len]
   have e:(lim x).length+1 - (i+1)=k:=by omega
   simp[e]
  ·have d0:dg y i=0:=kD (by omega)
   have w4:=wq (x:=(dg x i:Int)+c) (n:=1000000000) (by omega) (by omega) (by omega)
   simp[w3,w4,hk,lG hI.len]
   refine⟨by omega,?_⟩
   rw[aB]
   refine⟨⟨i+1,o++ [((dg x i:Int)+c).tmod 1000000000],((dg x i:Int)+c).tdiv 1000000000⟩,⟨by simp only;omega,hI.next (by omega)⟩,by simp only;omega,rfl,by simp,sub_eq ?_⟩
   rw[fG,pM hI.len]
   have e:(lim x).length+1 - (i+1)=k:=by omega
   simp[e]
 ·have e:i=(lim x).length:=by omega
  subst e
  obtain⟨hD,hv⟩:=hI.impl (Nat.le_refl _) hle
  simp[hk,lG hI.len]
  have k0:k=0:=by omega
  subst k0
  have hg':bl g=none:=hg
  simp[fG,Sg hI.len]
  refine⟨by omega,gD 1 bl _ (by simp[hg']) (mO hg0 hg' (by simp) (by simp[hI.len])) (tN _ hD (by simp[hI.len];omega)) ?_⟩
  rw[hv]
  simp
  exact aP (by simp) rfl rfl

theorem W9 {n:Nat} (h:0<n):lim n=((n % 1000000000:Nat):Int)::lim (n / 1000000000):=pP (by omega)
theorem uW {N:Nat} (h:N≤18446744073709551615):(lim N).length≤3:=aL.2 (Nat.lt_of_le_of_lt h (by decide+kernel))
theorem Eb (N:Nat) (hN:N≤18446744073709551615):NW Tryz.prog 230 [.int .u64 N] (fl 1 (iv (lim N))):=by
 have hL:=uW hN
 refine iD Tryz.func230 rfl rfl (by rw[Tryz.ntmps230];simp) fun bl=> ?_
 rw[Tryz.ntmps230,Tryz.results230]
 refine aC ?_
 simp
 refine uQ 3 1 (by simp) fun g00 sZ=> ?_
 refine aJ (fun p:Int×List Int×Nat=> [(0,.int .u64 p.2.2),(3,.lsl p.1 1 0 p.2.1.length)]) (fun p=>upd bl p.1 (some ⟨1,iv p.2.1⟩)) (fun p=>lim N=p.2.1++lim p.2.2∧p.2.2≤18446744073709551615∧bl p.1=none∧(p.1<0→p.2.1= [])) (fun p=>p.2.2) _ (g00,[],N) ⟨by simp,hN,sZ,fun _=>rfl⟩ ⟨rfl,by simp,sub_eq (by simp[iv])⟩ ?_
 rintro⟨g,o,n⟩ ⟨hl,hn,hg,h0⟩
 simp only at hl hn hg h0
 have hlo:o.length≤3:=by have:=congrArg List.length hl;simp at this;omega
 refine aC ?_
 simp
 refine⟨fun h=> ?_,fun h=> ?_⟩
 ·intro g2 hg2 h2g hb2
  simp[h2g,Ne.symm h2g,appV,elsV,Int.not_lt.2 hg2]
  refine⟨by omega,fun g3 hg3 hb3=> ?_⟩
  have fZ:bl g3=none:=by grind
  have m0:(n:Int).tmod 1000000000=((n % 1000000000:Nat):Int):=by rw[Int.tmod_eq_emod_of_nonneg (by omega)];omega
  have q0:(n:Int).tdiv 1000000000=((n / 1000000000:Nat):Int):=by rw[Int.tdiv_eq_ediv_of_nonneg (by omega)];omega
  have w1:IntKind.i64.wrap ((n:Int) % 1000000000)=(n:Int) % 1000000000:=i64_in (by omega) (by omega)
  have w2:IntKind.u64.wrap ((n:Int) / 1000000000)=(n:Int) / 1000000000:=IntWalk.u64_in _ ⟨by omega,by omega⟩
  simp[m0,q0,w1,w2]
  rw[aB]
  refine⟨(g3,o++ [((n % 1000000000:Nat):Int)],n / 1000000000),⟨by rw[hl,W9 h];simp,by simp only;omega,fZ,by simp only;omega⟩,by simp only;omega,rfl,by simp,?_⟩
  rw[aX]
  exact dE (by rw[dP];simp[iv]) (by simp[hg,hb2,h2g])
 ·have e:n=0:=by omega
  subst e
  rw[aW,List.append_nil] at hl
  refine fH [.lsl g 1 0 o.length] [g] (by simp) ?_ (by simpa using hg) (by simp[hg])
  rw[hl]
  exact dI.2 (.inr ⟨g,rfl,rfl,by simp,h0⟩)
theorem sQ (N:Nat) (hN:N≤18446744073709551615):RO Tryz.prog 230 [.int .u64 N] (.sl (iv (lim N))):=by
 have:=jA 1 (Eb N hN) (kV _ _ 0)
 simpa using this
structure ML where
 i:Nat
 o:List Int
 br:Nat
theorem Bn (a b:Nat) (hab:b≤a) (ha:(lim a).length≤1048575):RO Tryz.prog 272 [.sl (iv (lim a)),.sl (iv (lim b))] (.sl (iv (lim (a - b)))):=by
 refine aI Tryz.func272 rfl rfl (by rw[Tryz.ntmps272];simp) fun bl=> ?_
 rw[Tryz.ntmps272,Tryz.results272]
 refine aC ?_
 simp
 refine⟨by omega,by unfold maxLen;omega,fun g hg0 hg=> ?_⟩
 have er:List.replicate ((lim a).length) [V.int IntKind.i64 0]=iv (List.replicate ((lim a).length) 0):=by simp[iv]
 simp[er]
 refine aJ (fun p:ML=> [(0,.sl (iv (lim a))),(1,.sl (iv (lim b))),(5,.lsl g 1 0 (lim a).length),(6,.int .i64 p.br),(12,.sl (iv (lim a))),(13,.int .i64 (lim a).length),(14,.int .i64 p.i)]) (fun p=>upd bl g (some ⟨1,iv (p.o++List.replicate ((lim a).length - p.i) 0)⟩))
  (fun p=>p.i≤(lim a).length∧iG a b p.i p.o p.br) (fun p=>(lim a).length - p.i) _ ⟨0,[],0⟩ ⟨Nat.zero_le _,iG.start a b⟩ ⟨rfl,by simp,sub_eq (by simp)⟩ ?_
 rintro⟨i,o,br⟩ ⟨hi,hI⟩
 simp only at hi hI
 have hb1:=hI.x
 have hd1:=eP a i
 have hd2:=eP b i
 have hc1:=hI.c1
 refine aC ?_
 simp
 refine⟨fun h1=> ?_,fun h1=> ?_⟩
 ·obtain⟨k,hk⟩: ∃k,(lim a).length - i=k+1:=⟨(lim a).length - i - 1,by omega⟩
  have e:(lim a).length - (i+1)=k:=by omega
  have w1:IntKind.i64.wrap ((dg a i:Int) - br)=dg a i - br:=i64_in (by omega) (by omega)
  have w2:IntKind.i64.wrap ((dg a i:Int) - br - dg b i)=dg a i - br - dg b i:=i64_in (by omega) (by omega)
  have w3:IntKind.i64.wrap ((i:Int)+1)=i+1:=i64_in (by omega) (by omega)
  simp[bA _ _ h1,w1]
  refine⟨fun h2=> ?_,fun h2=> ?_⟩
  ·simp[bA _ _ h2,w2,w3,hk,lG hI.len]
   refine⟨fun h3=> ?_,fun h3=> ?_⟩
   ·have w4:IntKind.i64.wrap ((dg a i:Int) - br - dg b i+1000000000)=dg a i - br - dg b i+1000000000:=i64_in (by omega) (by omega)
    simp[w4,w3,h1,hk,lG hI.len]
    rw[aB]
    refine⟨⟨i+1,o++ [(dg a i:Int) - br - dg b i+1000000000],1⟩,⟨by simp only;omega,hI.O1 rfl (by omega)⟩,by simp only;omega,rfl,by simp,sub_eq ?_⟩
    rw[fG,pM hI.len]
    simp[e]
   ·simp[w3,h1,hk,lG hI.len]
    rw[aB]
    refine⟨⟨i+1,o++ [(dg a i:Int) - br - dg b i],0⟩,⟨by simp only;omega,hI.M3 rfl (by omega)⟩,by simp only;omega,rfl,by simp,sub_eq ?_⟩
    rw[fG,pM hI.len]
    simp[e]
  ·have d0:dg b i=0:=kD (by omega)
   simp[w3,hk,lG hI.len]
   refine⟨fun h3=> ?_,fun h3=> ?_⟩
   ·have w4:IntKind.i64.wrap ((dg a i:Int) - br+1000000000)=dg a i - br+1000000000:=i64_in (by omega) (by omega)
    simp[w4,w3,h1,hk,lG hI.len]
    rw[aB]
    refine⟨⟨i+1,o++ [(dg a i:Int) - br+1000000000],1⟩,⟨by simp only;omega,hI.O1 (x:=(dg a i:Int) - br) (by omega) (by omega)⟩,by simp only;omega,rfl,by simp,sub_eq ?_⟩
    rw[fG,pM hI.len]
    simp[e]
   ·simp[w3,h1,hk,lG hI.len]
    rw[aB]
    refine⟨⟨i+1,o++ [(dg a i:Int) - br],0⟩,⟨by simp only;omega,hI.M3 (x:=(dg a i:Int) - br) (by omega) (by omega)⟩,by simp only;omega,rfl,by simp,sub_eq ?_⟩
    rw[fG,pM hI.len]
    simp[e]
 ·have e:i=(lim a).length:=by omega
  subst e
  have hv:=hI.done hab (Nat.le_refl _)
  have hg':bl g=none:=hg
  simp
  refine gD 1 bl _ (by simp[hg']) (mO (ns:=o) hg0 hg' (by simp) (by simp[hI.len])) (tN _ hI.dig (by simp[hI.len];omega)) ?_
  simp[hv]
  exact aP (by simp) rfl rfl

theorem Ww {bl:Int→Option Blk} {K:V→(Int→Option Blk)→Prop} (ns:List Int) (hd:Dig ns) (hn:ns.length≤1048576) (g:Int) (hg0:0≤g) (hb:bl g=some ⟨1,iv ns⟩)
  (hK: ∀m,m≤ns.length→ns.take m=lim (val ns)→K (.lsl g 1 0 m) bl):bU Tryz.prog 238 [.lsl g 1 0 ns.length] bl K:=by
 refine cA Tryz.func238 rfl rfl (by rw[Tryz.ntmps238];simp) ?_
 rw[Tryz.ntmps238,Tryz.results238]
 refine aC ?_
 simp
 refine aJ (fun n:Nat=> [(0,.lsl g 1 0 n)]) (fun _=>bl) (fun n=>n≤ns.length∧ ∀i (hi:i<ns.length),n≤i→ns[i]=0) (fun n=>n) _ ns.length ⟨Nat.le_refl _,fun i hi h=>by omega⟩ ⟨rfl,by simp,Sub.refl _⟩ ?_
 intro n ⟨hl,hz⟩
 refine aC ?_
 simp
 refine bD [(0,.lsl g 1 0 n)] _ bl 14 (.bool (decide (0<n)&& decide (ns.getD (n - 1) 1=0))) ⟨rfl,by simp,Sub.refl _⟩ rfl ?_ ?_
 ·simp
  refine⟨fun h=> ?_,fun h=>by simp[h]⟩
  have w1:IntKind.i64.wrap ((n:Int) - 1)=((n - 1:Nat):Int):=by rw[i64_in (by omega) (by omega)];omega
  have h2:n - 1<ns.length:=by omega
  simp[w1,h2,h,hb,vU]
  omega
 simp
 refine⟨fun h1 h2=> ?_,fun h1=> ?_⟩
 ·have w1:IntKind.i64.wrap ((n:Int) - 1)=((n - 1:Nat):Int):=by rw[i64_in (by omega) (by omega)];omega
  simp[w1,sliV,hg0,aB]
  refine⟨n - 1,⟨by omega,fun i hi h3=> ?_⟩,by omega,rfl,?_,Sub.refl _⟩
  ·rcases Nat.lt_or_ge i n with h4 | h4
   ·obtain rfl:i=n - 1:=by omega
    simpa [hi] using h2
   ·exact hz i hi h4
  ·simp
 ·have hz2: ∀i (hi:i<ns.length),n=i+1→ns[i]≠0:=by
   intro i hi e
   subst e
   have:=h1 (by omega)
   simpa [hi] using this
  have:=G6 hd hl hz hz2
  rw[bV]
  exact⟨[_],by simp,hK n hl this⟩
theorem Xb {bl bl':Int→Option Blk} {g:Int} {ns:List Int} {n:Nat} (hg0:0≤g) (hg:bl g=none) (hb:bl' g=some ⟨1,iv ns⟩) (hn:n≤ns.length):frz (dropB bl' bl) 1 (.lsl g 1 0 n)=some (.sl (iv (ns.take n))):=by
 unfold frz
 rw[if_neg (by omega)]
 unfold dropB
 rw[hg]
 simp only[hb]
 rw[if_pos (by simp;exact hn),List.drop_zero,zA,if_pos (nZ _)]
structure TL where
 i:Nat
 j:Nat
 O:List Int
 c:Nat
theorem Y5 {bl:Int→Option Blk} {K:V→(Int→Option Blk)→Prop} (a b:Nat) (ha:(lim a).length≤400000) (hb:(lim b).length≤400000) (ha0:a≠0) (hb0:b≠0)
  (hK: ∀g O,0≤g→bl g=none→(lim (a*b)).length≤O.length→O.take (lim (a*b)).length=lim (a*b)→K (.lsl g 1 0 (lim (a*b)).length) (upd bl g (some ⟨1,iv O⟩))):bU Tryz.prog 228 [.sl (iv (lim a)),.sl (iv (lim b))] bl K:=by
 have la:(lim a).length≠0:=fun h=>ha0 (eN.1 (List.length_eq_zero_iff.1 h))
 have lb:(lim b).length≠0:=fun h=>hb0 (eN.1 (List.length_eq_zero_iff.1 h))
 refine cA Tryz.func228 rfl rfl (by rw[Tryz.ntmps228];simp) ?_
 rw[Tryz.ntmps228,Tryz.results228]
 refine aC ?_
 simp
 refine bD [(0,.sl (iv (lim a))),(1,.sl (iv (lim b)))] _ bl 19 (.bool false) ⟨rfl,by simp,Sub.refl _⟩ rfl ?_ ?_
 ·have na:lim a≠ []:=fun h=>la (by rw[h];rfl)
  have nb:lim b≠ []:=fun h=>lb (by rw[h];rfl)
  simp[na,nb]
 have w0:IntKind.i64.wrap (((lim a).length:Int)+(lim b).length)=(lim a).length+(lim b).length:=i64_in (by omega) (by omega)
 simp[w0]
 refine⟨(lim a).length+(lim b).length,by simp,by simp,by omega,by unfold maxLen;omega,fun g hg0 hg=> ?_⟩
 have er:List.replicate ((lim a).length+(lim b).length) [V.int IntKind.i64 0]=iv (List.replicate ((lim a).length+(lim b).length) 0):=by simp[iv]
 simp[er]
 refine aJ (fun p:TL=> [(0,.sl (iv (lim a))),(1,.sl (iv (lim b))),(5,.lsl g 1 0 ((lim a).length+(lim b).length)),(26,.sl (iv (lim a))),(27,.int .i64 (lim a).length),(28,.int .i64 p.i)]) (fun p=>upd bl g (some ⟨1,iv p.O⟩))
  (fun p=>p.i≤(lim a).length∧iN a b p.i 0 p.O 0) (fun p=>(lim a).length - p.i) _ ⟨0,0,_,0⟩ ⟨Nat.zero_le _,iN.start a b⟩ ⟨rfl,by simp,sub_eq (by simp)⟩ ?_
 rintro⟨i,j0,O,c0⟩ ⟨hi,hI⟩
 simp only at hi hI
 refine aC ?_
 simp
 refine⟨fun h1=> ?_,fun h1=> ?_⟩
 ·simp[bA _ _ h1]
  refine aJ (fun p:TL=> [(0,.sl (iv (lim a))),(1,.sl (iv (lim b))),(5,.lsl g 1 0 ((lim a).length+(lim b).length)),(6,.int .i64 i),(7,.int .i64 (dg a i:Nat)),(8,.int .i64 p.c),(26,.sl (iv (lim a))),(27,.int .i64 (lim a).length),(28,.int .i64 i),(33,.sl (iv (lim b))),(34,.int .i64 (lim b).length),(35,.int .i64 p.j)]) (fun p=>upd bl g (some ⟨1,iv p.O⟩))
   (fun p=>p.j≤(lim b).length∧iN a b i p.j p.O p.c) (fun p=>(lim b).length - p.j) _ ⟨i,0,O,0⟩ ⟨Nat.zero_le _,hI⟩ ⟨rfl,by simp,sub_eq (by simp)⟩ ?_
  rintro⟨i',j,O,c⟩ ⟨hj,hJ⟩
  simp only at hj hJ
  have hlen:=hJ.len
  refine aC ?_
  simp
  refine⟨fun h2=> ?_,fun h2=> ?_⟩
  ·have hk:i+j<O.length:=by omega
   obtain⟨n1,n2,n3,hN⟩:=hJ.next h1 h2 hk
   have w1:IntKind.i64.wrap ((i:Int)+j)=(i:Int)+j:=i64_in (by omega) (by omega)
   have p1:0≤(i:Int)+j:=by omega
   have p2:(i:Int)+j<(lim a).length+(lim b).length:=by omega
   have p3:((i:Int)+j).toNat=i+j:=by omega
   have w3:IntKind.i64.wrap ((j:Int)+1)=j+1:=i64_in (by omega) (by omega)
   have hm:0≤(dg a i:Int)*dg b j∧(dg a i:Int)*dg b j<1000000000000000000:=by
    have hO:=hJ.dig.at hk
    have e:0≤(dg a i:Int)*dg b j:=by rw[←Int.natCast_mul];omega
    exact⟨e,by omega⟩
   have hO:=hJ.dig.at hk
   have w4:IntKind.i64.wrap ((dg a i:Int)*dg b j)=(dg a i:Int)*dg b j:=i64_in (by omega) (by omega)
   have w5:IntKind.i64.wrap (O[i+j]+(dg a i:Int)*dg b j)=O[i+j]+(dg a i:Int)*dg b j:=i64_in (by omega) (by omega)
   have w6:IntKind.i64.wrap (O[i+j]+(dg a i:Int)*dg b j+c)=O[i+j]+(dg a i:Int)*dg b j+c:=i64_in (by omega) (by omega)
   have w7:=wq (x:=O[i+j]+(dg a i:Int)*dg b j+c) (n:=1000000000) n3 (by omega) (by omega)
   simp[bA _ _ h2,w1,w3,w4,w5,w6,w7,p1,p2,p3,hk]
   rw[aB]
   obtain⟨c',hc'⟩: ∃c':Nat,(O[i+j]+(dg a i:Int)*dg b j+c).tdiv 1000000000=c':=⟨((O[i+j]+(dg a i:Int)*dg b j+c).tdiv 1000000000).toNat,by omega⟩
   refine⟨⟨i,j+1,O.set (i+j) ((O[i+j]+(dg a i:Int)*dg b j+c).tmod 1000000000),c'⟩,⟨by simp only;omega,?_⟩,by simp only;omega,rfl,by simp[hc'],sub_eq ?_⟩
   ·rw[hc'] at hN;exact hN
   ·rw[fG]
  ·have e:j=(lim b).length:=by omega
   have hk:i+(lim b).length<O.length:=by omega
   have hR:=hJ.row h1 (by omega) hj hk
   have w1:IntKind.i64.wrap ((i:Int)+(lim b).length)=(i:Int)+(lim b).length:=i64_in (by omega) (by omega)
   have p1:0≤(i:Int)+(lim b).length:=by omega
   have p2:(i:Int)+(lim b).length<(lim a).length+(lim b).length:=by omega
   have p3:((i:Int)+(lim b).length).toNat=i+(lim b).length:=by omega
   have w3:IntKind.i64.wrap ((i:Int)+1)=i+1:=i64_in (by omega) (by omega)
   simp[w1,w3,p1,p2,p3,hk]
   rw[aB]
   refine⟨⟨i+1,0,O.set (i+(lim b).length) c,0⟩,⟨by simp only;omega,hR⟩,by simp only;omega,rfl,by simp,sub_eq ?_⟩
   rw[fG]
 ·have hv:=hI.done (c:=0) (by omega)
  have hlen:=hI.len
  have hg':bl g=none:=by simpa using hg
  have e:((lim a).length+(lim b).length:Nat)=O.length:=hlen.symm
  rw[e]
  refine Ww O hI.dig (by omega) g hg0 (by simp) fun m hm ht=> ?_
  rw[hv] at ht
  have hml:m=(lim (a*b)).length:=by rw[←ht];simp;omega
  subst hml
  simp
  rw[bV]
  exact⟨[_],by simp,hK g O hg0 hg' hm ht⟩
theorem qP (a b:Nat) (ha:(lim a).length≤400000) (hb:(lim b).length≤400000):RO Tryz.prog 228 [.sl (iv (lim a)),.sl (iv (lim b))] (.sl (iv (lim (a*b)))):=by
 by_cases h0:a=0∨b=0
 ·have hz:a*b=0:=Nat.mul_eq_zero.2 h0
  rw[hz,aW]
  refine aI Tryz.func228 rfl rfl (by rw[Tryz.ntmps228];simp) fun bl=> ?_
  rw[Tryz.ntmps228,Tryz.results228]
  refine aC ?_
  simp
  refine bD [(0,.sl (iv (lim a))),(1,.sl (iv (lim b)))] _ bl 19 (.bool true) ⟨rfl,by simp,Sub.refl _⟩ rfl ?_ ?_
  ·simp
   rcases h0 with h0 | h0
   ·simp[h0,aW]
   ·simp[h0,aW]
  simp
  exact aK [.nils] 0 (by simp) rfl (Sub.refl _)
 ·intro bl
  refine wW (Y5 a b ha hb (by omega) (by omega) fun g O hg0 hg hl ht=>⟨1,?_,by simp[hg]⟩) ⟨rfl,rfl⟩
  have:=Xb (bl':=upd bl g (some ⟨1,iv O⟩)) hg0 hg (by simp) hl
  rw[ht] at this
  exact this
structure SL where
 i:Nat
 Q:List Int
 r:Int
theorem uJ (a b:Nat) (ha:(lim a).length≤1048576) (hb0:0<b) (hb:b<1000000000):RO Tryz.prog 235 [.sl (iv (lim a)),.int .i64 b] (.tup [.sl (iv (lim (a / b))),.int .i64 (a % b:Nat)]):=by
 refine aI Tryz.func235 rfl rfl (by rw[Tryz.ntmps235];simp) fun bl=> ?_
 rw[Tryz.ntmps235,Tryz.results235]
 refine aC ?_
 simp
 refine⟨by omega,by unfold maxLen;omega,fun g hg0 hg=> ?_⟩
 have er:List.replicate ((lim a).length) [V.int IntKind.i64 0]=iv (List.replicate ((lim a).length) 0):=by simp[iv]
 have w0:IntKind.i64.wrap (((lim a).length:Int) - 1)=((lim a).length:Int) - 1:=i64_in (by omega) (by omega)
 simp[er,w0]
 refine aJ (fun p:SL=> [(0,.sl (iv (lim a))),(1,.int .i64 b),(6,.lsl g 1 0 (lim a).length),(7,.int .i64 p.r),(8,.int .i64 ((p.i:Int) - 1))]) (fun p=>upd bl g (some ⟨1,iv (List.replicate p.i 0++p.Q)⟩))
  (fun p=>0≤p.r∧qF a b p.i p.Q p.r.toNat) (fun p=>p.i) _ ⟨(lim a).length,[],0⟩ ⟨Int.le_refl _,qF.start a b hb0⟩ ⟨rfl,by simp,sub_eq (by simp)⟩ ?_
 rintro⟨i,Q,r⟩ ⟨hr0,hI⟩
 simp only at hr0 hI
 have hr:=hI.rlt
 have hle:=hI.le
 have hql:=hI.len
 refine aC ?_
 simp[-binV, -intV]
 refine⟨fun h1=> ?_,fun h1=> ?_⟩
 ·obtain⟨m,rfl⟩: ∃m,i=m+1:=⟨i - 1,by omega⟩
  have hm:m<(lim a).length:=by omega
  have hd:=eP a m
  obtain⟨z,hz⟩: ∃z,z=r.toNat*1000000000+dg a m:=⟨_,rfl⟩
  have hN:=hI.next (q:=z / b) (r':=z % b) (by rw[hz]) (by rw[hz])
  have e1:((m+1:Nat):Int) - 1=m:=by omega
  have w1:IntKind.i64.wrap (r*1000000000)=r*1000000000:=i64_in (by omega) (by omega)
  have w2:IntKind.i64.wrap (r*1000000000+dg a m)=z:=by rw[i64_in (by omega) (by omega)];omega
  have hz2:z≤9223372036854775807:=by omega
  simp[-binV, -intV,e1,bA _ _ hm,w1,w2]
  clear w1 w2 hz
  have b0: ¬ b=0:=by omega
  have hg':bl g=none:=by simpa using hg
  have w3:=wq (x:=(z:Int)) (n:=b) (by omega) (by omega) (by omega)
  have w4:(z:Int).tdiv b=(z / b:Nat):=by rw[Int.tdiv_eq_ediv_of_nonneg (by omega)];simp
  have w5:(z:Int).tmod b=(z % b:Nat):=by rw[Int.tmod_eq_emod_of_nonneg (by omega)];simp
  rw[w4] at w3
  have w3':IntKind.i64.wrap ((z:Int) / b)=(z:Int) / b:=by simpa using w3
  refine⟨by omega,aY aM bl (by simp[hg']) [0,1,2,3,4,5,6,7,8] 2 (by kernel_rfl) ?_⟩
  simp[-binV, -intV,w3',w4,w5,hm,b0]
  have q:(iv (List.replicate (m+1) 0++Q))[m]? =some [.int .i64 0]:=by rw[eK _ _ (by simp;omega)];simp
  have w6:IntKind.i64.wrap ((m:Int) - 1)=(m:Int) - 1:=i64_in (by omega) (by omega)
  refine Dz 9 ?_
  simp[-binV, -intV,q,hg']
  refine Dz 10 ?_
  simp[-binV, -intV,hg']
  refine Dy ?_
  simp[-binV, -intV,w6,aB]
  refine⟨⟨m,((z / b:Nat):Int)::Q,(z % b:Nat)⟩,⟨by simp only;omega,by show qF a b m _ (((z % b:Nat):Int)).toNat;rw[Int.toNat_natCast];exact hN⟩,by simp only;omega,rfl,by simp,sub_eq ?_⟩
  rw[←qS m _ 0 Q,←fG]
  simp
 ·have e:i=0:=by omega
  subst e
  obtain⟨h2,h3⟩:=hI.done
  have h4:r=(a % b:Nat):=by omega
  have hg':bl g=none:=by simpa using hg
  simp
  refine gD 1 bl _ (by simp[hg']) (mO (ns:=Q) hg0 hg' (by simp) (by simp[hql])) (tN _ hI.dig (by omega)) ?_
  simp[h2,h4]
  exact aK [.sl (iv (lim (a / b))),.int .i64 (a % b:Nat)] 1 (by simp) rfl (by simp)

structure KL where
 i:Nat
 O:List Int
 c:Int
theorem Ve {bl:Int→Option Blk} {K:V→(Int→Option Blk)→Prop} (u:List Int) (V0 g j n m:Nat) (gu:Int) (hgu:0≤gu) (hb:bl gu=some ⟨1,iv u⟩) (hu:Dig u) (hn:(lim V0).length=n) (hm:j+m=u.length) (hnm:n<m) (hg:g<1000000000) (hul:u.length≤1048576)
  (hK: ∀(O:List Int) (c:Nat) (hk:j+n<O.length),jG u V0 g j n O c→K (.bool (decide (O[j+n] - c<0))) (upd bl gu (some ⟨1,iv (O.set (j+n) (O[j+n] - c))⟩))):
  bU Tryz.prog 236 [.lsl gu 1 j m,.sl (iv (lim V0)),.int .i64 g] bl K:=by
 have hu0:upd bl gu (some ⟨1,iv u⟩)=bl:=by
  funext x;simp only[aA];split
  ·rename_i h;rw[h,hb]
  ·rfl
 refine cA Tryz.func236 rfl rfl (by rw[Tryz.ntmps236];simp) ?_
 rw[Tryz.ntmps236,Tryz.results236]
 refine aC ?_
 simp[hn]
 refine aJ (fun p:KL=> [(0,.lsl gu 1 j m),(1,.sl (iv (lim V0))),(2,.int .i64 g),(7,.int .i64 p.c),(11,.sl (iv (lim V0))),(12,.int .i64 n),(13,.int .i64 p.i)]) (fun p=>upd bl gu (some ⟨1,iv p.O⟩))
  (fun p=>p.i≤n∧0≤p.c∧jG u V0 g j p.i p.O p.c.toNat) (fun p=>n - p.i) _ ⟨0,u,0⟩ ⟨Nat.zero_le _,Int.le_refl _,jG.start V0 g j hu⟩ ⟨rfl,by simp,sub_eq (by rw[hu0])⟩ ?_
 rintro⟨i,O,c⟩ ⟨hi,hc0,hI⟩
 simp only at hi hc0 hI
 have hc1:=hI.c1
 have hlen:=hI.len
 refine aC ?_
 simp[-binV, -intV]
 refine⟨fun h1=> ?_,fun h1=> ?_⟩
 ·have hv:i<(lim V0).length:=by omega
  have hk:j+i<O.length:=by omega
  have hO:=hI.dig.at hk
  obtain⟨m0,m1⟩:=hI.x hg hk
  have w3:IntKind.i64.wrap ((i:Int)+1)=i+1:=i64_in (by omega) (by omega)
  have w1:IntKind.i64.wrap ((g:Int)*dg V0 i)=(g:Int)*dg V0 i:=i64_in (by omega) (by omega)
  have w2:IntKind.i64.wrap (O[j+i] - (g:Int)*dg V0 i)=O[j+i] - (g:Int)*dg V0 i:=i64_in (by omega) (by omega)
  have w4:IntKind.i64.wrap (O[j+i] - (g:Int)*dg V0 i - c)=O[j+i] - (g:Int)*dg V0 i - c:=i64_in (by omega) (by omega)
  have him:(i:Int)<m:=by omega
  obtain⟨x,hx⟩: ∃x,x=O[j+i] - (g:Int)*dg V0 i - c:=⟨_,rfl⟩
  have hx':x=O[j+i] - (g:Int)*dg V0 i - (c.toNat:Int):=by rw[hx];omega
  have wx:IntKind.i64.wrap x=x:=i64_in (by omega) (by omega)
  have w5:IntKind.i64.wrap (999999999 - x)=999999999 - x:=i64_in (by omega) (by omega)
  have key:x<0→0≤(999999999 - x).tdiv 1000000000∧(999999999 - x).tdiv 1000000000<1000000000∧jG u V0 g j (i+1) (O.set (j+i) (x+(999999999 - x).tdiv 1000000000*1000000000)) ((999999999 - x).tdiv 1000000000).toNat:=fun h=>hI.O1 hg hk hx' h (by simp)
  obtain⟨y,hy⟩: ∃y,y=(999999999 - x).tdiv 1000000000:=⟨_,rfl⟩
  rw[←hy] at key
  simp[-binV, -intV,bA _ _ hv,w1,w2,w4,hk,him,←hx,wx,w3,w5,←hy]
  refine⟨fun h3=> ?_,fun h3=> ?_⟩
  ·obtain⟨k1,k2,k3⟩:=key h3
   have w6:IntKind.i64.wrap y=y:=i64_in (by omega) (by omega)
   have w7:IntKind.i64.wrap (y*1000000000)=y*1000000000:=i64_in (by omega) (by omega)
   have w8:IntKind.i64.wrap (x+y*1000000000)=x+y*1000000000:=by
    have:=k3.dig.at (k:=j+i) (by simpa using hk)
    rw[List.getElem_set_self] at this
    exact i64_in (by omega) (by omega)
   simp[-binV, -intV,w6,w7,w8]
   rw[aB]
   refine⟨⟨i+1,O.set (j+i) (x+y*1000000000),y⟩,⟨by simp only;omega,k1,k3⟩,by simp only;omega,rfl,by simp,sub_eq ?_⟩
   rw[fG]
  ·rw[aB]
   refine⟨⟨i+1,O.set (j+i) x,0⟩,⟨by simp only;omega,Int.le_refl _,hI.M3 hg hk hx' (by omega)⟩,by simp only;omega,rfl,by simp,sub_eq ?_⟩
   rw[fG]
 ·have e:i=n:=by omega
  subst e
  have hk:j+i<O.length:=by omega
  have hO:=hI.dig.at hk
  obtain⟨c',rfl⟩: ∃c':Nat,c=c':=⟨c.toNat,by omega⟩
  have w1:IntKind.i64.wrap (O[j+i] - (c':Int))=O[j+i] - (c':Int):=i64_in (by omega) (by omega)
  have him:(i:Int)<m:=by omega
  simp[-binV, -intV,hn,him,hk,w1]
  refine⟨hnm,?_⟩
  rw[bV]
  refine⟨[.bool (decide (O[j+i] - (c':Int)<0))],by simp,?_⟩
  have:=hK O c' hk (by simpa using hI)
  rw[←fG] at this
  exact this
theorem Wa {bl:Int→Option Blk} {K:V→(Int→Option Blk)→Prop} (O:List Int) (t:Int) (V0 j n m:Nat) (gu:Int) (hgu:0≤gu) (hk:j+n<O.length) (hb:bl gu=some ⟨1,iv (O.set (j+n) t)⟩) (hO:Dig O) (hn:(lim V0).length=n) (hm:j+m=O.length) (ht: -1000000000≤t∧t≤1000000000) (hul:O.length≤1048576)
  (hK: ∀(v:V) (W:List Int) (d:Nat) (hk2:j+n<W.length),uG O V0 j n W d→K v (upd bl gu (some ⟨1,iv (W.set (j+n) (t+d))⟩))):
  bU Tryz.prog 237 [.lsl gu 1 j m,.sl (iv (lim V0))] bl K:=by
 have hu0:upd bl gu (some ⟨1,iv (O.set (j+n) t)⟩)=bl:=by
  funext x;simp only[aA];split
  ·rename_i h;rw[h,hb]
  ·rfl
 refine cA Tryz.func237 rfl rfl (by rw[Tryz.ntmps237];simp) ?_
 rw[Tryz.ntmps237,Tryz.results237]
 refine aC ?_
 simp[hn]
 refine aJ (fun p:KL=> [(0,.lsl gu 1 j m),(1,.sl (iv (lim V0))),(4,.int .i64 p.c),(8,.sl (iv (lim V0))),(9,.int .i64 n),(10,.int .i64 p.i)]) (fun p=>upd bl gu (some ⟨1,iv (p.O.set (j+n) t)⟩))
  (fun p=>p.i≤n∧0≤p.c∧uG O V0 j p.i p.O p.c.toNat) (fun p=>n - p.i) _ ⟨0,O,0⟩ ⟨Nat.zero_le _,Int.le_refl _,uG.start V0 j hO⟩ ⟨rfl,by simp,sub_eq (by rw[hu0])⟩ ?_
 rintro⟨i,W,c⟩ ⟨hi,hc0,hI⟩
 simp only at hi hc0 hI
 have hc1:=hI.c1
 have hlen:=hI.len
 refine aC ?_
 simp
 refine⟨fun h1=> ?_,fun h1=> ?_⟩
 ·have hv:i<(lim V0).length:=by omega
  have hki:j+i<W.length:=by omega
  have hne:j+n≠j+i:=by omega
  have hd:=eP V0 i
  have hW:=hI.dig.at hki
  obtain⟨n1,n2,n3,hN⟩:=hI.next hki
  have ec:((c.toNat:Nat):Int)=c:=by omega
  rw[ec] at n1 n2 n3 hN
  have q:(iv (W.set (j+n) t))[j+i]? =some [.int .i64 W[j+i]]:=by rw[eK _ _ (by simpa using hki),List.getElem_set_ne hne]
  have w3:IntKind.i64.wrap ((i:Int)+1)=i+1:=i64_in (by omega) (by omega)
  have w1:IntKind.i64.wrap (W[j+i]+(dg V0 i:Int))=W[j+i]+(dg V0 i:Int):=i64_in (by omega) (by omega)
  have w2:IntKind.i64.wrap (W[j+i]+(dg V0 i:Int)+c)=W[j+i]+(dg V0 i:Int)+c:=i64_in (by omega) (by omega)
  have w4:=wq (x:=W[j+i]+(dg V0 i:Int)+c) (n:=1000000000) n1 (by omega) (by omega)
  have him:(i:Int)<m:=by omega
  simp[-eK,bA _ _ hv,q,w1,w2,w3,w4,him]
  rw[aB]
  refine⟨⟨i+1,W.set (j+i) ((W[j+i]+(dg V0 i:Int)+c).tmod 1000000000),(W[j+i]+(dg V0 i:Int)+c).tdiv 1000000000⟩,⟨by simp only;omega,n3,hN⟩,by simp only;omega,rfl,by simp,sub_eq ?_⟩
  rw[fG,List.set_comm _ _ hne]
 ·have e:i=n:=by omega
  subst e
  have hki:j+i<W.length:=by omega
  obtain⟨c',rfl⟩: ∃c':Nat,c=c':=⟨c.toNat,by omega⟩
  have w1:IntKind.i64.wrap (t+(c':Int))=t+(c':Int):=i64_in (by omega) (by omega)
  have him:(i:Int)<m:=by omega
  have q:(iv (W.set (j+i) t))[j+i]? =some [.int .i64 t]:=by rw[eK _ _ (by simpa using hki),List.getElem_set_self]
  simp[-eK,hn,him,hki,q,w1]
  refine⟨by omega,?_⟩
  rw[jH]
  refine⟨[],rfl,?_⟩
  have:=hK (retV []) W c' hki (by simpa using hI)
  rw[fG,List.set_set]
  exact this

theorem Gq {a b:Nat} :jD a b<0 ↔ a<b:=by unfold jD;split<;>(try split)<;>omega
theorem Uv {b:Nat} (h:(lim b).length=1):dg b 0=b∧b<1000000000∧0<b:=by
 have h1:=eL b 0
 rw[fT (by omega)] at h1
 have h2:=eP b 0
 have h3:b≠0:=fun h0=>by rw[h0,aW] at h;simp at h
 simp at h1
 omega
theorem aCB {d:Nat} (h0:0<d) (h1:d<1000000000):1≤1000000000 / (d+1)∧1000000000 / (d+1)<1000000000∧1000000000 / (d+1)*(d+1)≤1000000000:=by
 refine⟨?_,?_,Nat.div_mul_le_self _ _⟩
 ·rw[Nat.le_div_iff_mul_le (by omega)];omega
 ·exact Nat.div_lt_self (by omega) (by omega)
theorem Ib {f:Nat} (h0:0<f) (h1:f<1000000000):lim f= [(f:Int)]:=by
 rw[pP (by omega),show f / LB=0 from Nat.div_eq_of_lt h1,aW,show f % LB=f from Nat.mod_eq_of_lt h1]
theorem aDT {b f n:Nat} (hn:(lim b).length=n+1) (hf:f*(dg b n+1)≤LB) (hf0:0<f):(lim (b*f)).length=n+1:=by
 have h1:=cD (a:=b) (b:=b*f) (Nat.le_mul_of_pos_right _ hf0)
 have h2:(lim (b*f)).length≤n+1:=by
  refine aL.2 ?_
  have e:=eL b n
  rw[fT (by omega)] at e
  have hl:=Cs b n
  have h3:b+1≤LB^n*(dg b n+1):=by rw[Nat.mul_add];omega
  have h4:(b+1)*f≤LB^n*(dg b n+1)*f:=Nat.mul_le_mul_right _ h3
  have h5:LB^n*(dg b n+1)*f≤LB^n*LB:=by
   rw[Nat.mul_assoc,Nat.mul_comm (dg b n+1)];exact Nat.mul_le_mul_left _ hf
  rw[Nat.pow_succ]
  rw[Nat.add_mul,Nat.one_mul] at h4
  omega
 omega
theorem KnI.start {a b f k n:Nat} (hn:(lim b).length=n) (hf:0<f) (hb:0<b) (hL:(lim a).length+1≤(lim (a*f)).length+k) (hnL:n≤(lim a).length):
  KnI (a*f) (b*f) ((lim (a*f)).length+k) n ((lim (a*f)).length+k - n) (lim (a*f)++List.replicate k 0) []:=by
 have hd:Dig (lim (a*f)++List.replicate k 0):=Dig.append.2 ⟨gK _,sB k⟩
 have hv:val (lim (a*f)++List.replicate k 0)=a*f:=by rw[jE,sG,eY];simp
 refine⟨by simp,hd,by omega,by simp,(fun _ h=>by cases h),by rw[hv];simp[val],?_⟩
 generalize hj:(lim (a*f)).length+k - n=j
 have hs:=kH (lim (a*f)++List.replicate k 0) (k:=j) (by simp;omega)
 rw[hv] at hs
 generalize val ((lim (a*f)++List.replicate k 0).drop j)=x at hs ⊢
 rcases Nat.lt_or_ge x (b*f) with h | h
 ·exact h
 exfalso
 have h1:LB^j*(b*f)≤a*f:=by
  have:=Nat.mul_le_mul_left (LB^j) h
  omega
 have h2:LB^j*b≤a:=by
  rw[←Nat.mul_assoc] at h1
  exact Nat.le_of_mul_le_mul_right h1 hf
 have h3:=qZ (n:=b) (by omega)
 have h4:LB^j*LB^((lim b).length - 1)≤LB^j*b:=Nat.mul_le_mul_left _ h3
 rw[←Nat.pow_add] at h4
 have h5:a<LB^(lim a).length:=aL.1 (Nat.le_refl _)
 have hb1:(lim b).length≠0:=fun h0=>by have:=eN.1 (List.length_eq_zero_iff.1 h0);omega
 have h6:LB^(lim a).length≤LB^(j+((lim b).length - 1)):=Nat.pow_le_pow_right iH (by omega)
 omega
theorem Dn {a b f:Nat} (hf:0<f):a*f / (b*f)=a / b∧a*f % (b*f)=a % b*f:=⟨Nat.mul_div_mul_right _ _ hf,Nat.mul_mod_mul_right _ _ _⟩
structure GC (U V top t1 v1 v2 T ul vl : Nat) : Prop where
 hu:U=(top*LB+t1)*T+ul
 hv:V=(v1*LB+v2)*T+vl
 hul:ul<T
 hvl:vl<T
 hv1:0<v1
 hv2:v2<LB
 aJ8:v1<LB
 ht1:t1<LB
 tQ:top≤v1*LB+(LB - 1)
 hlt:U<LB*V
theorem GC.V0 {U V top t1 v1 v2 T ul vl:Nat} (h:GC U V top t1 v1 v2 T ul vl):0<V:=by
 rw[h.hv]
 have:=h.hvl
 have h0:0<v1*LB+v2:=by have:=Nat.mul_pos h.hv1 iH;omega
 have h1:=Nat.mul_pos h0 (show 0<T by omega)
 omega
structure GI (U V top v1 g r : Nat) : Prop where
 eq:top=g*v1+r
 lt:r<LB
 le:U / V≤g
theorem GC.start {U V top t1 v1 v2 T ul vl:Nat} (h:GC U V top t1 v1 v2 T ul vl):GI U V top v1 (top / v1) (top % v1):=by
 refine⟨by rw[Nat.mul_comm];exact(Nat.div_add_mod _ _).symm,Nat.lt_trans (Nat.mod_lt _ h.hv1) h.aJ8,?_⟩
 have e1:U=top*(LB*T)+(t1*T+ul):=by rw[h.hu,Nat.add_mul,Nat.mul_assoc,Nat.add_assoc]
 have e2:V=v1*(LB*T)+(v2*T+vl):=by rw[h.hv,Nat.add_mul,Nat.mul_assoc,Nat.add_assoc]
 rw[e1,e2]
 refine Ci ?_ h.hv1
 have h1:(t1+1)*T≤LB*T:=Nat.mul_le_mul_right _ h.ht1
 rw[Nat.add_mul] at h1
 have:=h.hul
 omega
theorem GC.dec {U V top t1 v1 v2 T ul vl g r:Nat} (h:GC U V top t1 v1 v2 T ul vl) (hI:GI U V top v1 g r) (hc:LB≤g∨r*LB+t1<g*v2):0<g∧U / V≤g - 1∧top=(g - 1)*v1+(r+v1):=by
 have h1:U / V<g:=by
  rcases hc with hc | hc
  ·exact Fj h.V0 h.hlt hc
  ·have h2:=(B4 (v2:=v2) (u:=t1) hI.eq).1 hc
   rw[h.hu,h.hv]
   exact Lt (by have:=h.hul;omega) h.hul (by have:=Nat.mul_pos h.hv1 iH;omega) h2
 generalize U / V=q at h1 ⊢
 refine⟨by omega,by omega,?_⟩
 obtain⟨k,rfl⟩: ∃k,g=k+1:=⟨g - 1,by omega⟩
 have:=hI.eq
 rw[Nat.add_mul] at this
 rw[Nat.add_sub_cancel]
 omega
theorem GC.done {U V top t1 v1 v2 T ul vl g r:Nat} (h:GC U V top t1 v1 v2 T ul vl) (hI:GI U V top v1 g r) (h1:g<LB) (h2:g*v2≤r*LB+t1):g=U / V∨g=U / V+1:=by
 have hle:=hI.le
 have h3:g*(v1*LB+v2)≤top*LB+t1:=by
  have:=B4 (v2:=v2) (u:=t1) hI.eq
  omega
 have:=L9 (ul:=ul) h.hvl h.hv1 h1 h3
 rw[←h.hu,←h.hv] at this
 generalize U / V=q at *
 omega
theorem GC.brk {U V top t1 v1 v2 T ul vl g r:Nat} (h:GC U V top t1 v1 v2 T ul vl) (h0:top=g*v1+r) (h1:LB≤r) (h2:U / V≤g):g<LB∧(g=U / V∨g=U / V+1):=by
 obtain⟨h3,h4⟩:=Ag (u:=t1) h0 h1 h.tQ h.hv2 h.hv1
 have:=L9 (ul:=ul) h.hvl h.hv1 h3 h4
 rw[←h.hu,←h.hv] at this
 generalize U / V=q at *
 exact⟨h3,by omega⟩

structure OL where
 j:Nat
 u:List Int
 Q:List Int
structure QL where
 g:Int
 r:Int
set_option maxHeartbeats 2000000 in
theorem yY (a b:Nat) (hb0:0<b) (ha:(lim a).length≤300000) (hbl:(lim b).length≤300000):RO Tryz.prog 176 [.sl (iv (lim a)),.sl (iv (lim b))] (.tup [.sl (iv (lim (a / b))),.sl (iv (lim (a % b)))]):=by
 refine aI Tryz.func176 rfl rfl (by rw[Tryz.ntmps176];simp) fun bl=> ?_
 rw[Tryz.ntmps176,Tryz.results176]
 refine aE ?_
 simp
 refine aE ?_
 simp
 refine aD (lX a b (by omega) (by omega)) ?_
 simp[Gq]
 refine⟨fun h=> ?_,fun h=> ?_⟩
 ·refine aD (J0 (lim a) (by omega)) ?_
  have e1:a / b=0:=Nat.div_eq_of_lt h
  have e2:a % b=a:=Nat.mod_eq_of_lt h
  simp[e1,e2,aW]
  exact aK [.nils,.sl (iv (lim a))] 1 (by simp) rfl (Sub.refl _)
 refine aE ?_
 simp
 refine⟨fun h1=> ?_,fun h1=> ?_⟩
 ·have h1':(lim b).length=1:=by omega
  obtain⟨b1,b2,b3⟩:=Uv h1'
  simp[bA b 0 (by omega),b1]
  refine aD (uJ a b (by omega) b3 b2) ?_
  have hr:a % b<b:=Nat.mod_lt _ b3
  obtain⟨r,hr2⟩: ∃r,r=a % b:=⟨_,rfl⟩
  rw[←hr2] at hr ⊢
  have w1:IntKind.u64.wrap (r:Int)=r:=IntWalk.u64_in _ ⟨by omega,by omega⟩
  simp[w1]
  refine aD (sQ r (by omega)) ?_
  simp
  exact aK [.sl (iv (lim (a / b))),.sl (iv (lim r))] 1 (by simp) rfl (Sub.refl _)
 have hab:b≤a:=by omega
 have hla:=cD hab
 have hbz:(lim b).length≠0:=fun h0=>by have:=eN.1 (List.length_eq_zero_iff.1 h0);omega
 obtain⟨n,hn⟩: ∃n,(lim b).length=n+2:=⟨(lim b).length - 2,by omega⟩
 have hd0:0<dg b (n+1):=U9 hn
 have hd1:=eP b (n+1)
 obtain⟨f0,f1,f2⟩:=aCB hd0 hd1
 obtain⟨f,hf⟩: ∃f,f=1000000000 / (dg b (n+1)+1):=⟨_,rfl⟩
 rw[←hf] at f0 f1 f2
 have hbf:=aDT hn (show f*(dg b (n+1)+1)≤LB from f2) f0
 have hlf:=Ib f0 f1
 have hfl:(lim f).length=1:=by rw[hlf];rfl
 refine aE ?_
 have w0:IntKind.i64.wrap (((lim b).length:Int) - 1)=((n+1:Nat):Int):=by rw[i64_in (by omega) (by omega)];omega
 have w1:IntKind.i64.wrap ((dg b (n+1):Int)+1)=(dg b (n+1):Int)+1:=i64_in (by omega) (by omega)
 have w2:IntKind.i64.wrap ((1000000000:Int).tdiv ((dg b (n+1):Int)+1))=f:=by
  rw[Int.tdiv_eq_ediv_of_nonneg (by omega),show(1000000000:Int) / ((dg b (n+1):Int)+1)=((1000000000 / (dg b (n+1)+1):Nat):Int) by simp,←hf]
  exact i64_in (by omega) (by omega)
 have hz1: ¬ (dg b (n+1):Int)+1=0:=by omega
 generalize hdd:dg b (n+1)=d at *
 have lg:=bA b (n+1) (by omega)
 rw[hdd] at lg
 have er1:List.range 1= [0]:=rfl
 simp[-binV, -intV,w0,w1,w2,lg,hz1,er1]
 refine⟨by omega,fun g8 hg8 hb8=> ?_⟩
 refine cW 1 8 (.sl (iv (lim f))) bl (by simp[hb8]) ?_ ?_
 ·rw[hlf]
  exact dD hg8 hb8 (by simp;rfl) rfl rfl
 refine aE ?_
 simp
 refine Y5 a f (by omega) (by omega) (by omega) (by omega) fun g O hg0 hg hO ht=> ?_
 simp
 intro g2 hg2 h2g hb2
 simp[h2g,Ne.symm h2g,appV,elsV,Int.not_lt.2 hg2,hO,Int.not_lt.2 hg0]
 have aW6:(lim (a*f)).length≤(lim a).length+1:=by
  refine aL.2 ?_
  have h2:a<LB^(lim a).length:=aL.1 (Nat.le_refl _)
  rw[Nat.pow_succ]
  exact Nat.mul_lt_mul_of_lt_of_le h2 (Nat.le_of_lt f1) iH
 have aXW:=cD (a:=a) (b:=a*f) (Nat.le_mul_of_pos_right _ f0)
 refine⟨by omega,fun g3 hg3 hb3=> ?_⟩
 have fZ:bl g3=none:=by grind
 refine aD (qP b f (by omega) (by omega)) ?_
 simp
 refine gH (fun p:Int×Nat=> [(0,.sl (iv (lim a))),(8,.sl (iv (lim f))),(9,.lsl p.1 1 0 ((lim (a*f)).length+p.2)),(10,.sl (iv (lim (b*f))))]) (fun p=>upd bl p.1 (some ⟨1,iv (lim (a*f)++List.replicate p.2 0)⟩))
  (fun p=>bl p.1=none∧0≤p.1∧(lim a).length+1≤(lim (a*f)).length+p.2∧1≤p.2∧p.2≤3) 172 ?_ ?_
 ·refine aC ?_
  simp
  refine aJ (fun p:Int×Nat=> [(0,.sl (iv (lim a))),(8,.sl (iv (lim f))),(9,.lsl p.1 1 0 ((lim (a*f)).length+p.2)),(10,.sl (iv (lim (b*f))))]) (fun p=>upd bl p.1 (some ⟨1,iv (lim (a*f)++List.replicate p.2 0)⟩))
   (fun p=>bl p.1=none∧0≤p.1∧1≤p.2∧p.2≤3) (fun p=>3 - p.2) _ (g3,1) ⟨fZ,hg3,by simp,by simp⟩ ⟨rfl,by simp,dE (by simp[aX,zA,ht];rfl) (by simp[hg,hb2])⟩ ?_
  rintro⟨g4,k⟩ ⟨hb4,hg4,hk1,hk3⟩
  simp only at hb4 hg4 hk1 hk3
  refine aC ?_
  simp
  refine⟨fun h2=> ?_,fun h2=> ?_⟩
  ·intro g5 hg5 h54 hb5
   simp[h54,Ne.symm h54,appV,elsV,Int.not_lt.2 hg5]
   refine⟨by omega,fun g6 hg6 hb6=> ?_⟩
   have aTH:bl g6=none:=by grind
   rw[aB]
   refine⟨(g6,k+1),⟨aTH,hg6,by simp,by simp only;omega⟩,by simp only;omega,rfl,by simp[Nat.add_assoc],dE ?_ (by simp[hb4,hb5])⟩
   rw[List.take_of_length_le (by simp)]
   simp[iv,List.replicate_succ']
  ·rw[aH]
   exact⟨(g4,k),⟨hb4,hg4,by simp only;omega,hk1,hk3⟩,rfl,by simp,Sub.refl _⟩
 rintro⟨g4,k⟩ ⟨hb4,hg4,hk0,hk1,hk3⟩
 simp only at hb4 hg4 hk0 hk1 hk3
 have hKs:=KnI.start (a:=a) (b:=b) (f:=f) (k:=k) hn f0 hb0 hk0 (by omega)
 generalize hL:(lim (a*f)).length+k=L at *
 obtain⟨N,hN⟩: ∃N,N=n+2:=⟨_,rfl⟩
 have aBK:(lim (b*f)).length=N:=by omega
 rw[←hN] at hKs
 have hLn:N≤L:=by omega
 have w3:IntKind.i64.wrap ((L:Int) - (N:Int))=((L - N:Nat):Int):=by rw[i64_in (by omega) (by omega)];omega
 have w4:IntKind.i64.wrap (((L - N:Nat):Int) - 1)=((L - N:Nat):Int) - 1:=i64_in (by omega) (by omega)
 refine aC ?_
 simp[aBK,w3,w4]
 refine⟨by omega,by unfold maxLen;omega,fun g5 hg5 h54 hb5=> ?_⟩
 have er:List.replicate (L - N) [V.int IntKind.i64 0]=iv (List.replicate (L - N) 0):=by simp[iv]
 simp[er,h54,Ne.symm h54,aBK,w3,w4]
 refine aJ (fun p:OL=> [(8,.sl (iv (lim f))),(9,.lsl g4 1 0 L),(10,.sl (iv (lim (b*f)))),(11,.int .i64 N),(12,.lsl g5 1 0 (L - N)),(13,.int .i64 ((p.j:Int) - 1))]) (fun p=>upd (upd bl g4 (some ⟨1,iv p.u⟩)) g5 (some ⟨1,iv (List.replicate p.j 0++p.Q)⟩))
  (fun p=>p.j≤L - N∧KnI (a*f) (b*f) L N p.j p.u p.Q) (fun p=>p.j) _ ⟨L - N,_,[]⟩ ⟨Nat.le_refl _,hKs⟩ ⟨rfl,by simp,sub_eq (by simp)⟩ ?_
 rintro⟨j,u,Q⟩ ⟨hj,hI⟩
 simp only at hj hI
 have hlen:=hI.len
 refine aE ?_
 simp
 refine⟨fun h2=> ?_,fun h2=> ?_⟩
 ·obtain⟨m,rfl⟩: ∃m,j=m+1:=⟨j - 1,by omega⟩
  have hV:=aBK
  generalize hVV:b*f=W at *
  have hUV:=hI.U
  have hz:=hI.zero hV
  have hk3:m+N<u.length:=by omega
  have hk2:m+(n+1)<u.length:=by omega
  have hk1:m+n<u.length:=by omega
  have t3:=hI.dig.at hk3
  have t2:=hI.dig.at hk2
  have t1:=hI.dig.at hk1
  obtain⟨G0,tQ⟩: ∃t,t=u[m+N].toNat*LB+u[m+(n+1)].toNat:=⟨_,rfl⟩
  have hGC:GC (val (u.drop m)) W G0 u[m+n].toNat (dg W (n+1)) (dg W n) (LB^n) (val ((u.drop m).take n)) (pv W n):=by
   have hLB:LB=1000000000:=rfl
   subst hN
   have htv:=hI.top hV hk3
   refine⟨?_,aH8 hV,?_,Cs _ _,U9 hV,?_,?_,?_,?_,hUV⟩
   ·rw[tQ];exact aPX hI.dig hz hk3 hk2 hk1
   ·exact oS fun d hd=>hI.dig d (List.mem_of_mem_drop hd)
   ·exact eP _ _
   ·exact eP _ _
   ·rw[hLB];omega
   ·rw[tQ,hLB];omega
  have hv1:=hGC.hv1
  have aJ8:=eP W (n+1)
  have aXM:=eP W n
  refine gH (fun p:OL=> [(8,.sl (iv (lim f))),(9,.lsl g4 1 0 L),(10,.sl (iv (lim W))),(11,.int .i64 N),(12,.lsl g5 1 0 (L - N)),(13,.int .i64 (p.j:Int))]) (fun p=>upd (upd bl g4 (some ⟨1,iv p.u⟩)) g5 (some ⟨1,iv (List.replicate p.j 0++p.Q)⟩))
   (fun p=>p.j=m∧KnI (a*f) W L N m p.u p.Q) 172 ?_ ?_
  ·refine aV ?_
   refine aE ?_
   simp[-binV, -intV]
   have e1:((m+1:Nat):Int) - 1=m:=by omega
   have i1:IntKind.i64.wrap ((m:Int)+N)=(m:Int)+N:=i64_in (by omega) (by omega)
   have i2:IntKind.i64.wrap ((m:Int)+N - 1)=(m:Int)+(n+1):=by rw[i64_in (by omega) (by omega)];omega
   have i3:IntKind.i64.wrap ((N:Int) - 1)=(n:Int)+1:=by rw[i64_in (by omega) (by omega)];omega
   have p1:0≤(m:Int)+N:=by omega
   have p2:0≤(m:Int)+(n+1):=by omega
   have p3:0≤(n:Int)+1:=by omega
   have l1:(m:Int)+N<L:=by omega
   have l2:(m:Int)+(n+1)<L:=by omega
   have c1:((m:Int)+N).toNat=m+N:=by omega
   have c2:((m:Int)+(n+1)).toNat=m+(n+1):=by omega
   have c3:((n:Int)+1).toNat=n+1:=by omega
   have hLB:LB=1000000000:=rfl
   have x1:IntKind.i64.wrap (u[m+N]*1000000000)=u[m+N]*1000000000:=i64_in (by omega) (by omega)
   have x2:IntKind.i64.wrap (u[m+N]*1000000000+u[m+(n+1)])=G0:=by rw[i64_in (by omega) (by omega),tQ,hLB];omega
   have hz0: ¬ dg W (n+1)=0:=by omega
   have aV8:G0≤1000000000000000000:=by rw[tQ,hLB];omega
   have lw:=bA W (n+1) (by omega)
   have y1:(G0:Int).tdiv (dg W (n+1):Nat)=(G0 / dg W (n+1):Nat):=by rw[Int.tdiv_eq_ediv_of_nonneg (by omega)];simp
   have y2:(G0:Int).tmod (dg W (n+1):Nat)=(G0 % dg W (n+1):Nat):=by rw[Int.tmod_eq_emod_of_nonneg (by omega)];simp
   have y3:=wq (x:=(G0:Int)) (n:=(dg W (n+1):Nat)) (by omega) (by omega) (by omega)
   rw[y1] at y3
   obtain⟨g0,sZ⟩: ∃g0:Int,g0=(G0 / dg W (n+1):Nat):=⟨_,rfl⟩
   obtain⟨r0,aDX⟩: ∃r0:Int,r0=(G0 % dg W (n+1):Nat):=⟨_,rfl⟩
   rw[←sZ] at y1 y3
   rw[←aDX] at y2
   refine bW aM (by kernel_rfl) ?_
   simp[-binV, -intV,e1,i1,i2,p1,p2,l1,l2,c1,c2,hk3,hk2,x1,x2,h54,Ne.symm h54]
   refine aE ?_
   simp
   refine bW aM (by kernel_rfl) ?_
   simp[-binV, -intV,e1,i3,p3,c3,lw,hz0,y1,y2,y3]
   refine gH (fun p:QL=> [(8,.sl (iv (lim f))),(9,.lsl g4 1 0 L),(10,.sl (iv (lim W))),(11,.int .i64 N),(12,.lsl g5 1 0 (L - N)),(13,.int .i64 m),(15,.int .i64 p.g)]) (fun p=>upd (upd bl g4 (some ⟨1,iv u⟩)) g5 (some ⟨1,iv (List.replicate (m+1) 0++Q)⟩))
    (fun p=>0≤p.g∧p.g<1000000000∧(p.g.toNat=val (u.drop m) / W∨p.g.toNat=val (u.drop m) / W+1)) 172 ?_ ?_
   ·refine aC ?_
    simp[-binV, -intV]
    refine aJ (fun p:QL=> [(8,.sl (iv (lim f))),(9,.lsl g4 1 0 L),(10,.sl (iv (lim W))),(11,.int .i64 N),(12,.lsl g5 1 0 (L - N)),(13,.int .i64 m),(15,.int .i64 p.g),(16,.int .i64 p.r)]) (fun p=>upd (upd bl g4 (some ⟨1,iv u⟩)) g5 (some ⟨1,iv (List.replicate (m+1) 0++Q)⟩))
     (fun p=>0≤p.g∧0≤p.r∧GI (val (u.drop m)) W G0 (dg W (n+1)) p.g.toNat p.r.toNat) (fun p=>p.g.toNat) _ ⟨g0,r0⟩ ⟨by simp only[sZ];exact Int.natCast_nonneg _,by simp only[aDX];exact Int.natCast_nonneg _,?_⟩ ⟨rfl,by simp,sub_eq (by simp)⟩ ?_
    ·have:=hGC.start
     simp only[sZ,aDX,Int.toNat_natCast]
     exact this
    rintro⟨gg,rr⟩ ⟨hgg,hrr,hGI⟩
    simp only at hgg hrr hGI
    refine aE ?_
    simp[-binV, -intV]
    have hgN:gg≤1000000000000000000:=by
     have e:=hGI.eq
     have h3:gg.toNat*1≤gg.toNat*dg W (n+1):=Nat.mul_le_mul_left _ hv1
     omega
    have hrl:=hGI.lt
    rw[hLB] at hrl
    have i4:IntKind.i64.wrap ((N:Int) - 2)=(n:Int):=by rw[i64_in (by omega) (by omega)];omega
    have i5:IntKind.i64.wrap ((m:Int)+N - 2)=(m:Int)+n:=by rw[i64_in (by omega) (by omega)];omega
    have p4:0≤(m:Int)+n:=by omega
    have l4:(m:Int)+n<L:=by omega
    have c4:((m:Int)+n).toNat=m+n:=by omega
    have lw2:=bA W n (by omega)
    have z1:IntKind.i64.wrap (rr*1000000000)=rr*1000000000:=i64_in (by omega) (by omega)
    have z2:IntKind.i64.wrap (rr*1000000000+u[m+n])=rr*1000000000+u[m+n]:=i64_in (by omega) (by omega)
    refine uR aM (by kernel_rfl) [(8,.sl (iv (lim f))),(9,.lsl g4 1 0 L),(10,.sl (iv (lim W))),(11,.int .i64 N),(12,.lsl g5 1 0 (L - N)),(13,.int .i64 m),(15,.int .i64 gg),(16,.int .i64 rr)] _ (upd (upd bl g4 (some ⟨1,iv u⟩)) g5 (some ⟨1,iv (List.replicate (m+1) 0++Q)⟩))
     131 (.bool (decide (1000000000≤gg)|| decide (rr*1000000000+u[m+n]<gg*(dg W n:Nat)))) ⟨rfl,by simp,Sub.refl _⟩ rfl ?_ ?_
    ·by_cases hbig:1000000000≤gg
     ·simp[-binV, -intV,hbig]
     ·have z3:IntKind.i64.wrap (gg*(dg W n:Nat))=gg*(dg W n:Nat):=by
       have q1:0≤gg*(dg W n:Nat):=Int.mul_nonneg hgg (by omega)
       have q2:gg*(dg W n:Nat)≤1000000000*1000000000:=Int.mul_le_mul (by omega) (by omega) (by omega) (by omega)
       exact i64_in (by omega) (by omega)
      simp[-binV, -intV,hbig,i1,i4,i5,p4,l4,c4,hk1,lw2,z1,z2,z3,h54,Ne.symm h54]
    have conv:(1000000000≤gg∨rr*1000000000+u[m+n]<gg*(dg W n:Nat)) ↔ (LB≤gg.toNat∨rr.toNat*LB+u[m+n].toNat<gg.toNat*dg W n):=by
     have e:gg*(dg W n:Nat)=((gg.toNat*dg W n:Nat):Int):=by rw[Int.natCast_mul,Int.toNat_of_nonneg hgg]
     rw[e,hLB];omega
    simp[-binV, -intV]
    refine⟨fun hc=> ?_,fun hc1 hc2=> ?_⟩
    ·obtain⟨d1,d2,d3⟩:=hGC.dec hGI (conv.1 hc)
     have q1:IntKind.i64.wrap (gg - 1)=gg - 1:=i64_in (by omega) (by omega)
     have q2:IntKind.i64.wrap (rr+(dg W (n+1):Nat))=rr+(dg W (n+1):Nat):=i64_in (by omega) (by omega)
     have e1:(gg - 1).toNat=gg.toNat - 1:=by omega
     have e2:(rr+(dg W (n+1):Nat)).toNat=rr.toNat+dg W (n+1):=by omega
     refine aC ?_
     simp[-binV, -intV,q1,q2,i3,p3,c3,lw]
     refine⟨fun hb=> ?_,fun hb=> ?_⟩
     ·obtain⟨f3,f4⟩:=hGC.brk d3 (by rw[hLB];omega) d2
      rw[hLB] at f3
      rw[aH]
      exact⟨⟨gg - 1,0⟩,⟨by simp only;omega,by simp only;omega,by rw[e1];exact f4⟩,rfl,by simp,Sub.refl _⟩
     ·rw[aB]
      exact⟨⟨gg - 1,rr+(dg W (n+1):Nat)⟩,⟨by simp only;omega,by simp only;omega,⟨by rw[e1,e2];exact d3,by rw[e2,hLB];omega,by rw[e1];exact d2⟩⟩,by simp only;omega,rfl,by simp,Sub.refl _⟩
    ·have hn: ¬ (LB≤gg.toNat∨rr.toNat*LB+u[m+n].toNat<gg.toNat*dg W n):=fun hh=>(conv.2 hh).elim (fun h=>by omega) (fun h=>by omega)
     have f4:=hGC.done hGI (by rcases Nat.lt_or_ge gg.toNat LB with h | h;exact h;exact(hn (.inl h)).elim) (by rcases Nat.lt_or_ge (rr.toNat*LB+u[m+n].toNat) (gg.toNat*dg W n) with h | h;exact(hn (.inr h)).elim;exact h)
     rw[aH]
     exact⟨⟨gg,0⟩,⟨hgg,by simp only;omega,f4⟩,rfl,by simp,Sub.refl _⟩
   ·rintro⟨gg,rr⟩ ⟨hgg,hg9,hgD⟩
    simp only at hgg hg9 hgD
    obtain⟨gN,rfl⟩: ∃gN:Nat,gg=gN:=⟨gg.toNat,by omega⟩
    rw[Int.toNat_natCast] at hgD
    have hs:sliV Tryz.prog 27 (.lsl g4 1 0 L) (some (.int .i64 (m:Nat))) none=some (.lsl g4 1 m (L - m)):=by
     simp[sliV]
     rcases Nat.eq_zero_or_pos m with h | h
     ·subst h;simp;omega
     ·simp[show ¬ m=0 by omega,show ¬ m=L by omega];omega
    have hW0:=hGC.V0
    have b4:(upd (upd bl g4 (some ⟨1,iv u⟩)) g5 (some ⟨1,iv (List.replicate (m+1) 0++Q)⟩)) g4=some ⟨1,iv u⟩:=by simp[Ne.symm h54]
    have q5:(iv (List.replicate (m+1) 0++Q))[m]? =some [.int .i64 0]:=by rw[eK _ _ (by simp;omega)];simp
    have lm:m<L - N:=by omega
    refine aE ?_
    simp[hs]
    refine Ve u W gN m N (L - m) g4 hg4 b4 hI.dig hV (by omega) (by omega) (by omega) (by omega) fun O c hk hT=> ?_
    have hOl:=hT.len
    simp
    refine⟨fun hc=> ?_,fun hc=> ?_⟩
    ·have hov:=Ed hI.dig hT hV hk hz hgD hW0 (by omega)
     have q1:IntKind.i64.wrap ((gN:Int) - 1)=(val (u.drop m) / W:Nat):=by rw[i64_in (by omega) (by omega),hov];simp
     have hO9:=hT.dig.at hk
     have hc9:=hT.c1
     simp[hs,q1]
     refine Wa O (O[m+N] - c) W m N (L - m) g4 hg4 hk (by simp[Ne.symm h54]) hT.dig hV (by omega) (by omega) (by omega) fun v W2 d2 hk2 hG=> ?_
     obtain⟨z0,zD,zv⟩:=Ew hI.dig hT hG hV hk hk2 hz hov hW0
     rw[z0]
     have hN2:=hI.next (O:=W2.set (m+N) 0) (by simp[hG.len,hOl,hlen]) zD zv
     simp
     refine aC ?_
     simp[q5,h54,Ne.symm h54,lm]
     rw[aH]
     refine⟨⟨m,W2.set (m+N) 0,((val (u.drop m) / W:Nat):Int)::Q⟩,⟨rfl,hN2⟩,rfl,by simp,sub_eq ?_⟩
     funext x
     simp only[aA,←qS m _ 0 Q,←fG]
     by_cases x1:x=g5
     ·simp[x1]
     ·by_cases x2:x=g4<;>simp[x1,x2]
    ·obtain⟨zD,zq,zv⟩:=Cw hI.dig hT hV hk hgD hW0 (by omega)
     have hN2:=hI.next (O:=O.set (m+N) (O[m+N] - c)) (by simp[hOl,hlen]) zD zv
     refine aC ?_
     rw[zq]
     simp[q5,h54,Ne.symm h54,lm]
     rw[aH]
     refine⟨⟨m,O.set (m+N) (O[m+N] - c),((val (u.drop m) / W:Nat):Int)::Q⟩,⟨rfl,hN2⟩,rfl,by simp,sub_eq ?_⟩
     funext x
     simp only[aA,←qS m _ 0 Q,←fG]
     by_cases x1:x=g5
     ·simp[x1]
     ·by_cases x2:x=g4<;>simp[x1,x2]
  ·rintro⟨j',u',Q'⟩ ⟨hj',hI'⟩
   simp only at hj' hI'
   subst hj'
   have w5:IntKind.i64.wrap ((j':Int) - 1)=(j':Int) - 1:=i64_in (by omega) (by omega)
   refine aC ?_
   simp[w5]
   rw[aB]
   exact⟨⟨j',u',Q'⟩,⟨by simp only;omega,hI'⟩,by simp only;omega,rfl,by simp,Sub.refl _⟩
 ·have e:j=0:=by omega
  subst e
  obtain⟨v1,v2⟩:=hI.done
  obtain⟨s1,s2⟩:=Dn (a:=a) (b:=b) (f:=f) f0
  rw[s1] at v1
  rw[s2] at v2
  have lf:=bA f 0 (by omega)
  have df:dg f 0=f:=(Uv hfl).1
  have hq2:a % b*f / f=a % b:=Nat.mul_div_cancel _ f0
  have hlu:(lim (a % b*f)).length≤1048576:=by
   have:=cD (a:=a % b*f) (b:=a*f) (Nat.mul_le_mul_right _ (Nat.mod_le _ _));omega
  refine cW 1 9 (.sl (iv u)) (upd bl g5 (some ⟨1,iv Q⟩)) (by intro x y;simp only[aA];grind) ?_ ?_
  ·exact dD hg4 (by simp[Ne.symm h54,hb4]) (by simp[Ne.symm h54]) (by simp[hlen]) (nZ u)
  refine cW 1 12 (.sl (iv Q)) bl (by simp[hb5]) ?_ ?_
  ·exact dD hg5 hb5 (by simp) (by simp[hI.aCP]) (nZ Q)
  refine bW aM (by kernel_rfl) ?_
  simp
  refine aO (tN u hI.dig (by omega)) ?_
  simp[v2,lf,df]
  refine aO (uJ _ f hlu f0 f1) ?_
  simp[hq2]
  refine aD (tN Q hI.aH5 (by have:=hI.aCP;omega)) ?_
  simp[v1]
  exact aK [.sl (iv (lim (a / b))),.sl (iv (lim (a % b)))] 1 (by simp) rfl (Sub.refl _)
end Go.Proofs.YticmgmemnpcbbaaGreat.Vm

namespace Go.Proofs.YticmgmemnpcbbaaGreat.Vm
set_option linter.unusedSimpArgs false
set_option linter.unusedVariables false
structure RT where
 neg:Bool
 m:List Int
 d:List Int
 deriving DecidableEq
def rq (q:Rat):RT:=⟨decide (q.num<0),lim q.num.natAbs,lim q.den⟩
def rz :RT:=⟨false,[],[]⟩
def fits (q:Rat):Prop:=(lim q.num.natAbs).length≤24∧(lim q.den).length≤24
instance (q : Rat) : Decidable (fits q) := by unfold fits; infer_instance
def fit (q:Rat):Option Rat:=if fits q then some q else none
def RT.ok (r:RT):Prop:=lim (val r.m)=r.m∧lim (val r.d)=r.d∧r.m.length≤24∧r.d.length≤24∧r.d≠ []∧ ¬ (r.neg=true∧r.m= [])∧Nat.gcd (val r.m) (val r.d)=1
instance (r : RT) : Decidable r.ok := by unfold RT.ok; infer_instance
def RT.num (r:RT):Int:=if r.neg then -(val r.m:Int) else val r.m
def rd (r:RT):Option Rat:=if r.ok then some (mkRat r.num (val r.d)) else none
def ro (x:Option Rat):RT:=match x with | some q=>rq q | none=>rz
@[simp] theorem aSB : ro none = rz := rfl
@[simp] theorem oN (q : Rat) : ro (some q) = rq q := rfl
theorem J6 {n:Int} {d:Nat} (hd:d≠0) (h:Nat.gcd n.natAbs d=1):(mkRat n d).num=n∧(mkRat n d).den=d:=by
 rw[←Rat.normalize_eq_mkRat hd,Rat.normalize_eq hd]
 constructor
 ·show n / ((Nat.gcd n.natAbs d:Nat):Int)=n
  rw[h];simp
 ·show d / Nat.gcd n.natAbs d=d
  rw[h];simp
theorem RT.Cv (r:RT):r.num.natAbs=val r.m:=by
 unfold RT.num;split<;>simp
theorem rd_some {r:RT} {q:Rat} (h:rd r=some q):r=rq q∧fits q:=by
 unfold rd at h
 split at h
 ·rename_i hok
  obtain⟨h1,h2,h3,h4,h5,h6,h7⟩:=hok
  have hq:mkRat r.num (val r.d)=q:=Option.some.inj h
  have hd0:val r.d≠0:=fun h0=>by rw[h0,aW] at h2;exact h5 h2.symm
  have ha:=r.Cv
  obtain⟨e1,e2⟩:=J6 (n:=r.num) hd0 (by rw[ha];exact h7)
  rw[hq] at e1 e2
  have f1:lim q.num.natAbs=r.m:=by rw[e1,ha,h1]
  have f2:lim q.den=r.d:=by rw[e2,h2]
  refine⟨?_,by rw[f1];exact h3,by rw[f2];exact h4⟩
  unfold rq
  rw[f1,f2,e1]
  cases r with
  | mk neg m d =>
    congr 1
    unfold RT.num
    simp only at h1 h6 ⊢
    cases neg
    ·simp
    ·simp
     have:m≠ []:=fun hm=>h6 ⟨rfl,hm⟩
     have:val m≠0:=fun h0=>by rw[h0,aW] at h1;exact this h1.symm
     omega
 ·cases h
theorem Ig {q:Rat} (h:fits q):rd (rq q)=some q:=by
 have hok:(rq q).ok:=by
  unfold rq RT.ok
  simp only[eY]
  refine⟨trivial,trivial,h.1,h.2,fun h0=>q.den_nz (eN.1 h0),?_,q.reduced⟩
  rintro⟨h1,h2⟩
  have h3:q.num.natAbs=0:=eN.1 h2
  have:q.num<0:=by simpa using h1
  omega
 unfold rd
 rw[if_pos hok]
 congr 1
 have:(rq q).num=q.num:=by
  unfold rq RT.num
  simp only[eY]
  by_cases h1:q.num<0
  ·simp[h1];omega
  ·simp[h1];omega
 rw[this]
 show mkRat q.num (val (lim q.den))=q
 rw[eY,Rat.mkRat_self]
theorem aJ3 :rd rz=none:=by
 unfold rd
 rw[if_neg]
 rintro⟨_,_,_,_,h,_⟩
 exact h rfl
theorem Gt {r:RT} :(rd r).isSome=true ↔ r.ok:=by
 unfold rd;split<;>simp_all
theorem Ll :fits 0:=by
 unfold fits
 show(lim 0).length≤24∧(lim 1).length≤24
 rw[aW]
 exact⟨by simp,aL.2 (by decide+kernel)⟩
theorem fits_int {n:Int} (h:n.natAbs≤9223372036854775808):fits (n:Rat):=by
 unfold fits
 refine⟨aL.2 ?_,aL.2 ?_⟩
 ·show n.natAbs<_
  exact Nat.lt_of_le_of_lt h (by decide+kernel)
 ·show 1<_
  decide+kernel
end Go.Proofs.YticmgmemnpcbbaaGreat.Vm
