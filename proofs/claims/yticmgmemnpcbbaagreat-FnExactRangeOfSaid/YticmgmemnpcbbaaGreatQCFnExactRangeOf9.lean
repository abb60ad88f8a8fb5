import Derived.Test.YticmgmemnpcbbaaGreatQCFnExactRangeOf8

namespace Go.Proofs.YticmgmemnpcbbaaGreat.Vm
open Go Go.RowKit Go.Proofs
set_option linter.unusedSimpArgs false
set_option linter.unusedVariables false
theorem O4 {P:Program} {c:Code} {K:Ex→St→Prop} {σ:St} {g:Int} {s:Nat} {els:List (List V)} {e:List V} {v:V} {xs:List Int} {gs:List Int} (k j:Nat) (hb:σ.bl g=some ⟨s,els⟩) (he:els[k]? =some e) (hj:e[j]? =some v) (o:OwnD σ.bl (fl 1 (iv xs)) v gs) (hg:g∉gs)
  (h: ∀(g':Int) (b':Int→Option Blk),b' g=some ⟨s,els.set k (e.set j (.lsl g' 1 0 xs.length))⟩→b' g'=some ⟨1,iv xs⟩→g'≠g→(g'<0→xs= [])→(g'∈gs∨σ.bl g'=none)→(∀x,x≠g→x≠g'→b' x=σ.bl x)→AW P c K ⟨σ.n,σ.sl,b'⟩):AW P c K σ:=by
 rcases dE.1 o with ⟨rfl,rfl,rfl⟩| ⟨g',rfl,rfl,h1,h2⟩
 ·refine dC (g:=g) (s:=s) (els:=els) k j 1 hb he hj fun g' hn hne=> ?_
  refine h g' _ (by rw[aG _ _ _ _ (Ne.symm hne),aY];rfl) (by rw[aY];rfl) hne (fun _=>rfl) (.inr hn) fun x x1 x2=>by rw[aG _ _ _ _ x2,aG _ _ _ _ x1]
 ·have hne:g'≠g:=fun e=>hg (by rw[e];exact List.mem_singleton.2 rfl)
  have e1:e.set j (.lsl g' 1 0 xs.length)=e:=by
   obtain⟨hl,hj2⟩:=List.getElem?_eq_some_iff.1 hj
   rw[←hj2];exact List.set_getElem_self hl
  have e2:els.set k e=els:=by
   obtain⟨hl,he2⟩:=List.getElem?_eq_some_iff.1 he
   rw[←he2];exact List.set_getElem_self hl
  exact h g' σ.bl (by rw[e1,e2];exact hb) h1 hne h2 (.inl (List.mem_singleton.2 rfl)) fun _ _ _=>rfl
structure PJ (bl : Int → Option Blk) (s : Str) (l : List Int) (gp gB gc : Int) (p : PS) : Prop where
 hp:p.b gp=some ⟨5,[[.int .i64 (nR s),.int .i64 (nC s),.lsl p.g 1 0 p.n,.lsl gB 1 0 (nR s),.lsl gc 1 0 (nC s)]]⟩
 hc:p.b gc=some ⟨1,iv (List.replicate (nC s) 0)⟩
 hB:p.b gB=some ⟨1,iv (right s l)⟩
 ha:p.b p.g=some ⟨1,iv (aTo s p.n)⟩
 pp:p.g≠gp
 pc:p.g≠gc
 pB:p.g≠gB
 f:bl p.g=none
 sub:Sub bl p.b
 neg:p.g<0→aTo s p.n= []
theorem kL {bl:Int→Option Blk} {xs:List Int} {v:V} {gs:List Int} (o:OwnD bl (fl 1 (iv xs)) v gs):v.cells= [v]∧v.one=true:=by
 rcases dE.1 o with ⟨_,rfl,_⟩| ⟨g,rfl,_⟩<;>exact⟨rfl,rfl⟩
structure R4 where
 v:V
 gs:List Int
 gc:Int
 gp:Int
 b:Int→Option Blk
set_option maxHeartbeats 2000000 in
theorem H2 (s:Str) (l:List Int) (hL:LOk s l):NW Tryz.prog 117 [.agg s.c,.sl (iv l)] (dPg (bY s l)):=by
 have hs:=hL.sok
 have h6:=hs.nj
 have h8:=hs.nm
 have hfr:=iQ s.js s.js.length
 change(aP s.js).length≤s.js.length at hfr
 have hcn:nC s≤2*s.ms.length:=kW s.ms s.ms.length
 have hrn:nR s≤12:=by unfold nR;omega
 have ew:(who s).length=nC s:=by simp[who,nC]
 have w0:IntKind.i64.wrap (2*((aP s.js).length:Int))=(nR s:Int):=by rw[i64_in (by omega) (by omega)];unfold nR;omega
 refine iX Tryz.func117 rfl rfl (by rw[Tryz.ntmps117];simp) fun bl=> ?_
 rw[Tryz.ntmps117,Tryz.results117]
 refine aE ?_
 simp[Str.c]
 intro g1 hg1 hb1 gr hgr hr1 hbr
 obtain⟨b0,hb0⟩: ∃b0,b0=upd bl gr (some ⟨5,[[.int .i64 0,.int .i64 0,.nils,.nils,.nils]]⟩):=⟨_,rfl⟩
 refine cP 1 2 (.ptr s.c) b0 (by rw[hb0];intro z b hz;simp only[aA] at hz ⊢;grind) (by simp[frz,dropB,hb0,hb1,hr1,Ne.symm hr1,V.cl,Str.c]) ?_
 refine cX [(1,.sl (iv l)),(2,.ptr s.c),(4,.loc gr 5 0 0)] 69 b0 ⟨rfl,by simp[Str.c],Sub.refl _⟩ ?_
 have b0r:b0 gr=some ⟨5,[[.int .i64 0,.int .i64 0,.nils,.nils,.nils]]⟩:=by rw[hb0];simp
 have s0:Sub bl b0:=fun x y hx=>by rw[hb0,aG _ _ _ _ (fun e=>by rw[e,hbr] at hx;cases hx)];exact hx
 clear hb0 hb1 hg1 hr1
 refine aE ?_
 simp[Str.c]
 refine aD (rP s (by omega)) ?_
 simp
 refine aE ?_
 simp[Str.c]
 refine aE ?_
 simp[Str.c]
 refine aD (Eg s hs) ?_
 simp
 refine fZ (fun a:R4=> [(4,.loc gr 5 0 0),(5,.sl (iv (who s))),(6,.sl (iv (sgn s))),(7,.int .i64 s.ms.length),(8,.sl (iv (gW s))),(9,.loc a.gp 5 0 0)]) (fun a=>a.b) (fun a=>OwnD a.b (fl 1 (iv (right s l))) a.v a.gs∧(∀x,x∈a.gs→b0 x=none)∧b0 a.gc=none∧b0 a.gp=none∧a.gc≠a.gp∧a.gc∉a.gs∧a.gp∉a.gs∧a.b a.gc=some ⟨1,List.replicate (nC s) [.int .i64 0]⟩∧a.b a.gp=some ⟨5,[[.int .i64 (nR s),.int .i64 (nC s),.nils,a.v,.lsl a.gc 1 0 (nC s)]]⟩∧Sub b0 a.b∧0≤a.gc∧0≤a.gp) 69 ?_ ?_
 ·refine dD aM b0 (Sub.refl _) [0,1,2,3,4,5,6,7,9,10] 5 14 (by kernel_rfl) ?_
  simp[Str.c,ew]
  refine aO (sK s (by omega)) ?_
  simp[w0,ew]
  refine uG (i:=8) (j:=11) (m:=13) false false false (by kernel_rfl) rfl rfl (by kernel_rfl) rfl rfl (by kernel_rfl) rfl rfl (by kernel_rfl) ?_ ?_ ?_
  ·simp[ew]
   refine cK (kG s l hL) fun vb gb b1 o f fr=> ?_
   have hgb: ∀x,x∈gb→ ∃y,b1 x=some y:=o.has
   have hv:=kL o
   have f0: ∀x,x∈gb→b0 x=none:=fun x hx=>aQ (Sub.refl b0) (f x hx)
   have s8:Sub b0 b1:=fun x y hx=>aS f fr ((Sub.refl b0) x y hx)
   simp
   refine⟨by first | exact s8 | (intro x y hx;have:=s8 x y hx;simp only[aA] at this ⊢;grind),?_⟩
   refine Dw 11 13 false false ?_ ?_
   ·simp[ew,hv]
    refine⟨by omega,by unfold maxLen;omega,fun gc hgc=> ?_⟩
    intros
    have hbc:b1 gc=none:=by first | assumption | (simp only[aA];grind)
    have fc:=aQ s8 hbc
    have s11:Sub b0 (upd (b1) gc (some ⟨1,List.replicate (nC s) [.int .i64 0]⟩)):=fun x y hx=>(by rw[aG _ _ _ _ (fun e=>by rw[e,fc] at hx;cases hx)];exact s8 x y hx)
    refine⟨by first | exact s11 | (intro x y hx;have:=s11 x y hx;simp only[aA] at this ⊢;grind),?_⟩
    refine Dw 12 13 false false ?_ ?_
    ·simp[ew,hv]
     refine⟨by first | exact s11 | (intro x y hx;have:=s11 x y hx;simp only[aA] at this ⊢;grind),?_⟩
     refine Dq 13 false ?_
     simp[ew,hv]
     intro gp hgp
     intros
     have hbp:upd (b1) gc (some ⟨1,List.replicate (nC s) [.int .i64 0]⟩) gp=none:=by first | assumption | (simp only[aA];grind)
     have fp:=aQ s11 hbp
     have s13:Sub b0 (upd (upd (b1) gc (some ⟨1,List.replicate (nC s) [.int .i64 0]⟩)) gp (some ⟨5,[[.int .i64 0,.int .i64 0,.nils,.nils,.nils]]⟩)):=fun x y hx=>(by rw[aG _ _ _ _ (fun e=>by rw[e,fp] at hx;cases hx)];exact s11 x y hx)
     refine⟨by first | exact s13 | (intro x y hx;have:=s13 x y hx;simp only[aA] at this ⊢;grind),?_⟩
     refine Dq 14 true ?_
     have ncp:gp≠gc:=by grind [aA]
     simp[ew,hv,hbp,ncp,Ne.symm ncp]
     have s14:Sub b0 (upd (upd (upd (b1) gc (some ⟨1,List.replicate (nC s) [.int .i64 0]⟩)) gp (some ⟨5,[[.int .i64 0,.int .i64 0,.nils,.nils,.nils]]⟩)) gp (some ⟨5,[[.int .i64 (nR s),.int .i64 (nC s),.nils,vb,.lsl gc 1 0 (nC s)]]⟩)):=fun x y hx=>(by rw[aG _ _ _ _ (fun e=>by rw[e,fp] at hx;cases hx)];exact s13 x y hx)
     refine Dd ?_
     rw[aH]
     exact⟨⟨vb,gb,gc,gp,upd (upd (upd (b1) gc (some ⟨1,List.replicate (nC s) [.int .i64 0]⟩)) gp (some ⟨5,[[.int .i64 0,.int .i64 0,.nils,.nils,.nils]]⟩)) gp (some ⟨5,[[.int .i64 (nR s),.int .i64 (nC s),.nils,vb,.lsl gc 1 0 (nC s)]]⟩)⟩,⟨by first | exact o | exact o.bI fun x hx y hy=>(by grind [aA]),f0,fc,fp,Ne.symm ncp,(by grind [aA]),(by grind [aA]),(by grind [aA]),(by grind [aA]),s14,hgc,hgp⟩,rfl,by simp,by first | exact Sub.refl _ | exact sub_eq (by simp)| (intro x y hx;simp only[aA] at hx ⊢;grind)⟩
    ·simp[ew,hv]
     intro gp hgp
     intros
     have hbp:upd (b1) gc (some ⟨1,List.replicate (nC s) [.int .i64 0]⟩) gp=none:=by first | assumption | (simp only[aA];grind)
     have fp:=aQ s11 hbp
     have s13:Sub b0 (upd (upd (b1) gc (some ⟨1,List.replicate (nC s) [.int .i64 0]⟩)) gp (some ⟨5,[[.int .i64 0,.int .i64 0,.nils,.nils,.nils]]⟩)):=fun x y hx=>(by rw[aG _ _ _ _ (fun e=>by rw[e,fp] at hx;cases hx)];exact s11 x y hx)
     refine⟨by first | exact s13 | (intro x y hx;have:=s13 x y hx;simp only[aA] at this ⊢;grind),?_⟩
     refine Dq 12 false ?_
     simp[ew,hv]
     refine⟨by first | exact s13 | (intro x y hx;have:=s13 x y hx;simp only[aA] at this ⊢;grind),?_⟩
     refine Dq 14 true ?_
     have ncp:gp≠gc:=by grind [aA]
     simp[ew,hv,hbp,ncp,Ne.symm ncp]
     have s14:Sub b0 (upd (upd (upd (b1) gc (some ⟨1,List.replicate (nC s) [.int .i64 0]⟩)) gp (some ⟨5,[[.int .i64 0,.int .i64 0,.nils,.nils,.nils]]⟩)) gp (some ⟨5,[[.int .i64 (nR s),.int .i64 (nC s),.nils,vb,.lsl gc 1 0 (nC s)]]⟩)):=fun x y hx=>(by rw[aG _ _ _ _ (fun e=>by rw[e,fp] at hx;cases hx)];exact s13 x y hx)
     refine Dd ?_
     rw[aH]
     exact⟨⟨vb,gb,gc,gp,upd (upd (upd (b1) gc (some ⟨1,List.replicate (nC s) [.int .i64 0]⟩)) gp (some ⟨5,[[.int .i64 0,.int .i64 0,.nils,.nils,.nils]]⟩)) gp (some ⟨5,[[.int .i64 (nR s),.int .i64 (nC s),.nils,vb,.lsl gc 1 0 (nC s)]]⟩)⟩,⟨by first | exact o | exact o.bI fun x hx y hy=>(by grind [aA]),f0,fc,fp,Ne.symm ncp,(by grind [aA]),(by grind [aA]),(by grind [aA]),(by grind [aA]),s14,hgc,hgp⟩,rfl,by simp,by first | exact Sub.refl _ | exact sub_eq (by simp)| (intro x y hx;simp only[aA] at hx ⊢;grind)⟩
   ·simp[ew,hv]
    intro gp hgp
    intros
    have hbp:b1 gp=none:=by first | assumption | (simp only[aA];grind)
    have fp:=aQ s8 hbp
    have s13:Sub b0 (upd (b1) gp (some ⟨5,[[.int .i64 0,.int .i64 0,.nils,.nils,.nils]]⟩)):=fun x y hx=>(by rw[aG _ _ _ _ (fun e=>by rw[e,fp] at hx;cases hx)];exact s8 x y hx)
    refine⟨by first | exact s13 | (intro x y hx;have:=s13 x y hx;simp only[aA] at this ⊢;grind),?_⟩
    refine Dq 11 false ?_
    simp[ew,hv]
    refine⟨by omega,by unfold maxLen;omega,fun gc hgc=> ?_⟩
    intros
    have hbc:upd (b1) gp (some ⟨5,[[.int .i64 0,.int .i64 0,.nils,.nils,.nils]]⟩) gc=none:=by first | assumption | (simp only[aA];grind)
    have fc:=aQ s13 hbc
    have s11:Sub b0 (upd (upd (b1) gp (some ⟨5,[[.int .i64 0,.int .i64 0,.nils,.nils,.nils]]⟩)) gc (some ⟨1,List.replicate (nC s) [.int .i64 0]⟩)):=fun x y hx=>(by rw[aG _ _ _ _ (fun e=>by rw[e,fc] at hx;cases hx)];exact s13 x y hx)
    refine⟨by first | exact s11 | (intro x y hx;have:=s11 x y hx;simp only[aA] at this ⊢;grind),?_⟩
    refine Dq 12 false ?_
    simp[ew,hv]
    refine⟨by first | exact s11 | (intro x y hx;have:=s11 x y hx;simp only[aA] at this ⊢;grind),?_⟩
    refine Dq 14 true ?_
    have ncp:gp≠gc:=by grind [aA]
    simp[ew,hv,hbp,ncp,Ne.symm ncp]
    have s14:Sub b0 (upd (upd (upd (b1) gp (some ⟨5,[[.int .i64 0,.int .i64 0,.nils,.nils,.nils]]⟩)) gc (some ⟨1,List.replicate (nC s) [.int .i64 0]⟩)) gp (some ⟨5,[[.int .i64 (nR s),.int .i64 (nC s),.nils,vb,.lsl gc 1 0 (nC s)]]⟩)):=fun x y hx=>(by rw[aG _ _ _ _ (fun e=>by rw[e,fp] at hx;cases hx)];exact s11 x y hx)
    refine Dd ?_
    rw[aH]
    exact⟨⟨vb,gb,gc,gp,upd (upd (upd (b1) gp (some ⟨5,[[.int .i64 0,.int .i64 0,.nils,.nils,.nils]]⟩)) gc (some ⟨1,List.replicate (nC s) [.int .i64 0]⟩)) gp (some ⟨5,[[.int .i64 (nR s),.int .i64 (nC s),.nils,vb,.lsl gc 1 0 (nC s)]]⟩)⟩,⟨by first | exact o | exact o.bI fun x hx y hy=>(by grind [aA]),f0,fc,fp,Ne.symm ncp,(by grind [aA]),(by grind [aA]),(by grind [aA]),(by grind [aA]),s14,hgc,hgp⟩,rfl,by simp,by first | exact Sub.refl _ | exact sub_eq (by simp)| (intro x y hx;simp only[aA] at hx ⊢;grind)⟩
  ·simp[ew]
   refine⟨by omega,by unfold maxLen;omega,fun gc hgc=> ?_⟩
   intros
   have hbc:b0 gc=none:=by first | assumption | (simp only[aA];grind)
   have fc:=aQ (Sub.refl b0) hbc
   have s11:Sub b0 (upd (b0) gc (some ⟨1,List.replicate (nC s) [.int .i64 0]⟩)):=fun x y hx=>(by rw[aG _ _ _ _ (fun e=>by rw[e,fc] at hx;cases hx)];exact(Sub.refl b0) x y hx)
   refine⟨by first | exact s11 | (intro x y hx;have:=s11 x y hx;simp only[aA] at this ⊢;grind),?_⟩
   refine Dw 8 13 false false ?_ ?_
   ·simp[ew]
    refine cK (kG s l hL) fun vb gb b1 o f fr=> ?_
    have hgb: ∀x,x∈gb→ ∃y,b1 x=some y:=o.has
    have hv:=kL o
    have f0: ∀x,x∈gb→b0 x=none:=fun x hx=>aQ s11 (f x hx)
    have s8:Sub b0 b1:=fun x y hx=>aS f fr (s11 x y hx)
    simp
    refine⟨by first | exact s8 | (intro x y hx;have:=s8 x y hx;simp only[aA] at this ⊢;grind),?_⟩
    refine Dw 12 13 false false ?_ ?_
    ·simp[ew,hv]
     refine⟨by first | exact s8 | (intro x y hx;have:=s8 x y hx;simp only[aA] at this ⊢;grind),?_⟩
     refine Dq 13 false ?_
     simp[ew,hv]
     intro gp hgp
     intros
     have hbp:b1 gp=none:=by first | assumption | (simp only[aA];grind)
     have fp:=aQ s8 hbp
     have s13:Sub b0 (upd (b1) gp (some ⟨5,[[.int .i64 0,.int .i64 0,.nils,.nils,.nils]]⟩)):=fun x y hx=>(by rw[aG _ _ _ _ (fun e=>by rw[e,fp] at hx;cases hx)];exact s8 x y hx)
     refine⟨by first | exact s13 | (intro x y hx;have:=s13 x y hx;simp only[aA] at this ⊢;grind),?_⟩
     refine Dq 14 true ?_
     have ncp:gp≠gc:=by grind [aA]
     simp[ew,hv,hbp,ncp,Ne.symm ncp]
     have s14:Sub b0 (upd (upd (b1) gp (some ⟨5,[[.int .i64 0,.int .i64 0,.nils,.nils,.nils]]⟩)) gp (some ⟨5,[[.int .i64 (nR s),.int .i64 (nC s),.nils,vb,.lsl gc 1 0 (nC s)]]⟩)):=fun x y hx=>(by rw[aG _ _ _ _ (fun e=>by rw[e,fp] at hx;cases hx)];exact s13 x y hx)
     refine Dd ?_
     rw[aH]
     exact⟨⟨vb,gb,gc,gp,upd (upd (b1) gp (some ⟨5,[[.int .i64 0,.int .i64 0,.nils,.nils,.nils]]⟩)) gp (some ⟨5,[[.int .i64 (nR s),.int .i64 (nC s),.nils,vb,.lsl gc 1 0 (nC s)]]⟩)⟩,⟨by first | exact o | exact o.bI fun x hx y hy=>(by grind [aA]),f0,fc,fp,Ne.symm ncp,(by grind [aA]),(by grind [aA]),(by grind [aA]),(by grind [aA]),s14,hgc,hgp⟩,rfl,by simp,by first | exact Sub.refl _ | exact sub_eq (by simp)| (intro x y hx;simp only[aA] at hx ⊢;grind)⟩
    ·simp[ew,hv]
     intro gp hgp
     intros
     have hbp:b1 gp=none:=by first | assumption | (simp only[aA];grind)
     have fp:=aQ s8 hbp
     have s13:Sub b0 (upd (b1) gp (some ⟨5,[[.int .i64 0,.int .i64 0,.nils,.nils,.nils]]⟩)):=fun x y hx=>(by rw[aG _ _ _ _ (fun e=>by rw[e,fp] at hx;cases hx)];exact s8 x y hx)
     refine⟨by first | exact s13 | (intro x y hx;have:=s13 x y hx;simp only[aA] at this ⊢;grind),?_⟩
     refine Dq 12 false ?_
     simp[ew,hv]
     refine⟨by first | exact s13 | (intro x y hx;have:=s13 x y hx;simp only[aA] at this ⊢;grind),?_⟩
     refine Dq 14 true ?_
     have ncp:gp≠gc:=by grind [aA]
     simp[ew,hv,hbp,ncp,Ne.symm ncp]
     have s14:Sub b0 (upd (upd (b1) gp (some ⟨5,[[.int .i64 0,.int .i64 0,.nils,.nils,.nils]]⟩)) gp (some ⟨5,[[.int .i64 (nR s),.int .i64 (nC s),.nils,vb,.lsl gc 1 0 (nC s)]]⟩)):=fun x y hx=>(by rw[aG _ _ _ _ (fun e=>by rw[e,fp] at hx;cases hx)];exact s13 x y hx)
     refine Dd ?_
     rw[aH]
     exact⟨⟨vb,gb,gc,gp,upd (upd (b1) gp (some ⟨5,[[.int .i64 0,.int .i64 0,.nils,.nils,.nils]]⟩)) gp (some ⟨5,[[.int .i64 (nR s),.int .i64 (nC s),.nils,vb,.lsl gc 1 0 (nC s)]]⟩)⟩,⟨by first | exact o | exact o.bI fun x hx y hy=>(by grind [aA]),f0,fc,fp,Ne.symm ncp,(by grind [aA]),(by grind [aA]),(by grind [aA]),(by grind [aA]),s14,hgc,hgp⟩,rfl,by simp,by first | exact Sub.refl _ | exact sub_eq (by simp)| (intro x y hx;simp only[aA] at hx ⊢;grind)⟩
   ·simp[ew]
    intro gp hgp
    intros
    have hbp:upd (b0) gc (some ⟨1,List.replicate (nC s) [.int .i64 0]⟩) gp=none:=by first | assumption | (simp only[aA];grind)
    have fp:=aQ s11 hbp
    have s13:Sub b0 (upd (upd (b0) gc (some ⟨1,List.replicate (nC s) [.int .i64 0]⟩)) gp (some ⟨5,[[.int .i64 0,.int .i64 0,.nils,.nils,.nils]]⟩)):=fun x y hx=>(by rw[aG _ _ _ _ (fun e=>by rw[e,fp] at hx;cases hx)];exact s11 x y hx)
    refine⟨by first | exact s13 | (intro x y hx;have:=s13 x y hx;simp only[aA] at this ⊢;grind),?_⟩
    refine Dq 8 false ?_
    simp[ew]
    refine cK (kG s l hL) fun vb gb b1 o f fr=> ?_
    have hgb: ∀x,x∈gb→ ∃y,b1 x=some y:=o.has
    have hv:=kL o
    have f0: ∀x,x∈gb→b0 x=none:=fun x hx=>aQ s13 (f x hx)
    have s8:Sub b0 b1:=fun x y hx=>aS f fr (s13 x y hx)
    simp
    refine⟨by first | exact s8 | (intro x y hx;have:=s8 x y hx;simp only[aA] at this ⊢;grind),?_⟩
    refine Dq 12 false ?_
    simp[ew,hv]
    refine⟨by first | exact s8 | (intro x y hx;have:=s8 x y hx;simp only[aA] at this ⊢;grind),?_⟩
    refine Dq 14 true ?_
    have ncp:gp≠gc:=by grind [aA]
    have hq:b1 gp=some ⟨5,[[.int .i64 0,.int .i64 0,.nils,.nils,.nils]]⟩:=by grind [aA]
    simp[ew,hv,hbp,ncp,Ne.symm ncp,hq]
    have s14:Sub b0 (upd (b1) gp (some ⟨5,[[.int .i64 (nR s),.int .i64 (nC s),.nils,vb,.lsl gc 1 0 (nC s)]]⟩)):=fun x y hx=>(by rw[aG _ _ _ _ (fun e=>by rw[e,fp] at hx;cases hx)];exact s8 x y hx)
    refine Dd ?_
    rw[aH]
    exact⟨⟨vb,gb,gc,gp,upd (b1) gp (some ⟨5,[[.int .i64 (nR s),.int .i64 (nC s),.nils,vb,.lsl gc 1 0 (nC s)]]⟩)⟩,⟨by first | exact o | exact o.bI fun x hx y hy=>(by grind [aA]),f0,fc,fp,Ne.symm ncp,(by grind [aA]),(by grind [aA]),(by grind [aA]),(by grind [aA]),s14,hgc,hgp⟩,rfl,by simp,by first | exact Sub.refl _ | exact sub_eq (by simp)| (intro x y hx;simp only[aA] at hx ⊢;grind)⟩
  ·simp[ew]
   intro gp hgp
   intros
   have hbp:b0 gp=none:=by first | assumption | (simp only[aA];grind)
   have fp:=aQ (Sub.refl b0) hbp
   have s13:Sub b0 (upd (b0) gp (some ⟨5,[[.int .i64 0,.int .i64 0,.nils,.nils,.nils]]⟩)):=fun x y hx=>(by rw[aG _ _ _ _ (fun e=>by rw[e,fp] at hx;cases hx)];exact(Sub.refl b0) x y hx)
   refine⟨by first | exact s13 | (intro x y hx;have:=s13 x y hx;simp only[aA] at this ⊢;grind),?_⟩
   refine Dw 8 11 false false ?_ ?_
   ·simp[ew]
    refine cK (kG s l hL) fun vb gb b1 o f fr=> ?_
    have hgb: ∀x,x∈gb→ ∃y,b1 x=some y:=o.has
    have hv:=kL o
    have f0: ∀x,x∈gb→b0 x=none:=fun x hx=>aQ s13 (f x hx)
    have s8:Sub b0 b1:=fun x y hx=>aS f fr (s13 x y hx)
    simp
    refine⟨by first | exact s8 | (intro x y hx;have:=s8 x y hx;simp only[aA] at this ⊢;grind),?_⟩
    refine Dq 11 false ?_
    simp[ew,hv]
    refine⟨by omega,by unfold maxLen;omega,fun gc hgc=> ?_⟩
    intros
    have hbc:b1 gc=none:=by first | assumption | (simp only[aA];grind)
    have fc:=aQ s8 hbc
    have s11:Sub b0 (upd (b1) gc (some ⟨1,List.replicate (nC s) [.int .i64 0]⟩)):=fun x y hx=>(by rw[aG _ _ _ _ (fun e=>by rw[e,fc] at hx;cases hx)];exact s8 x y hx)
    refine⟨by first | exact s11 | (intro x y hx;have:=s11 x y hx;simp only[aA] at this ⊢;grind),?_⟩
    refine Dq 12 false ?_
    simp[ew,hv]
    refine⟨by first | exact s11 | (intro x y hx;have:=s11 x y hx;simp only[aA] at this ⊢;grind),?_⟩
    refine Dq 14 true ?_
    have ncp:gp≠gc:=by grind [aA]
    have hq:b1 gp=some ⟨5,[[.int .i64 0,.int .i64 0,.nils,.nils,.nils]]⟩:=by grind [aA]
    simp[ew,hv,hbp,ncp,Ne.symm ncp,hq]
    have s14:Sub b0 (upd (upd (b1) gc (some ⟨1,List.replicate (nC s) [.int .i64 0]⟩)) gp (some ⟨5,[[.int .i64 (nR s),.int .i64 (nC s),.nils,vb,.lsl gc 1 0 (nC s)]]⟩)):=fun x y hx=>(by rw[aG _ _ _ _ (fun e=>by rw[e,fp] at hx;cases hx)];exact s11 x y hx)
    refine Dd ?_
    rw[aH]
    exact⟨⟨vb,gb,gc,gp,upd (upd (b1) gc (some ⟨1,List.replicate (nC s) [.int .i64 0]⟩)) gp (some ⟨5,[[.int .i64 (nR s),.int .i64 (nC s),.nils,vb,.lsl gc 1 0 (nC s)]]⟩)⟩,⟨by first | exact o | exact o.bI fun x hx y hy=>(by grind [aA]),f0,fc,fp,Ne.symm ncp,(by grind [aA]),(by grind [aA]),(by grind [aA]),(by grind [aA]),s14,hgc,hgp⟩,rfl,by simp,by first | exact Sub.refl _ | exact sub_eq (by simp)| (intro x y hx;simp only[aA] at hx ⊢;grind)⟩
   ·simp[ew]
    refine⟨by omega,by unfold maxLen;omega,fun gc hgc=> ?_⟩
    intros
    have hbc:upd (b0) gp (some ⟨5,[[.int .i64 0,.int .i64 0,.nils,.nils,.nils]]⟩) gc=none:=by first | assumption | (simp only[aA];grind)
    have fc:=aQ s13 hbc
    have s11:Sub b0 (upd (upd (b0) gp (some ⟨5,[[.int .i64 0,.int .i64 0,.nils,.nils,.nils]]⟩)) gc (some ⟨1,List.replicate (nC s) [.int .i64 0]⟩)):=fun x y hx=>(by rw[aG _ _ _ _ (fun e=>by rw[e,fc] at hx;cases hx)];exact s13 x y hx)
    refine⟨by first | exact s11 | (intro x y hx;have:=s11 x y hx;simp only[aA] at this ⊢;grind),?_⟩
    refine Dq 8 false ?_
    simp[ew]
    refine cK (kG s l hL) fun vb gb b1 o f fr=> ?_
    have hgb: ∀x,x∈gb→ ∃y,b1 x=some y:=o.has
    have hv:=kL o
    have f0: ∀x,x∈gb→b0 x=none:=fun x hx=>aQ s11 (f x hx)
    have s8:Sub b0 b1:=fun x y hx=>aS f fr (s11 x y hx)
    simp
    refine⟨by first | exact s8 | (intro x y hx;have:=s8 x y hx;simp only[aA] at this ⊢;grind),?_⟩
    refine Dq 12 false ?_
    simp[ew,hv]
    refine⟨by first | exact s8 | (intro x y hx;have:=s8 x y hx;simp only[aA] at this ⊢;grind),?_⟩
    refine Dq 14 true ?_
    have ncp:gp≠gc:=by grind [aA]
    have hq:b1 gp=some ⟨5,[[.int .i64 0,.int .i64 0,.nils,.nils,.nils]]⟩:=by grind [aA]
    simp[ew,hv,hbp,ncp,Ne.symm ncp,hq]
    have s14:Sub b0 (upd (b1) gp (some ⟨5,[[.int .i64 (nR s),.int .i64 (nC s),.nils,vb,.lsl gc 1 0 (nC s)]]⟩)):=fun x y hx=>(by rw[aG _ _ _ _ (fun e=>by rw[e,fp] at hx;cases hx)];exact s8 x y hx)
    refine Dd ?_
    rw[aH]
    exact⟨⟨vb,gb,gc,gp,upd (b1) gp (some ⟨5,[[.int .i64 (nR s),.int .i64 (nC s),.nils,vb,.lsl gc 1 0 (nC s)]]⟩)⟩,⟨by first | exact o | exact o.bI fun x hx y hy=>(by grind [aA]),f0,fc,fp,Ne.symm ncp,(by grind [aA]),(by grind [aA]),(by grind [aA]),(by grind [aA]),s14,hgc,hgp⟩,rfl,by simp,by first | exact Sub.refl _ | exact sub_eq (by simp)| (intro x y hx;simp only[aA] at hx ⊢;grind)⟩
 rintro⟨vb,gb,gc,gp,b1⟩ ⟨o,f0,fc,fp,ncp,nc,np,bc,bp,hsb,hgc,hgp⟩
 simp only at o f0 fc fp ncp nc np bc bp hsb hgc hgp
 refine O4 (g:=gp) (s:=5) (els:= [[.int .i64 (nR s),.int .i64 (nC s),.nils,vb,.lsl gc 1 0 (nC s)]]) 0 3 bp rfl rfl o np fun gB b2 b2p b2B nBp aSV Bor b2x=> ?_
 have nBc:gB≠gc:=fun e=>by
  rcases Bor with h | h
  ·exact nc (e▸h)
  ·have h:b1 gB=none:=h
   rw[e,bc] at h;cases h
 have fB:b0 gB=none:=by
  rcases Bor with h | h
  ·exact f0 gB h
  ·exact aQ hsb h
 have b2c:=(b2x gc ncp (Ne.symm nBc)).trans bc
 have s2:Sub b0 b2:=fun x y hx=>by
  rw[b2x x (fun e=>by rw[e,fp] at hx;cases hx) (fun e=>by rw[e,fB] at hx;cases hx)];exact hsb x y hx
 clear bp bc b2x hsb Bor o f0 nc np
 rw[show(right s l).length=nR s from eR s l] at b2p
 refine dC (g:=gp) 0 2 1 (s:=5) (els:= [[.int .i64 (nR s),.int .i64 (nC s),.nils,.lsl gB 1 0 (nR s),.lsl gc 1 0 (nC s)]]) b2p rfl rfl fun ga hga aBA=> ?_
 have hga:b2 ga=none:=hga
 have fa:b0 ga=none:=aQ s2 hga
 have nac:ga≠gc:=fun e=>by rw[e,b2c] at hga;cases hga
 have naB:ga≠gB:=fun e=>by rw[e,b2B] at hga;cases hga
 refine aN ?_
 refine aC ?_
 simp
 refine aJ (fun p:Nat×PS=> [(4,.loc gr 5 0 0),(5,.sl (iv (who s))),(6,.sl (iv (sgn s))),(7,.int .i64 s.ms.length),(8,.sl (iv (gW s))),(9,.loc gp 5 0 0),(10,.int .i64 p.1)]) (fun p=>p.2.b) (fun p=>p.1≤nR s∧p.2.n=p.1*nC s∧PJ b0 s l gp gB gc p.2) (fun p=>nR s - p.1) _ (0,⟨0,ga,_⟩) ⟨Nat.zero_le _,by simp,⟨?_,?_,?_,?_,aBA,nac,naB,fa,?_,fun _=>rfl⟩⟩ ⟨rfl,by simp,sub_eq rfl⟩ ?_
 ·simp[Ne.symm aBA]
 ·simp[Ne.symm nac,Ne.symm ncp,ncp,b2c,iv]
 ·simp[Ne.symm naB,nBp,b2B]
 ·simp[aTo,iv]
 ·intro x y hx
  have h1:x≠gp:=fun e=>by rw[e,fp] at hx;cases hx
  have h2:x≠ga:=fun e=>by rw[e,fa] at hx;cases hx
  simp[h1,h2,s2 x y hx]
 clear hga aBA nac naB fa b2p s2
 rintro⟨i,n,g,b⟩ ⟨hi,hn,P⟩
 simp only at hi hn
 subst hn
 have hP:=P.hp
 simp only at hP
 refine aN ?_
 refine aC ?_
 simp[hP]
 refine⟨fun h=> ?_,fun h=> ?_⟩
 ·refine aN (aT ?_)
  refine aC ?_
  simp[ew]
  refine aJ (fun p:Nat×PS=> [(4,.loc gr 5 0 0),(5,.sl (iv (who s))),(6,.sl (iv (sgn s))),(7,.int .i64 s.ms.length),(8,.sl (iv (gW s))),(9,.loc gp 5 0 0),(10,.int .i64 i),(42,.sl (iv (who s))),(43,.int .i64 (nC s)),(44,.int .i64 p.1)]) (fun p=>p.2.b) (fun p=>p.1≤nC s∧p.2.n=i*nC s+p.1∧PJ b0 s l gp gB gc p.2) (fun p=>nC s - p.1) _ (0,⟨i*nC s,g,b⟩) ⟨Nat.zero_le _,rfl,P⟩ ⟨rfl,by simp,sub_eq rfl⟩ ?_
  rintro⟨c,n,g,b⟩ ⟨hc,hn,P⟩
  simp only at hc hn
  subst hn
  obtain⟨hp,hcc,hBB,ha,npp,npc,npB,hf,jG,cL⟩:=P
  simp only at hp hcc hBB ha npp npc npB hf jG cL
  refine aE ?_
  simp
  refine aE ?_
  simp
  refine⟨fun hcl=> ?_,fun hcl=> ?_⟩
  ·refine aN (aT ?_)
   have qw:=Qq s c hcl
   have qs:=Pu s c hcl
   obtain⟨⟨k0,k1⟩,k2⟩:=nJ s c hcl
   refine aE ?_
   simp[-eG,qw]
   obtain⟨⟨k,sg⟩,hk⟩: ∃k,dJ s c=k:=⟨_,rfl⟩
   rw[hk] at qw qs k0 k1 k2 ⊢
   simp only at qw qs k0 k1 k2 ⊢
   have m1:i*s.ms.length≤12*8:=Nat.mul_le_mul (by omega) (by omega)
   have mi:((i*s.ms.length:Nat):Int)=(i:Int)*s.ms.length:=by simp
   have w1:IntKind.i64.wrap ((i:Int)*s.ms.length)=(i:Int)*s.ms.length:=i64_in (by omega) (by omega)
   have w2:IntKind.i64.wrap ((i:Int)*s.ms.length+k)=(i:Int)*s.ms.length+k:=i64_in (by omega) (by omega)
   have e1:((i:Int)*s.ms.length+k).toNat=i*s.ms.length+k.toNat:=by omega
   have ei:i*s.ms.length+k.toNat<(gW s).length:=by
    rw[O7]
    have:(i+1)*s.ms.length≤nR s*s.ms.length:=Nat.mul_le_mul_right _ h
    rw[Nat.add_mul] at this;omega
   have qr:=wW ei
   rw[←e1] at qr
   have bd:=zG hs (i*s.ms.length+k.toNat)
   rw[←e1] at bd
   have en:ent s i c=sg*lat (gW s) ((i:Int)*s.ms.length+k).toNat:=by unfold ent;rw[hk,e1]
   have w3:IntKind.i64.wrap (sg*lat (gW s) ((i:Int)*s.ms.length+k).toNat)=ent s i c:=by
    rw[en];rcases k2 with rfl | rfl<;>exact i64_in (by omega) (by omega)
   have p1:0≤(i:Int)*s.ms.length+k:=by omega
   have mc:(i+1)*nC s≤12*16:=Nat.mul_le_mul (by omega) (by omega)
   rw[Nat.add_mul] at mc
   obtain⟨m,hm⟩: ∃m,i*nC s+c=m:=⟨_,rfl⟩
   rw[hm] at hp ha cL
   have tka:(iv (aTo s m)).take m=iv (aTo s m):=List.take_of_length_le (by simp)
   refine dD aM (rem b g) (cW b g) [0,1,2,3,4,5,6,7,8,9,10,11,12,13,14] 4 18 (by kernel_rfl) ?_
   simp[-eG,Ne.symm npp,hp,w1,w2,w3,qs,qr,p1]
   refine Dq 15 false ?_
   simp
   intro g4 hg4 hb4
   have n4g:g4≠g:=fun e=>by rw[e,ha] at hb4;cases hb4
   have n4p:g4≠gp:=fun e=>by rw[e,hp] at hb4;cases hb4
   have rI: ∀X,Sub (rem b g) (upd b g4 X):=fun X z y hz=>by
    rw[aF] at hz
    rw[aA]
    grind
   refine⟨rI _,Dq 16 false ?_⟩
   simp[n4g,Ne.symm n4g,appV,elsV,Int.not_lt.2 hg4,ha,tka]
   have hsn:iv (aTo s m)++ [[.int .i64 (ent s i c)]]=iv (aTo s (m+1)):=by rw[←hm,Qy s i c hcl,aV,jW]
   rw[hsn]
   refine⟨by omega,fun gN hgN hbN=> ?_⟩
   have nN:gN≠gp∧gN≠gc∧gN≠gB∧gN≠g4∧b0 gN=none:=by
    by_cases e:gN=g
    ·subst e
     exact⟨npp,npc,npB,Ne.symm n4g,hf⟩
    ·obtain⟨q1,q2⟩:=hbN e
     exact⟨fun e=>(by rw[e,hp] at q2;cases q2),fun e=>(by rw[e,hcc] at q2;cases q2),fun e=>(by rw[e,hBB] at q2;cases q2),q1,aQ jG q2⟩
   obtain⟨nNp,nNc,nNB,nN4,fN⟩:=nN
   have gY: ∀X Y,Sub (rem b g) (upd (rem (upd b g4 X) g) gN Y):=fun X Y z y hz=>by
    rw[aF] at hz
    rw[aA,aF,aA]
    grind
   have kJ: ∀X Y Z,Sub (upd (upd (rem b g) gN Y) gp Z) (upd (upd (rem (upd b g4 X) g) gN Y) gp Z):=fun X Y Z z y hz=>by
    simp only[aA,aF] at hz ⊢
    grind
   refine⟨gY _ _,Dq 17 false ?_⟩
   simp
   refine⟨gY _ _,Dq 18 true ?_⟩
   simp[Ne.symm nNp,Ne.symm npp,n4p,Ne.symm n4p,hp]
   refine Dd ?_
   have w4:IntKind.i64.wrap ((c:Int)+1)=c+1:=i64_in (by omega) (by omega)
   simp
   refine aC ?_
   simp[w4,aB]
   obtain⟨b4,iG⟩: ∃b4,b4=upd (upd (rem b g) gN (some ⟨1,iv (aTo s (m+1))⟩)) gp (some ⟨5,[[.int .i64 (nR s),.int .i64 (nC s),.lsl gN 1 0 (m+1),.lsl gB 1 0 (nR s),.lsl gc 1 0 (nC s)]]⟩):=⟨_,rfl⟩
   refine⟨c+1,⟨m+1,gN,b4⟩,⟨by omega,by simp only;omega,⟨by rw[iG];simp,by rw[iG];simp[Ne.symm nNc,Ne.symm npc,ncp,hcc],by rw[iG];simp[Ne.symm nNB,Ne.symm npB,nBp,hBB],by rw[iG];simp[nNp],nNp,nNc,nNB,fN,fun x y hx=> ?_,fun e=>by simp only at e;omega⟩⟩,by omega,rfl,by simp,by rw[iG];exact kJ _ _ _⟩
   have h1:x≠gp:=fun e=>by rw[e,fp] at hx;cases hx
   have h2:x≠gN:=fun e=>by rw[e,fN] at hx;cases hx
   have h3:x≠g:=fun e=>by rw[e,hf] at hx;cases hx
   simp only
   rw[iG];simp[h1,h2,h3];exact jG x y hx
  ·have:c=nC s:=by omega
   subst this
   have w5:IntKind.i64.wrap ((i:Int)+1)=i+1:=i64_in (by omega) (by omega)
   refine aC ?_
   simp[w5,aB]
   refine⟨i+1,⟨i*nC s+nC s,g,b⟩,⟨by omega,by rw[Nat.add_mul];simp,⟨hp,hcc,hBB,ha,npp,npc,npB,hf,jG,cL⟩⟩,by omega,rfl,by simp,sub_eq rfl⟩
 ·have:i=nR s:=by omega
  subst this
  obtain⟨hp,hcc,hBB,ha,npp,npc,npB,hf,jG,cL⟩:=P
  simp only at hp hcc hBB ha npp npc npB hf jG cL
  have nrp:gr≠gp:=fun e=>by rw[e,fp] at b0r;cases b0r
  have nrg:gr≠g:=fun e=>by rw[e,hf] at b0r;cases b0r
  have nrB:gr≠gB:=fun e=>by rw[e,fB] at b0r;cases b0r
  have nrc:gr≠gc:=fun e=>by rw[e,fc] at b0r;cases b0r
  have bgr:=jG _ _ b0r
  refine aC ?_
  simp[hp,bgr]
  have fl: ∀x,b0 x=none→bl x=none:=fun x hx=>aQ s0 hx
  refine gH [.agg [.int .i64 (nR s),.int .i64 (nC s),.lsl g 1 0 (nR s*nC s),.lsl gB 1 0 (nR s),.lsl gc 1 0 (nC s)]] ([g]++([gB]++ [gc])) (by simp) (Ew.2 ⟨_,_,_,[g],[gB],[gc],rfl,rfl,by simp[npB,npc],by simp[nBc],dE.2 (.inr ⟨g,by simp[bY],rfl,?_,cL⟩),dE.2 (.inr ⟨gB,by simp[bY,eR],rfl,?_,aSV⟩),dE.2 (.inr ⟨gc,by simp[bY],rfl,?_,by omega⟩)⟩) (by simp[fl _ hf,fl _ fB,fl _ fc]) fun x y hx=> ?_
  ·show upd b gr _ g=_
   rw[aG _ _ _ _ (Ne.symm nrg)];exact ha
  ·show upd b gr _ gB=_
   rw[aG _ _ _ _ (Ne.symm nrB)];exact hBB
  ·show upd b gr _ gc=_
   rw[aG _ _ _ _ (Ne.symm nrc)];exact hcc
  ·show upd b gr _ x=_
   rw[aG _ _ _ _ (fun e=>by rw[e,hbr] at hx;cases hx)]
   exact jG x y (s0 x y hx)

theorem Pc (s:Str):(aP s.js).length≤s.js.length:=by
 unfold aP cA
 rw[List.length_map]
 exact Nat.le_trans (List.length_filter_le _ _) (by simp)
theorem aJ3 {s:Str} (h:SOk s):nR s≤12:=by have:=Pc s;have:=h.nj;unfold nR;omega
theorem Sm {s:Str} (h:SOk s):nC s≤16:=by
 have:=kW s.ms s.ms.length;have:=h.nm
 unfold nC bD;omega
theorem Qz {l:List Int} {n:Nat} (h: ∀i,i<l.length→ -100≤lat l i∧lat l i≤100):(lat l n).natAbs≤100:=by
 by_cases hn:n<l.length
 ·have:=h n hn;omega
 ·have:lat l n=0:=by simp[lat,hn]
  rw[this];decide
theorem Na {s:Str} {l:List Int} (h:LOk s l): ∀x,x∈right s l→x.natAbs≤100:=by
 intro x hx
 unfold right at hx
 obtain⟨j, -,hx⟩:=List.mem_flatMap.1 hx
 have h1:=Qz (n:=(2*j).toNat) h.f
 have h2:=Qz (n:=(2*j+1).toNat) h.f
 rcases List.mem_cons.1 hx with rfl | hx
 ·omega
 ·have:=List.mem_singleton.1 hx;subst this;omega
theorem Zz {s:Str} (h:SOk s) (i c:Nat) (hc:c<nC s):(ent s i c).natAbs≤100:=by
 obtain⟨-,h2⟩:=nJ s c hc
 have h3:=zG h (i*s.ms.length+(dJ s c).1.toNat)
 unfold ent
 rw[Int.natAbs_mul]
 rcases h2 with e | e<;>rw[e]<;>simp<;>omega
theorem aA9 {s:Str} (h:SOk s): ∀x,x∈aTo s (nR s*nC s)→x.natAbs≤100:=by
 intro x hx
 unfold aTo at hx
 obtain⟨t,ht,rfl⟩:=List.mem_map.1 hx
 have ht':t<nR s*nC s:=by simpa using ht
 refine Zz h _ _ (Nat.mod_lt _ ?_)
 rcases Nat.eq_zero_or_pos (nC s) with e | e
 ·rw[e] at ht';omega
 ·exact e
theorem Lu {s:Str} {l:List Int} (h:LOk s l):PgN (bY s l) (nC s) (nR s):=by
 have h1:=aJ3 h.sok
 have h2:=Sm h.sok
 refine⟨rfl,rfl,by simp[bY],eR s l,by simp[bY],fun x hx=> ?_,fun x hx=> ?_,fun x hx=> ?_,by omega,by omega⟩
 ·have:=aA9 h.sok x hx;omega
 ·have:=Na h x hx;omega
 ·have:x=0:=by
   simp only[bY] at hx
   exact(List.mem_replicate.1 hx).2
  rw[this];decide

def kO (s:Str) (j sg:Int):Nat→Int:=fun c=>if(dJ s c).1=j then sg*(dJ s c).2 else 0
def lL (s:Str) (j sg:Int) (k:Nat):Nat→Int:=fun c=>if c<k then kO s j sg c else 0
def bJ (s:Str) (l:List Int) (j sg:Int):Pg:= { bY s l with c:=lz (nC s) (kO s j sg) }
theorem mS {n:Nat} {f g:Nat→Int} (h: ∀c,c<n→f c=g c):lz n f=lz n g:=List.map_congr_left fun c hc=>h c (by simpa using hc)
theorem zC (s:Str) (j sg:Int):lz (nC s) (lL s j sg 0)=List.replicate (nC s) 0:=by
 apply List.ext_getElem
 ·simp
 ·intro i h1 h2
  simp[lz,lL]
theorem Lj (s:Str) (j sg:Int):lz (nC s) (lL s j sg (nC s))=lz (nC s) (kO s j sg):=mS fun c hc=>by unfold lL;rw[if_pos hc]
theorem L4 (n:Nat) (f:Nat→Int) (k:Nat) (v:Int):(iv (lz n f)).set k [.int .i64 v]=iv (lz n fun c=>if c=k then v else f c):=by
 apply List.ext_getElem
 ·simp
 ·intro i h1 h2
  rw[List.getElem_set]
  by_cases e:k=i
  ·rw[if_pos e];simp[iv,lz,e]
  ·rw[if_neg e];simp[iv,lz,Ne.symm e]
theorem Ji (s:Str) (j sg:Int) {k:Nat} (h:k<nC s):(iv (lz (nC s) (lL s j sg k))).set k [.int .i64 (kO s j sg k)]=iv (lz (nC s) (lL s j sg (k+1))):=by
 rw[L4]
 congr 1
 refine mS fun c _=> ?_
 unfold lL
 by_cases e:c=k
 ·subst e;rw[if_pos rfl,if_pos (by omega)]
 ·rw[if_neg e]
  by_cases e2:c<k
  ·rw[if_pos e2,if_pos (by omega)]
  ·rw[if_neg e2,if_neg (by omega)]
theorem Cv (s:Str) (j sg:Int) {k:Nat} (h: ¬ (dJ s k).1=j):lz (nC s) (lL s j sg k)=lz (nC s) (lL s j sg (k+1)):=mS fun c _=>by
 unfold lL
 by_cases e:c<k
 ·rw[if_pos e,if_pos (by omega)]
 ·rw[if_neg e]
  by_cases e2:c<k+1
  ·rw[if_pos e2,show c=k by omega];unfold kO;rw[if_neg h]
  ·rw[if_neg e2]
theorem M7 (s:Str) (l:List Int) (hL:LOk s l) (j sg:Int) (hsg:sg=1∨sg= -1):RO Tryz.prog 129 [.agg s.c,.sl (iv l),.int .i64 j,.int .i64 sg] (.agg (bJ s l j sg).v):=by
 have hs:=hL.sok
 have hnm:=hs.nm
 have hnC:=Sm hs
 have ew:(who s).length=nC s:=by simp[who,nC]
 refine aI Tryz.func129 rfl rfl (by rw[Tryz.ntmps129];simp) fun bl=> ?_
 rw[Tryz.ntmps129,Tryz.results129]
 refine aE ?_
 simp[Str.c]
 intro g1 hg1 hb1 gr hgr hr1 hbr
 obtain⟨b0,hb0⟩: ∃b0,b0=upd bl gr (some ⟨5,[[.int .i64 0,.int .i64 0,.nils,.nils,.nils]]⟩):=⟨_,rfl⟩
 refine cP 1 4 (.ptr s.c) b0 (by rw[hb0];intro z b hz;simp only[aA] at hz ⊢;grind) (by simp[frz,dropB,hb0,hb1,hr1,Ne.symm hr1,V.cl,Str.c]) ?_
 refine cX [(1,.sl (iv l)),(2,.int .i64 j),(3,.int .i64 sg),(4,.ptr s.c),(8,.loc gr 5 0 0)] 44 b0 ⟨rfl,by simp[Str.c],Sub.refl _⟩ ?_
 have b0r:b0 gr=some ⟨5,[[.int .i64 0,.int .i64 0,.nils,.nils,.nils]]⟩:=by rw[hb0];simp
 have s0:Sub bl b0:=fun x y hx=>by rw[hb0,aG _ _ _ _ (fun e=>by rw[e,hbr] at hx;cases hx)];exact hx
 clear hb0 hb1 hg1 hr1
 refine aE ?_
 simp[Str.c]
 refine cK (H2 s l hL) fun v gs b1 o f fr=> ?_
 obtain⟨va,vb,vc,ga,gb,gc,rfl,rfl,d1,d2,oa,ob,oc⟩:=Ew.1 o
 have hva:=kL oa
 have hvb:=kL ob
 have hvc:=kL oc
 have s1:Sub b0 b1:=fun x y hx=>aS f fr hx
 simp[hva,hvb,hvc]
 intro gp hgp hbp
 have lU:(bY s l).rows=nR s:=rfl
 have Rz:(bY s l).bD=nC s:=rfl
 have hin: ∀x,x∈ga++(gb++gc)→ ∃y,b1 x=some y:=o.has
 have hnp:gp∉ga++(gb++gc):=fun h=>by obtain⟨y,hy⟩:=hin gp h;rw[hbp] at hy;cases hy
 simp only[List.mem_append,not_or] at hnp
 obtain⟨npa,npb,npc⟩:=hnp
 obtain⟨b2,hb2⟩: ∃b2,b2=upd b1 gp (some ⟨5,[[.int .i64 (nR s),.int .i64 (nC s),va,vb,vc]]⟩):=⟨_,rfl⟩
 refine cX [(1,.sl (iv l)),(2,.int .i64 j),(3,.int .i64 sg),(4,.ptr s.c),(8,.loc gr 5 0 0),(9,.loc gp 5 0 0)] 44 b2 ⟨rfl,by simp[Str.c],by rw[hb2];exact sub_eq (by simp[lU,Rz])⟩ ?_
 have b2p:b2 gp=some ⟨5,[[.int .i64 (nR s),.int .i64 (nC s),va,vb,vc]]⟩:=by rw[hb2];simp
 have b2x: ∀x,x≠gp→b2 x=b1 x:=fun x hx=>by rw[hb2,aG _ _ _ _ hx]
 clear hb2
 have ok2: ∀ {d:D} {v:V} {gs:List Int},OwnD b1 d v gs→gp∉gs→OwnD b2 d v gs:=fun o hn=>o.bI fun x hx y hy=>by rw[b2x x (fun e=>hn (e▸hx))];exact hy
 have f0: ∀x,x∈ga++(gb++gc)→b0 x=none:=f
 have fp:b0 gp=none:=aQ s1 hbp
 refine O4 (g:=gp) (s:=5) (els:= [[.int .i64 (nR s),.int .i64 (nC s),va,vb,vc]]) 0 4 b2p rfl rfl (ok2 oc npc) npc fun gC b3 b3p b3C nCp Wd Cor b3x=> ?_
 have nCa:gC∉ga:=fun h=>by
  rcases Cor with g | g
  ·exact d1 gC h (List.mem_append.2 (.inr g))
  ·have g:b2 gC=none:=g
   obtain⟨y,hy⟩:=(ok2 oa npa).has gC h;rw[g] at hy;cases hy
 have nCb:gC∉gb:=fun h=>by
  rcases Cor with g | g
  ·exact d2 gC h g
  ·have g:b2 gC=none:=g
   obtain⟨y,hy⟩:=(ok2 ob npb).has gC h;rw[g] at hy;cases hy
 have fC:b0 gC=none:=by
  rcases Cor with g | g
  ·exact f0 gC (by simp[g])
  ·have g:b2 gC=none:=g
   rw[b2x gC nCp] at g;exact aQ s1 g
 have oa3:OwnD b3 (fl 1 (iv (bY s l).a)) va ga:=(ok2 oa npa).bI fun x hx y hy=>by rw[b3x x (fun e=>npa (e▸hx)) (fun e=>nCa (e▸hx))];exact hy
 have ob3:OwnD b3 (fl 1 (iv (bY s l).b)) vb gb:=(ok2 ob npb).bI fun x hx y hy=>by rw[b3x x (fun e=>npb (e▸hx)) (fun e=>nCb (e▸hx))];exact hy
 have s3:Sub b0 b3:=fun x y hx=>by
  have x1:x≠gp:=fun e=>by rw[e,fp] at hx;cases hx
  exact(b3x x x1 (fun e=>by rw[e,fC] at hx;cases hx)).trans ((b2x x x1).trans (s1 x y hx))
 rw[show(bY s l).c.length=nC s by simp[bY]] at b3p
 rw[show(bY s l).c=lz (nC s) (lL s j sg 0) from(zC s j sg).symm] at b3C
 simp only[List.set] at b3p
 clear Cor b3x b2x b2p ok2 hin fr o hbp s1
 refine cX [(1,.sl (iv l)),(2,.int .i64 j),(3,.int .i64 sg),(4,.ptr s.c),(8,.loc gr 5 0 0),(9,.loc gp 5 0 0)] 44 b3 ⟨rfl,by simp[Str.c],Sub.refl _⟩ ?_
 refine aE ?_
 simp[Str.c]
 refine aD (rP s (by omega)) ?_
 simp
 refine aN ?_
 refine aC ?_
 simp
 refine aJ (fun q:Nat=> [(2,.int .i64 j),(3,.int .i64 sg),(8,.loc gr 5 0 0),(9,.loc gp 5 0 0),(11,.sl (iv (sgn s))),(22,.sl (iv (who s))),(23,.int .i64 (nC s)),(24,.int .i64 q)]) (fun q=>upd b3 gC (some ⟨1,iv (lz (nC s) (lL s j sg q))⟩)) (fun q=>q≤nC s) (fun q=>nC s - q) _ 0 (Nat.zero_le _) ⟨rfl,by simp[ew],sub_eq (by
  funext x;simp only[aA];split
  ·rename_i e;rw[e,b3C]
  ·rfl)⟩ ?_
 intro q hq
 have wq:IntKind.i64.wrap ((q:Int)+1)=(q:Int)+1:=i64_in (by omega) (by omega)
 refine aE ?_
 simp
 refine aE ?_
 simp
 refine⟨fun hql=> ?_,fun hql=> ?_⟩
 ·have F8:(q:Int)<nC s:=by omega
  refine aN (aT ?_)
  have qw:=Qq s q hql
  have qs:=Pu s q hql
  obtain⟨_,k2⟩:=nJ s q hql
  refine aE ?_
  simp[-eG,qw]
  refine aC ?_
  simp
  refine⟨fun he=> ?_,fun he=> ?_⟩
  ·have w1:IntKind.i64.wrap (sg*(dJ s q).2)=sg*(dJ s q).2:=by
    rcases hsg with rfl | rfl<;>rcases k2 with e | e<;>rw[e]<;>rfl
   have ea:kO s j sg q=sg*(dJ s q).2:=by unfold kO;rw[if_pos he]
   obtain⟨bq,hbq⟩: ∃bq,bq=upd b3 gC (some ⟨1,iv (lz (nC s) (lL s j sg q))⟩):=⟨_,rfl⟩
   have bqC:bq gC=some ⟨1,iv (lz (nC s) (lL s j sg q))⟩:=by rw[hbq];simp
   have bqp:=(show bq gp=b3 gp by rw[hbq,aG _ _ _ _ (Ne.symm nCp)]).trans b3p
   rw[←hbq]
   refine dD aM (rem bq gC) (cW bq gC) [0,1,2,3,4,5,6,7,8,9] 1 10 (by kernel_rfl) ?_
   simp[-eG,Ne.symm nCp,bqp,hql,F8,qs,w1]
   refine Dq 10 true ?_
   simp[bqC,hql]
   rw[←ea,Ji s j sg hql]
   refine Dd ?_
   simp
   refine aC ?_
   simp[wq,aB]
   exact⟨q+1,by omega,by omega,rfl,by simp,by rw[hbq];intro x y hx;simp only[aA] at hx ⊢;grind⟩
  ·refine aC ?_
   simp[wq,aB]
   exact⟨q+1,by omega,by omega,rfl,by simp,sub_eq (by rw[Cv s j sg he])⟩
 ·have hqe:q=nC s:=by omega
  subst hqe
  rw[Lj]
  have nrp:gr≠gp:=fun e=>by rw[e,fp] at b0r;cases b0r
  have nrC:gr≠gC:=fun e=>by rw[e,fC] at b0r;cases b0r
  have b3r:=s3 _ _ b0r
  have fbl: ∀x,b0 x=none→bl x=none:=fun x hx=>aQ s0 hx
  refine aC ?_
  simp[Ne.symm nCp,b3p,nrC,Ne.symm nrC,b3r,hva,hvb]
  obtain⟨B,hB⟩: ∃B,B=upd (upd b3 gC (some ⟨1,iv (lz (nC s) (kO s j sg))⟩)) gr (some ⟨5,[[.int .i64 (nR s),.int .i64 (nC s),va,vb,.lsl gC 1 0 (nC s)]]⟩):=⟨_,rfl⟩
  have hBx: ∀x,x≠gC→x≠gr→B x=b3 x:=fun x x1 x2=>by rw[hB,aG _ _ _ _ x2,aG _ _ _ _ x1]
  have kp: ∀ {d:D} {v:V} {gs:List Int},OwnD b3 d v gs→gC∉gs→(∀x,x∈gs→b0 x=none)→OwnD (dropB B bl) d v gs:=fun o h1 h2=>o.bI fun x hx y hy=>by
   unfold dropB
   rw[fbl x (h2 x hx)]
   simp only
   rw[hBx x (fun e=>h1 (e▸hx)) (fun e=>by have:=h2 x hx;rw[e,b0r] at this;cases this)];exact hy
  have oa4:=kp oa3 nCa fun x hx=>f0 x (List.mem_append.2 (.inl hx))
  have ob4:=kp ob3 nCb fun x hx=>f0 x (List.mem_append.2 (.inr (List.mem_append.2 (.inl hx))))
  have oc4:OwnD (dropB B bl) (fl 1 (iv (lz (nC s) (kO s j sg)))) (.lsl gC 1 0 (nC s)) [gC]:=dE.2 (.inr ⟨gC,by simp,rfl,by unfold dropB;rw[fbl gC fC,hB];simp[Ne.symm nrC],fun h=>by have:=Wd h;rw[show nC s=0 by simpa [bY] using this];rfl⟩)
  refine aK [.agg [.int .i64 (nR s),.int .i64 (nC s),va,vb,.lsl gC 1 0 (nC s)]] 2 (by simp) ?_ fun x y hx=> ?_
  ·show frz (dropB (upd (upd b3 gC _) gr _) bl) 2 (.agg [_,_,_,_,_])=_
   rw[←hB,qU,List.mapM_cons,Q2 rfl,List.mapM_cons,Q2 rfl,List.mapM_cons,sT oa4 0,List.mapM_cons,sT ob4 0,List.mapM_cons,sT oc4 0]
   simp[Pg.v,bJ,bY]
  ·show upd (upd b3 gC _) gr _ x=some y
   rw[aG _ _ _ _ (fun e=>by rw[e,hbr] at hx;cases hx),aG _ _ _ _ (fun e=>by rw[e,fbl gC fC] at hx;cases hx)]
   exact s3 x y (s0 x y hx)
theorem lJ {s:Str} {l:List Int} (h:LOk s l) (j sg:Int) (hsg:sg=1∨sg= -1):PgN (bJ s l j sg) (nC s) (nR s):=by
 have hf:=Lu h
 refine⟨hf.rows,hf.bD,hf.al,hf.bl,by simp[bJ],hf.am,hf.bm,fun x hx=> ?_,hf.ml,hf.nl⟩
 obtain⟨c,hc,rfl⟩:=List.mem_map.1 hx
 have hc':c<nC s:=by simpa using hc
 unfold kO
 split
 ·rcases hsg with rfl | rfl<;>rcases(nJ s c hc').2 with e | e<;>rw[e]<;>decide
 ·decide

theorem aIR (s:Str) (c:Nat) (h:c<nC s):(cv (bD s.ms))[c]? =some [.int .i64 (dJ s c).1,.int .i64 (dJ s c).2]:=by
 have h':c<(bD s.ms).length:=h
 simp[cv,dJ,h']
def uL (s:Str) (j sg:Int) (f:Nat→Int) (k:Nat):Nat→Int:=fun c=>if c<k then kO s j sg c else f c
theorem La (s:Str) (j sg:Int) (f:Nat→Int):uL s j sg f 0=f:=by funext c;simp[uL]
theorem Nl (s:Str) (j sg:Int) (f:Nat→Int):lz (nC s) (uL s j sg f (nC s))=lz (nC s) (kO s j sg):=mS fun c hc=>by unfold uL;rw[if_pos hc]
theorem Nw (s:Str) (j sg:Int) (f:Nat→Int) {k:Nat} {v:Int} (h:kO s j sg k=v):(iv (lz (nC s) (uL s j sg f k))).set k [.int .i64 v]=iv (lz (nC s) (uL s j sg f (k+1))):=by
 rw[L4]
 congr 1
 refine mS fun c _=> ?_
 unfold uL
 by_cases e:c=k
 ·subst e;rw[if_pos rfl,if_pos (by omega),h]
 ·rw[if_neg e]
  by_cases e2:c<k
  ·rw[if_pos e2,if_pos (by omega)]
  ·rw[if_neg e2,if_neg (by omega)]
theorem Vp {β:Type} (b:Int→β) (g:Int):upd b g (b g)=b:=by
 funext x;simp only[aA];split
 ·rename_i e;rw[e]
 ·rfl
theorem sS (l:List (List V)) (k:Nat) (a b:List V):(l.set k a).set k b=l.set k b:=List.set_set ..
theorem Ma {bl:Int→Option Blk} {K:V→(Int→Option Blk)→Prop} (s:Str) (hs:SOk s) (j sg:Int) (hsg:sg=1∨sg= -1) (gp gC:Int) (x0 x1 xa xb:V) (f:Nat→Int) (hp:bl gp=some ⟨5,[[x0,x1,xa,xb,.lsl gC 1 0 (nC s)]]⟩) (hC:bl gC=some ⟨1,iv (lz (nC s) f)⟩) (hne:gC≠gp)
  (hK:K (.tup []) (upd bl gC (some ⟨1,iv (lz (nC s) (kO s j sg))⟩))):bW Tryz.prog 141 [.ptr s.c,.loc gp 5 0 0,.int .i64 j,.int .i64 sg] bl K:=by
 have hnC:=Sm hs
 have hnm:=hs.nm
 have hcl:(bD s.ms).length=nC s:=rfl
 refine bO Tryz.func141 rfl rfl (by rw[Tryz.ntmps141];simp) ?_
 rw[Tryz.ntmps141,Tryz.results141]
 refine aE ?_
 simp
 refine aD (A9 s (by omega)) ?_
 simp[hcl]
 refine aC ?_
 simp
 refine aJ (fun q:Nat=> [(1,.loc gp 5 0 0),(2,.int .i64 j),(3,.int .i64 sg),(11,.sl (cv (bD s.ms))),(12,.int .i64 (nC s)),(13,.int .i64 q)]) (fun q=>upd bl gC (some ⟨1,iv (lz (nC s) (uL s j sg f q))⟩)) (fun q=>q≤nC s) (fun q=>nC s - q) _ 0 (Nat.zero_le _) ⟨rfl,by simp[hcl],sub_eq (by
  rw[La]
  funext x;simp only[aA];split
  ·rename_i e;rw[e,hC]
  ·rfl)⟩ ?_
 intro q hq
 have wq:IntKind.i64.wrap ((q:Int)+1)=(q:Int)+1:=i64_in (by omega) (by omega)
 refine aE ?_
 simp
 refine aE ?_
 simp
 refine⟨fun hql=> ?_,fun hql=> ?_⟩
 ·have F8:(q:Int)<nC s:=by omega
  refine aN (aT ?_)
  have qc:=aIR s q hql
  obtain⟨_,k2⟩:=nJ s q hql
  obtain⟨bq,hbq⟩: ∃bq,bq=upd bl gC (some ⟨1,iv (lz (nC s) (uL s j sg f q))⟩):=⟨_,rfl⟩
  have bqC:bq gC=some ⟨1,iv (lz (nC s) (uL s j sg f q))⟩:=by rw[hbq];simp
  have bqp:=(show bq gp=bl gp by rw[hbq,aG _ _ _ _ (Ne.symm hne)]).trans hp
  rw[←hbq]
  refine aE ?_
  simp[qc]
  intro g9 hg9 hb9
  have n9C:g9≠gC:=fun e=>by rw[e,bqC] at hb9;cases hb9
  have n9p:g9≠gp:=fun e=>by rw[e,bqp] at hb9;cases hb9
  refine aE ?_
  simp[n9C,n9p,Ne.symm n9C,Ne.symm n9p,bqp,bqC,hql,F8]
  obtain⟨b3,hb3⟩: ∃b3,b3=upd (upd bq g9 (some ⟨2,[[.int .i64 (dJ s q).1,.int .i64 (dJ s q).2]]⟩)) gC (some ⟨1,(iv (lz (nC s) (uL s j sg f q))).set q [.int .i64 0]⟩):=⟨_,rfl⟩
  refine cX [(1,.loc gp 5 0 0),(2,.int .i64 j),(3,.int .i64 sg),(8,.int .i64 q),(9,.loc g9 2 0 0),(11,.sl (cv (bD s.ms))),(12,.int .i64 (nC s)),(13,.int .i64 q)] 39 b3 ⟨rfl,by simp,by rw[hb3];exact sub_eq (by simp)⟩ ?_
  have b39:b3 g9=some ⟨2,[[.int .i64 (dJ s q).1,.int .i64 (dJ s q).2]]⟩:=by rw[hb3];simp[n9C]
  have b3C:b3 gC=some ⟨1,(iv (lz (nC s) (uL s j sg f q))).set q [.int .i64 0]⟩:=by rw[hb3];simp
  have b3p:b3 gp=some ⟨5,[[x0,x1,xa,xb,.lsl gC 1 0 (nC s)]]⟩:=by rw[hb3];simp[Ne.symm hne,Ne.symm n9p,bqp]
  have fin: ∀(v:Int),kO s j sg q=v→Sub (upd bl gC (some ⟨1,iv (lz (nC s) (uL s j sg f (q+1)))⟩)) (upd b3 gC (some ⟨1,((iv (lz (nC s) (uL s j sg f q))).set q [.int .i64 0]).set q [.int .i64 v]⟩)):=fun v hv x y hx=>by
   rw[sS,Nw s j sg f hv]
   simp only[aA] at hx ⊢
   split
   ·rename_i e;rw[if_pos e] at hx;exact hx
   ·rename_i e;rw[if_neg e] at hx
    rw[hb3,aG _ _ _ _ e,aG _ _ _ _ (fun e9=>by rw[hbq,aG _ _ _ _ n9C,←e9,hx] at hb9;cases hb9),hbq,aG _ _ _ _ e];exact hx
  clear hb3
  refine aE ?_
  simp[b39]
  refine aC ?_
  simp
  refine⟨fun he=> ?_,fun he=> ?_⟩
  ·have w1:IntKind.i64.wrap (sg*(dJ s q).2)=sg*(dJ s q).2:=by
    rcases hsg with rfl | rfl<;>rcases k2 with e | e<;>rw[e]<;>rfl
   have ea:kO s j sg q=sg*(dJ s q).2:=by unfold kO;rw[if_pos he]
   refine dD aM (rem b3 gC) (cW b3 gC) [0,1,2,3,4,5,6,7,8,9] 1 10 (by kernel_rfl) ?_
   simp[-eG,Ne.symm hne,n9C,b3p,b39,hql,F8,w1]
   refine Dq 10 true ?_
   simp[b3C,hql]
   refine Dd ?_
   simp
   refine aC ?_
   simp[wq,aB]
   refine⟨q+1,by omega,by omega,rfl,by simp,?_⟩
   simpa [sS] using fin _ ea
  ·have ea:kO s j sg q=0:=by unfold kO;rw[if_neg he]
   refine aC ?_
   simp[wq,aB]
   refine⟨q+1,by omega,by omega,rfl,by simp,?_⟩
   have:=fin _ ea
   rw[sS,←b3C,Vp] at this
   exact this
 ·have hqe:q=nC s:=by omega
  subst hqe
  rw[Nl]
  rw[iV]
  exact⟨[],by simp,hK⟩

def rqs (w:Nat) (f:Nat→Rat):List (List V):=(List.range w).map fun c=>(ro (some (f c))).c
@[simp] theorem Yl (w : Nat) (f : Nat → Rat) : (rqs w f).length = w := by simp [rqs]
@[simp] theorem Bq (w : Nat) (f : Nat → Rat) (i : Nat) (h : i < (rqs w f).length) : (rqs w f)[i] = (ro (some (f i))).c := by simp [rqs]
theorem bU {w:Nat} {f g:Nat→Rat} (h: ∀c,c<w→f c=g c):rqs w f=rqs w g:=List.map_congr_left fun c hc=>by rw[h c (by simpa using hc)]
theorem yH {w i:Nat} (f:Nat→Rat) (v:Rat) (hi:i<w):(rqs w f).set i (ro (some v)).c=rqs w fun c=>if c=i then v else f c:=by
 apply List.ext_getElem
 ·simp
 ·intro j h1 h2
  rw[List.getElem_set,Bq,Bq]
  by_cases e:i=j
  ·rw[if_pos e,if_pos e.symm]
  ·rw[if_neg e,if_neg (Ne.symm e)]
theorem Cw (w:Nat) (f:Nat→Rat):(rqs w f).all (fun r=>r.all V.cl)=true:=by simp[rqs,RT.c,V.cl]
theorem kF (w:Nat) (f:Nat→Rat):rqs (w+1) f=rqs w f++ [(ro (some (f w))).c]:=by simp[rqs,List.range_succ]
@[irreducible] def rX : Nat := 10 ^ 72
theorem X3 :rX*rX<LB^24:=by unfold rX;decide+kernel
theorem uM {m:Nat} (h:m≤17):Lp.lid 1000 m≤rX:=Nat.le_trans (Lp.mA h) (by unfold rX;decide+kernel)
theorem tE {m:Nat} (h:m≤17):(m+1)*(1000*Lp.lid 1000 m)≤rX:=Nat.le_trans (Nat.mul_le_mul (show m+1≤18 by omega) (Nat.mul_le_mul_left _ (Lp.mA h))) (by unfold rX;decide+kernel)
def nU (q:Rat):Prop:=Lp.sm rX q
theorem T1 {q:Rat} (h:Lp.sm (rX*rX) q):fits q:=by
 obtain⟨h1,h2⟩:=Lp.Av h
 exact⟨aL.2 (Nat.lt_of_le_of_lt h1 X3),aL.2 (Nat.lt_of_le_of_lt h2 X3)⟩
theorem Oz :1≤rX:=by unfold rX;decide+kernel
theorem cJ {q:Rat} (h:nU q):fits q:=T1 (Lp.fJ h (by have:=Nat.mul_le_mul_left rX Oz;omega))
theorem yL {p q:Rat} (hp:nU p) (hq:nU q):fits (p*q):=T1 (Lp.Og hp hq)
theorem uD {p q:Rat} (hp:nU p) (hq:nU q) (h:q≠0):fits (p / q):=T1 (Lp.aBH hp hq h)
theorem Q6 {f:Rat→Rat→Rat} {p q:Rat} (h:fits (f p q)):op2 f (some p) (some q)=some (f p q):=by unfold op2;simp[fit,h]
theorem okS {q:Rat} (h:fits q):okQ (some q):=fun p hp=>by cases hp;exact h
theorem aBV {q:Rat} (h:fits q):sgq (rd (ro (some q)))=q.num.sign:=by rw[nK,Qs h];rfl
theorem Rw {q:Rat} :q.num=0 ↔ q=0:=⟨fun h=>Rat.num_eq_zero.1 h,fun h=>by rw[h];rfl⟩
theorem gK {q:Rat} (h:fits q):RO Tryz.prog 191 [.agg (ro (some q)).c] (.int .i64 q.num.sign):=by
 have h1:=h.1
 have h2:=h.2
 have:=Ep (ro (some q)) (by show(lim _).length≤_;omega) (by show(lim _).length≤_;omega)
 rwa [aBV h] at this
theorem O2 (a b:Rat) (ha:fits a) (hb:fits b) (h0:b≠0):RO Tryz.prog 277 [.agg (ro (some a)).c,.agg (ro (some b)).c] (.agg (ro (fit (a / b))).c):=by
 have ha1:=ha.1
 have ha2:=ha.2
 have hb1:=hb.1
 have hb2:=hb.2
 have hbn:b.num≠0:=fun e=>h0 (Rw.1 e)
 have ka:RO Tryz.prog 213 [.agg (rq a).c] (.bool true):=by
  have:=mJ (rq a) (by show(lim _).length≤_;omega) (by show(lim _).length≤_;omega)
  rwa [show decide (rq a).ok=true from by rw[decide_eq_true_iff,←Xa,Qs ha];rfl] at this
 have kb:RO Tryz.prog 213 [.agg (rq b).c] (.bool true):=by
  have:=mJ (rq b) (by show(lim _).length≤_;omega) (by show(lim _).length≤_;omega)
  rwa [show decide (rq b).ok=true from by rw[decide_eq_true_iff,←Xa,Qs hb];rfl] at this
 have n1:=fP ha1 hb2
 have n2:=fP ha2 hb1
 have e:zI (decide (a.num<0) !=decide (b.num<0)) (a.num.natAbs*b.den) (a.den*b.num.natAbs)=fit (a / b):=by
  unfold zI
  rw[if_neg (show ¬ a.den*b.num.natAbs=0 from Nat.mul_ne_zero a.den_nz (by omega))]
  rw[Nz a b hbn,←aBJ a b hbn]
 rw[nK,nK]
 simp only[rq,RT.c] at ka kb ⊢
 refine aI Tryz.func277 rfl rfl (by rw[Tryz.ntmps277];simp) fun bl=> ?_
 rw[Tryz.ntmps277,Tryz.results277]
 refine aE ?_
 simp
 intro g hg0 hg g2 hg2 h2g hb2 g3 hg3 h32 h3g hb3
 refine aC ?_
 simp
 refine cH [(2,.loc g 3 0 0),(3,.loc g2 3 0 0),(4,.loc g3 3 0 0)] _ (upd (upd (upd bl g (some ⟨3,[(rq a).c]⟩)) g2 (some ⟨3,[(rq b).c]⟩)) g3 (some ⟨3,[[.bool false,.nils,.nils]]⟩)) 12 (.bool false) (upd (upd (upd bl g (some ⟨3,[(rq a).c]⟩)) g2 (some ⟨3,[(rq b).c]⟩)) g3 (some ⟨3,[[.bool false,.nils,.nils]]⟩)) ⟨rfl,by simp,sub_eq (by simp[RT.c,rq])⟩ rfl ?_ ?_
 ·simp[RT.c,rq,h2g,Ne.symm h2g,h32,Ne.symm h32,h3g,Ne.symm h3g]
  refine aD ka ?_
  simp[h2g,Ne.symm h2g,h32,Ne.symm h32,h3g,Ne.symm h3g]
  refine aD kb ?_
  simp
 simp
 refine aW aM (upd (upd bl g (some ⟨3,[(rq a).c]⟩)) g2 (some ⟨3,[(rq b).c]⟩)) (by simp[h32,h3g,hb3]) [0,1,2,3,4,5,6,7,8,9,10,11,12,13,14,15,16,17,18,19] 1 (by kernel_rfl) ?_
 simp[RT.c,rq,h2g,Ne.symm h2g,h32,Ne.symm h32,h3g,Ne.symm h3g]
 refine aO (fI _ _ (by omega) (by omega)) ?_
 simp[h2g,Ne.symm h2g,h32,Ne.symm h32,h3g,Ne.symm h3g]
 refine aO (fI _ _ (by omega) (by omega)) ?_
 simp[h2g,Ne.symm h2g,h32,Ne.symm h32,h3g,Ne.symm h3g]
 refine aO (qP _ _ _ (by omega) (by omega)) ?_
 rw[e,pE]
 generalize fit (a / b)=z
 simp[h2g,Ne.symm h2g,h32,Ne.symm h32,h3g,Ne.symm h3g]
 refine Dz 20 ?_
 simp[h2g,Ne.symm h2g,h32,Ne.symm h32,h3g,Ne.symm h3g]
 refine⟨by simp[h32,h3g,hb3],Dy ?_⟩
 simp[h2g,Ne.symm h2g,h32,Ne.symm h32,h3g,Ne.symm h3g]
 rw[←RT.c,pE z]
 exact aK [.agg [.bool (decide (nm z<0)),.sl (iv (lim (nm z).natAbs)),.sl (iv (lim (dn z)))]] 1 (by simp[h2g,Ne.symm h2g,h32,Ne.symm h32,h3g,Ne.symm h3g]) (by simp[frz,V.cl]) (by simp[hg,hb2,hb3])

structure SG where
 T:Int
 R:Int
 B:Int
 C:Int
 ids:List Int
structure SN where
 r:Nat
 w:Nat
 n:Nat
 Z:Nat→Nat→Rat
 co:Nat→Rat
 bs:Nat→Nat
def rrs (r w:Nat) (Z:Nat→Nat→Rat):List (List V):=(List.range r).map fun i=> [.sl (rqs w (Z i))]
@[simp] theorem aA8 (r w : Nat) (Z : Nat → Nat → Rat) : (rrs r w Z).length = r := by simp [rrs]
@[simp] theorem Pq (r w : Nat) (Z : Nat → Nat → Rat) (i : Nat) (h : i < (rrs r w Z).length) : (rrs r w Z)[i] = [.sl (rqs w (Z i))] := by simp [rrs]
def SN.c (t:SN):List V:= [.int .i64 t.n,.sl (rrs t.r t.w t.Z),.sl (iv (lb t.r t.bs)),.sl (rqs t.w t.co)]
def SG.all (g:SG):List Int:=g.T::g.R::g.B::g.C::g.ids
structure SS (b : Int → Option Blk) (g : SG) (t : SN) : Prop where
 len:g.ids.length=t.r
 top:b g.R=some ⟨1,g.ids.map fun x=> [.lsl x 3 0 t.w]⟩
 row: ∀(i:Nat) (x:Int),g.ids[i]? =some x→b x=some ⟨3,rqs t.w (t.Z i)⟩
 pos: ∀x,x∈g.ids→0≤x
 hd:b g.T=some ⟨4,[[.int .i64 t.n,.lsl g.R 1 0 t.r,.lsl g.B 1 0 t.r,.lsl g.C 3 0 t.w]]⟩
 ba:b g.B=some ⟨1,iv (lb t.r t.bs)⟩
 cst:b g.C=some ⟨3,rqs t.w t.co⟩
 pT:0≤g.T
 pR:g.R<0→t.r=0
 pB:g.B<0→t.r=0
 pC:0≤g.C
 nd:g.all.Nodup
theorem SS.bI {b b':Int→Option Blk} {g:SG} {t:SN} (h:SS b g t) (hk: ∀x y,x∈g.all→b x=some y→b' x=some y):SS b' g t:=
 ⟨h.len,hk _ _ (by simp[SG.all]) h.top,fun i x hi=>hk _ _ (by simp[SG.all,List.mem_of_getElem? hi]) (h.row i x hi),h.pos,hk _ _ (by simp[SG.all]) h.hd,hk _ _ (by simp[SG.all]) h.ba,hk _ _ (by simp[SG.all]) h.cst,h.pT,h.pR,h.pB,h.pC,h.nd⟩
theorem SS.at {b:Int→Option Blk} {g:SG} {t:SN} (h:SS b g t) (i:Nat) (hi:i<t.r): ∃x,g.ids[i]? =some x∧x∈g.ids∧0≤x∧b x=some ⟨3,rqs t.w (t.Z i)⟩:=by
 have hl:=h.len
 have e:g.ids[i]? =some (g.ids[i]'(by omega)):=List.getElem?_eq_getElem _
 exact⟨_,e,List.mem_of_getElem? e,h.pos _ (List.mem_of_getElem? e),h.row i _ e⟩
theorem SS.inj {b:Int→Option Blk} {g:SG} {t:SN} (h:SS b g t) {i j:Nat} {x:Int} (hi:g.ids[i]? =some x) (hj:g.ids[j]? =some x):i=j:=by
 have nd:=h.nd
 unfold SG.all at nd
 simp only[List.nodup_cons] at nd
 obtain⟨-, -, -, -,nd⟩:=nd
 obtain⟨i1,e1⟩:=List.getElem?_eq_some_iff.1 hi
 obtain⟨j1,e2⟩:=List.getElem?_eq_some_iff.1 hj
 have hp:=List.pairwise_iff_getElem.1 nd
 rcases Nat.lt_trichotomy i j with q | q | q
 ·exact absurd (e1.trans e2.symm) (hp i j i1 j1 q)
 ·exact q
 ·exact absurd (e2.trans e1.symm) (hp j i j1 i1 q)
theorem SS.frz {b:Int→Option Blk} {g:SG} {t:SN} (h:SS b g t) (m:Nat):frz b (m+4) (.loc g.T 4 0 0)=some (.ptr t.c):=by
 have hi: ∀m (k:Int),Vm.frz b m (.int .i64 k)=some (.int .i64 k):=fun m k=>by cases m<;>simp[Vm.frz]
 have h1:Vm.frz b (m+3) (.lsl g.R 1 0 t.r)=some (.sl (rrs t.r t.w t.Z)):=by
  rcases Int.lt_or_le g.R 0 with cL | hR
  ·have hr:=h.pR cL
   rw[hr]
   have e:rrs 0 t.w t.Z= []:=rfl
   rw[e]
   simp[Vm.frz,cL]
  have h1:=jC (n:=m+2) hR h.top
  rw[List.length_map,h.len] at h1
  rw[h1]
  have h2:(g.ids.map fun x=> [V.lsl x 3 0 t.w]).mapM (fun e:List V=>e.mapM (Vm.frz b (m+2)))=some (rrs t.r t.w t.Z):=by
   refine zO _ _ (by simp[h.len]) fun i x y hx hy=> ?_
   rw[List.getElem?_map] at hx
   cases hi:g.ids[i]? with
   | none => rw [hi] at hx; cases hx
   | some gi =>
     rw[hi] at hx;cases hx
     have hlt:i<t.r:=by rw[←h.len];exact(List.getElem?_eq_some_iff.1 hi).1
     rw[List.getElem?_eq_getElem (by simpa using hlt),Pq] at hy
     cases hy
     have h3:=jC (bl:=b) (n:=m+1) (sz:=3) (els:=rqs t.w (t.Z i)) (h.pos gi (List.mem_of_getElem? hi)) (h.row i gi hi)
     rw[iH (Cw _ _)] at h3
     simp only[List.mapM_cons,List.mapM_nil]
     rw[show(rqs t.w (t.Z i)).length=t.w by simp] at h3
     rw[h3];rfl
  rw[h2];rfl
 have h2:Vm.frz b (m+3) (.lsl g.B 1 0 t.r)=some (.sl (iv (lb t.r t.bs))):=by
  rcases Int.lt_or_le g.B 0 with cL | hB
  ·have hr:=h.pB cL
   rw[hr]
   have e:lb 0 t.bs= []:=rfl
   rw[e]
   simp[Vm.frz,cL,iv]
  have h1:=jC (n:=m+2) hB h.ba
  rw[iH (mZ _)] at h1
  rw[show(iv (lb t.r t.bs)).length=t.r by simp] at h1
  rw[h1];rfl
 have h3:Vm.frz b (m+3) (.lsl g.C 3 0 t.w)=some (.sl (rqs t.w t.co)):=by
  have h1:=jC (n:=m+2) h.pC h.cst
  rw[iH (Cw _ _)] at h1
  rw[show(rqs t.w t.co).length=t.w by simp] at h1
  rw[h1];rfl
 rw[qH h.hd]
 simp only[List.mapM_cons,List.mapM_nil,h1,h2,h3,hi]
 rfl
theorem SS.put {b:Int→Option Blk} {g:SG} {t:SN} {i:Nat} {x:Int} (h:SS b g t) (hi:g.ids[i]? =some x) (Z':Nat→Nat→Rat) (hZ: ∀a c,a≠i→c<t.w→t.Z a c=Z' a c):SS (upd b x (some ⟨3,rqs t.w (Z' i)⟩)) g ⟨t.r,t.w,t.n,Z',t.co,t.bs⟩:=by
 have hm:=List.mem_of_getElem? hi
 have nd:=h.nd
 unfold SG.all at nd
 simp only[List.nodup_cons,List.mem_cons,not_or] at nd
 obtain⟨⟨-, -, -,n1⟩,⟨-, -,n2⟩,⟨-,n3⟩,n4, -⟩:=nd
 have e: ∀y,y∉g.ids→y≠x:=fun y hy e=>hy (e▸hm)
 refine⟨h.len,by rw[aG _ _ _ _ (e _ n2)];exact h.top,fun k y hk=> ?_,h.pos,by rw[aG _ _ _ _ (e _ n1)];exact h.hd,by rw[aG _ _ _ _ (e _ n3)];exact h.ba,by rw[aG _ _ _ _ (e _ n4)];exact h.cst,h.pT,h.pR,h.pB,h.pC,h.nd⟩
 by_cases e2:k=i
 ·subst e2
  rw[hi] at hk;cases hk
  rw[aY]
 ·have hne:y≠x:=fun e3=>e2 (h.inj (i:=k) (j:=i) (by rw[hk,e3]) hi)
  rw[aG _ _ _ _ hne,h.row k y hk]
  simp only
  rw[bU fun c hc=>hZ k c e2 hc]
theorem SS.Zp {b:Int→Option Blk} {g:SG} {t:SN} (h:SS b g t) (co':Nat→Rat):SS (upd b g.C (some ⟨3,rqs t.w co'⟩)) g ⟨t.r,t.w,t.n,t.Z,co',t.bs⟩:=by
 have nd:=h.nd
 unfold SG.all at nd
 simp only[List.nodup_cons,List.mem_cons,not_or] at nd
 obtain⟨⟨-, -,n1, -⟩,⟨-,n2, -⟩,⟨n3, -⟩,n4, -⟩:=nd
 exact⟨h.len,by rw[aG _ _ _ _ n2];exact h.top,fun k y hk=>by rw[aG _ _ _ _ (fun e=>n4 (by rw[←e];exact List.mem_of_getElem? hk))];exact h.row k y hk,h.pos,by rw[aG _ _ _ _ n1];exact h.hd,by rw[aG _ _ _ _ n3];exact h.ba,by rw[aY],h.pT,h.pR,h.pB,h.pC,h.nd⟩
theorem SS.aSP {b:Int→Option Blk} {g:SG} {t:SN} (h:SS b g t) (bs':Nat→Nat):SS (upd b g.B (some ⟨1,iv (lb t.r bs')⟩)) g ⟨t.r,t.w,t.n,t.Z,t.co,bs'⟩:=by
 have nd:=h.nd
 unfold SG.all at nd
 simp only[List.nodup_cons,List.mem_cons,not_or] at nd
 obtain⟨⟨-,n1, -, -⟩,⟨n2, -, -⟩,⟨n3,n4⟩, -, -⟩:=nd
 exact⟨h.len,by rw[aG _ _ _ _ n2];exact h.top,fun k y hk=>by rw[aG _ _ _ _ (fun e=>n4 (by rw[←e];exact List.mem_of_getElem? hk))];exact h.row k y hk,h.pos,by rw[aG _ _ _ _ n1];exact h.hd,by rw[aY],by rw[aG _ _ _ _ (Ne.symm n3)];exact h.cst,h.pT,h.pR,h.pB,h.pC,h.nd⟩

theorem qG {bl:Int→Option Blk} {K:V→(Int→Option Blk)→Prop} (gt gr:Int) (w k:Nat) (f h:Nat→Rat) (hw:w≤200) (hk:k<w) (ht:bl gt=some ⟨3,rqs w f⟩) (hr:bl gr=some ⟨3,rqs w h⟩) (hne:gt≠gr) (h0t:0≤gt) (h0r:0≤gr)
  (hf: ∀c,c<w→fits (f c)) (hh: ∀c,c<w→fits (h c)) (hm: ∀c,c<w→fits (f k*h c)) (hs: ∀c,c<w→fits (f c - f k*h c))
  (hK: ∀b',(∀x y,bl x=some y→x≠gt→b' x=some y)→b' gt=some ⟨3,rqs w fun c=>f c - f k*h c⟩→K (.tup []) b'):
  bW Tryz.prog 253 [.lsl gt 3 0 w,.lsl gr 3 0 w,.int .i64 k] bl K:=by
 have kw:(k:Int)<w:=by omega
 refine bO Tryz.func253 rfl rfl (by rw[Tryz.ntmps253];simp) ?_
 rw[Tryz.ntmps253,Tryz.results253]
 refine aE ?_
 simp[ht,kw,hk,RT.c]
 intro g6 hg6 hb6
 have n6t: ¬ g6=gt:=fun e=>by rw[e,ht] at hb6;cases hb6
 have n6r: ¬ g6=gr:=fun e=>by rw[e,hr] at hb6;cases hb6
 refine cP 1 6 (.ptr (ro (some (f k))).c) bl (by intro z b hz;simp only[aA] at hz ⊢;grind) (by simp[frz,dropB,hb6,V.cl,RT.c]) ?_
 have hsg:=gK (hf k hk)
 refine aN ?_
 have l3: ∀q:Rat,(rq q).c.length=3:=fun _=>rfl
 have t3: ∀q:Rat,(rq q).c.take 3=(rq q).c:=fun _=>rfl
 refine aC ?_
 simp[l3,t3]
 refine aD hsg ?_
 simp
 refine⟨fun h0=> ?_,fun h0=> ?_⟩
 ·rw[bH]
  refine⟨[],by simp,hK bl (fun x y hx _=>hx) ?_⟩
  rw[ht,bU (g:=fun c=>f c - f k*h c) fun c _=>by simp only[h0];grind]
 have lN:=qM (some (f k)) (okS (hf k hk))
 have okN:fits (-f k):=by
  have:=uH (okS (hf k hk)) (-f k) rfl
  exact this
 refine aE ?_
 simp[l3,t3]
 refine aD (r:= .agg (ro (some (-f k))).c) lN ?_
 simp[RT.c]
 intro g7 hg7 hb7
 refine cP 1 7 (.ptr (ro (some (-f k))).c) bl (by intro z b hz;simp only[aA] at hz ⊢;grind) (by simp[frz,dropB,hb7,V.cl,RT.c]) ?_
 refine aC ?_
 simp
 refine aJ (fun j:Nat=> [(0,.lsl gt 3 0 w),(1,.lsl gr 3 0 w),(7,.ptr (ro (some (-f k))).c),(19,.int .i64 w),(20,.int .i64 j)]) (fun j=>upd bl gt (some ⟨3,rqs w fun c=>if c<j then f c - f k*h c else f c⟩)) (fun j=>j≤w) (fun j=>w - j) _ 0 (Nat.zero_le _) ⟨rfl,by simp,sub_eq (by funext x;simp only[aA];split;rename_i e;rw[e,ht];simp;rfl)⟩ ?_
 intro j hj
 have wj:IntKind.i64.wrap ((j:Int)+1)=(j:Int)+1:=i64_in (by omega) (by omega)
 refine aE ?_
 simp
 refine aE ?_
 simp
 refine⟨fun hjw=> ?_,fun hjw=> ?_⟩
 ·have sD:(j:Int)<w:=by omega
  refine aN (aT ?_)
  refine aE ?_
  simp
  refine aE ?_
  simp[hne,Ne.symm hne,hr,hjw,sD,l3,t3]
  refine aD (gK (hh j hjw)) ?_
  simp
  have rD:(rqs w fun c=>if c<j then f c - f k*h c else f c).set j (ro (some (f j - f k*h j))).c=rqs w fun c=>if c<j+1 then f c - f k*h c else f c:=by
   rw[yH _ _ hjw]
   exact bU fun c _=>by
    by_cases e:c=j
    ·subst e;rw[if_pos rfl,if_pos (by omega)]
    ·rw[if_neg e]
     by_cases e2:c<j
     ·rw[if_pos e2,if_pos (by omega)]
     ·rw[if_neg e2,if_neg (by omega)]
  by_cases hz:h j=0
  ·have hs0:(rqs w fun c=>if c<j then f c - f k*h c else f c)=rqs w fun c=>if c<j+1 then f c - f k*h c else f c:=bU fun c _=>by
    by_cases e:c=j
    ·subst e;rw[if_neg (by omega),if_pos (by omega),hz];grind
    ·by_cases e2:c<j
     ·rw[if_pos e2,if_pos (by omega)]
     ·rw[if_neg e2,if_neg (by omega)]
   refine aC ?_
   simp[hz]
   refine aC ?_
   simp[wj,aB]
   refine⟨j+1,by omega,by omega,rfl,by simp,sub_eq ?_⟩
   rw[hs0]
  ·refine aC ?_
   simp[hz]
   have lM:=Kt (some (-f k)) (some (h j)) (okS okN) (okS (hh j hjw))
   have eM:op2 (· * ·) (some (-f k)) (some (h j))=some (-(f k*h j)):=by
    rw[show -(f k*h j)= -f k*h j by grind]
    refine Q6 ?_
    rw[show -f k*h j= -(f k*h j) by grind]
    exact uH (okS (hm j hjw)) _ rfl
   rw[eM] at lM
   have lA:=J8 (some (f j)) (some (-(f k*h j))) (okS (hf j hjw)) (okS (uH (okS (hm j hjw)) _ rfl))
   have eA:op2 (· + ·) (some (f j)) (some (-(f k*h j)))=some (f j - f k*h j):=by
    rw[show f j - f k*h j=f j+ -(f k*h j) by grind]
    refine Q6 ?_
    rw[show f j+ -(f k*h j)=f j - f k*h j by grind]
    exact hs j hjw
   rw[eA] at lA
   refine fT aM [0,1,2,3,4,5,6,7,8,9,10,11,12,13] 1 14 (by kernel_rfl) ?_
   simp[hne,Ne.symm hne,hr,hjw,sD,l3,t3]
   refine aO lM ?_
   simp[hne,Ne.symm hne,hr,hjw,sD,l3,t3]
   refine aO lA ?_
   simp[hjw,sD]
   refine fU (i:=14) (by kernel_rfl) rfl rfl rfl ?_
   generalize f j - f k*h j=y at rD
   simp[hjw,sD,RT.c]
   refine Dy ?_
   simp
   refine aC ?_
   simp[wj,aB]
   refine⟨j+1,by omega,by omega,rfl,by simp[RT.c],?_⟩
   rw[←rD]
   intro z b hz
   simp only[aA,RT.c,nK] at hz ⊢
   grind
 ·have aCD:j=w:=by omega
  subst aCD
  rw[iV]
  refine⟨[],by simp,hK _ (fun x y hx hx2=>by simp only;rw[aG _ _ _ _ hx2];exact hx) ?_⟩
  simp only
  rw[aY,bU fun c hc=>by rw[if_pos hc]]

def zpv (Z:Nat→Nat→Rat) (r k:Nat):Nat→Nat→Rat:=fun i c=>if i=r then Z r c / Z r k else Z i c - Z i k*(Z r c / Z r k)
def cpv (Z:Nat→Nat→Rat) (co:Nat→Rat) (r k:Nat):Nat→Rat:=fun c=>co c - co k*(Z r c / Z r k)
def pvS (bs:Nat→Nat) (r k:Nat):Nat→Nat:=fun i=>if i=r then k else bs i
def zAt (Z:Nat→Nat→Rat) (r k i:Nat):Nat→Nat→Rat:=fun a c=>if a=r then Z r c / Z r k else if a<i then zpv Z r k a c else Z a c
structure Tz (t : SN) : Prop where
 z: ∀i c,i<t.r→c<t.w→nU (t.Z i c)
 co: ∀c,c<t.w→nU (t.co c)
 w:t.w≤200
 r:t.r≤100
structure aHL where
 i:Nat
 b:Int→Option Blk
theorem wU {bl:Int→Option Blk} {K:V→(Int→Option Blk)→Prop} (g:SG) (t:SN) (r k:Nat) (hT:SS bl g t) (hr:r<t.r) (hk:k<t.w) (ht:Tz t) (hp:t.Z r k≠0) (ht':Tz ⟨t.r,t.w,t.n,zpv t.Z r k,cpv t.Z t.co r k,pvS t.bs r k⟩)
  (hK: ∀b',SS b' g ⟨t.r,t.w,t.n,zpv t.Z r k,cpv t.Z t.co r k,pvS t.bs r k⟩→(∀x y,bl x=some y→x∉g.all→b' x=some y)→K (.tup []) b'):
  bW Tryz.prog 250 [.loc g.T 4 0 0,.int .i64 r,.int .i64 k] bl K:=by
 obtain⟨gT,gR,gB,gC,ids⟩:=g
 obtain⟨R,w,n,Z,co,bs⟩:=t
 simp only at hr hk hp
 have hw:=ht.w
 have hR:=ht.r
 simp only at hw hR
 have hrR:(r:Int)<R:=by omega
 have hkw:(k:Int)<w:=by omega
 have bT:bl gT=_:=hT.hd
 have bG:bl gR=_:=hT.top
 have bB:bl gB=_:=hT.ba
 have bC:bl gC=_:=hT.cst
 have hil:=hT.len
 simp only at bT bG bB bC hil
 obtain⟨gr,hgr,Ml,Yr,aBD⟩:=hT.at r hr
 simp only at hgr Ml aBD
 have hgj: ∀h,ids[r]'h=gr:=fun h=>by rw[List.getElem?_eq_getElem h] at hgr;exact Option.some.inj hgr
 have l3: ∀q:Rat,(rq q).c.length=3:=fun _=>rfl
 have t3: ∀q:Rat,(rq q).c.take 3=(rq q).c:=fun _=>rfl
 have nd:=hT.nd
 simp only[SG.all,List.nodup_cons,List.mem_cons,not_or] at nd
 obtain⟨⟨nTR,nTB,nTC,nTi⟩,⟨nRB,nRC,nRi⟩,⟨nBC,nBi⟩,nCi,nds⟩:=nd
 have rT: ¬ gT=gr:=fun e=>nTi (e▸Ml)
 have rR: ¬ gR=gr:=fun e=>nRi (e▸Ml)
 refine bO Tryz.func250 rfl rfl (by rw[Tryz.ntmps250];simp) ?_
 rw[Tryz.ntmps250,Tryz.results250]
 refine aE ?_
 simp[bT,bG,hr,hrR,hk,hkw,hil,hgj,aBD,RT.c]
 intro g6 hg6 hb6
 refine cP 1 6 (.ptr (ro (some (Z r k))).c) bl (by intro z b hz;simp only[aA] at hz ⊢;grind) (by simp[frz,dropB,hb6,V.cl,RT.c]) ?_
 refine aN ?_
 refine aC ?_
 simp[bT,bG,hr,hrR,hil,hgj]
 refine aJ (fun j:Nat=> [(0,.loc gT 4 0 0),(1,.int .i64 r),(2,.int .i64 k),(6,.ptr (ro (some (Z r k))).c),(26,.int .i64 w),(27,.int .i64 j)]) (fun j=>upd bl gr (some ⟨3,rqs w fun c=>if c<j then Z r c / Z r k else Z r c⟩)) (fun j=>j≤w) (fun j=>w - j) _ 0 (Nat.zero_le _) ⟨rfl,by simp,sub_eq (by funext x;simp only[aA];split;rename_i e;rw[e,aBD];simp;rfl)⟩ ?_
 intro j hj
 have wj:IntKind.i64.wrap ((j:Int)+1)=(j:Int)+1:=i64_in (by omega) (by omega)
 refine aE ?_
 simp
 refine aE ?_
 simp
 refine⟨fun hjw=> ?_,fun hjw=> ?_⟩
 ·have sD:(j:Int)<w:=by omega
  refine aN (aT ?_)
  refine aE ?_
  simp
  have lD:=O2 (Z r j) (Z r k) (cJ (ht.z r j hr hjw)) (cJ (ht.z r k hr hk)) hp
  have hq:fits (Z r j / Z r k):=uD (ht.z r j hr hjw) (ht.z r k hr hk) hp
  have eD:fit (Z r j / Z r k)=some (Z r j / Z r k):=by simp[fit,hq]
  rw[eD] at lD
  have rD:(rqs w fun c=>if c<j then Z r c / Z r k else Z r c).set j (ro (some (Z r j / Z r k))).c=rqs w fun c=>if c<j+1 then Z r c / Z r k else Z r c:=by
   rw[yH _ _ hjw]
   exact bU fun c _=>by
    by_cases e:c=j
    ·subst e;rw[if_pos rfl,if_pos (by omega)]
    ·rw[if_neg e]
     by_cases e2:c<j
     ·rw[if_pos e2,if_pos (by omega)]
     ·rw[if_neg e2,if_neg (by omega)]
  refine fT aM [0,1,2,3,4,5,6,7,8,9,10,11,12,13,14,15,16,17,18,19,20] 1 21 (by kernel_rfl) ?_
  simp[rT,Ne.symm rT,rR,Ne.symm rR,bT,bG,hr,hrR,hil,hgj,hjw,sD,l3,t3]
  refine aO lD ?_
  simp[hjw,sD]
  refine fU (i:=21) (by kernel_rfl) rfl rfl rfl ?_
  generalize Z r j / Z r k=y at rD
  simp[hjw,sD,RT.c]
  refine Dy ?_
  simp
  refine aC ?_
  simp[wj,aB]
  refine⟨j+1,by omega,by omega,rfl,by simp[RT.c],?_⟩
  rw[←rD]
  intro z b hz
  simp only[aA,RT.c,nK] at hz ⊢
  grind
 have aCD:j=w:=by omega
 subst aCD
 have Lm:(rqs j fun c=>if c<j then Z r c / Z r k else Z r c)=rqs j (zAt Z r k 0 r):=bU fun c hc=>by rw[if_pos hc];unfold zAt;rw[if_pos rfl]
 rw[Lm]
 have hS0:SS (upd bl gr (some ⟨3,rqs j (zAt Z r k 0 r)⟩)) ⟨gT,gR,gB,gC,ids⟩ ⟨R,j,n,zAt Z r k 0,co,bs⟩:=hT.put (i:=r) hgr (zAt Z r k 0) fun a c ha _=>by unfold zAt;rw[if_neg ha,if_neg (by omega)]
 refine aN ?_
 refine aC ?_
 simp[rT,Ne.symm rT,bT,rR,Ne.symm rR,bG]
 refine aJ (fun s:aHL=> [(0,.loc gT 4 0 0),(1,.int .i64 r),(2,.int .i64 k),(56,.int .i64 R),(57,.int .i64 s.i)]) (fun s=>s.b) (fun s=>s.i≤R∧SS s.b ⟨gT,gR,gB,gC,ids⟩ ⟨R,j,n,zAt Z r k s.i,co,bs⟩∧ ∀x y,bl x=some y→x∉SG.all ⟨gT,gR,gB,gC,ids⟩→s.b x=some y) (fun s=>R - s.i) _ ⟨0,upd bl gr (some ⟨3,rqs j (zAt Z r k 0 r)⟩)⟩ ⟨Nat.zero_le _,hS0,fun x y hx hn=>by simp only;rw[aG _ _ _ _ (fun e=>hn (by rw[e];simp[SG.all,Ml]))];exact hx⟩ ⟨rfl,by simp,Sub.refl _⟩ ?_
 rintro⟨i,b⟩ ⟨hi,hS,hfb⟩
 simp only at hi hS hfb
 have wi:IntKind.i64.wrap ((i:Int)+1)=(i:Int)+1:=i64_in (by omega) (by omega)
 have cT:b gT=_:=hS.hd
 have cG:b gR=_:=hS.top
 have cB:b gB=_:=hS.ba
 have cC:b gC=_:=hS.cst
 simp only at cT cG cB cC
 have Hh:=hS.row r gr hgr
 simp only at Hh
 have aNI:rqs j (zAt Z r k i r)=rqs j fun c=>Z r c / Z r k:=bU fun c _=>by unfold zAt;rw[if_pos rfl]
 rw[aNI] at Hh
 have hzr: ∀c,c<j→fits (Z r c / Z r k):=fun c hc=>uD (ht.z r c hr hc) (ht.z r k hr hk) hp
 have hzt: ∀c,c<j→nU (Z r c / Z r k):=fun c hc=>by
  have:=ht'.z r c hr hc
  simp only[zpv,if_true] at this
  exact this
 refine aE ?_
 simp
 refine aE ?_
 simp
 refine⟨fun hiR=> ?_,fun hiR=> ?_⟩
 ·have Ll:(i:Int)<R:=by omega
  refine aN (aT ?_)
  refine aE ?_
  simp
  refine aE ?_
  simp
  by_cases hir:i=r
  ·have hz:zAt Z r k (i+1)=zAt Z r k i:=by
    funext a c
    unfold zAt
    by_cases e:a=r
    ·rw[if_pos e,if_pos e]
    ·rw[if_neg e,if_neg e]
     by_cases e2:a<i
     ·rw[if_pos e2,if_pos (by omega)]
     ·rw[if_neg e2,if_neg (by omega)]
   refine aC ?_
   have wi2:=wi
   have hS':=hS
   rw[hir] at wi2 hz hS'
   simp[hir]
   refine aC ?_
   simp[wi2,aB]
   refine⟨⟨r+1,b⟩,⟨by simp only;omega,by simp only;rw[hz];exact hS',hfb⟩,by simp only;omega,rfl,by simp,Sub.refl _⟩
  ·have Zt: ¬ (i:Int)=r:=by omega
   refine aC ?_
   simp[hir,Zt]
   obtain⟨gi,hgi,xK,xS,mP⟩:=hS.at i hiR
   simp only at hgi xK mP
   have aUM: ∀h,ids[i]'h=gi:=fun h=>by rw[List.getElem?_eq_getElem h] at hgi;exact Option.some.inj hgi
   have hzi:rqs j (zAt Z r k i i)=rqs j (Z i):=bU fun c _=>by unfold zAt;rw[if_neg hir,if_neg (by omega)]
   rw[hzi] at mP
   have hne:gi≠gr:=fun e=>hir (hS.inj (i:=i) (j:=r) (by rw[hgi,e]) hgr)
   have iT: ¬ gT=gi:=fun e=>nTi (e▸xK)
   have iR: ¬ gR=gi:=fun e=>nRi (e▸xK)
   refine aW aM (rem b gi) (cW b gi) [0,1,2,3,4,5,6,7,8,9,10,11,12,13,14] 1 (by kernel_rfl) ?_
   simp[iT,iR,cT,cG,hr,hrR,hil,hgj,hiR,Ll,aUM]
   refine Dz 15 ?_
   simp
   refine qG gi gr j k (Z i) (fun c=>Z r c / Z r k) hw hk mP Hh hne xS Yr (fun c hc=>cJ (ht.z i c hiR hc)) hzr (fun c hc=>yL (ht.z i k hiR hk) (hzt c hc)) (fun c hc=> ?_) fun b' hx hb'=> ?_
   ·have:=ht'.z i c hiR hc
    simp only[zpv,if_neg hir] at this
    exact cJ this
   simp
   refine⟨fun z y hz=> ?_,Dy ?_⟩
   ·rw[aF] at hz
    split at hz
    ·cases hz
    ·exact hx z y hz (by assumption)
   simp
   refine aC ?_
   simp[wi,aB]
   refine⟨⟨i+1,b'⟩,⟨by simp only;omega,?_,fun x y h1 h2=>hx x y (hfb x y h1 h2) fun e=>h2 (by rw[e];simp[SG.all,xK])⟩,by simp only;omega,rfl,by simp,Sub.refl _⟩
   have aVD:=hS.put (i:=i) hgi (zAt Z r k (i+1)) fun a c ha _=>by
    simp only[zAt]
    by_cases e:a=r
    ·rw[if_pos e,if_pos e]
    ·rw[if_neg e,if_neg e]
     by_cases e2:a<i
     ·rw[if_pos e2,if_pos (by omega)]
     ·rw[if_neg e2,if_neg (by omega)]
   refine aVD.bI fun x y hx1 hy=> ?_
   by_cases e:x=gi
   ·subst e
    rw[aY] at hy
    cases hy
    simp only
    rw[hb']
    congr 2
    exact bU fun c _=>by unfold zAt zpv;rw[if_neg hir,if_pos (by omega),if_neg hir]
   ·rw[aG _ _ _ _ e] at hy
    exact hx x y hy e
 have hie:i=R:=by omega
 subst hie
 have aNJ:SS b ⟨gT,gR,gB,gC,ids⟩ ⟨i,j,n,zpv Z r k,co,bs⟩:=⟨hS.len,hS.top,fun a x ha=>by
  rw[hS.row a x ha]
  have hai:a<i:=by rw[←hil];exact(List.getElem?_eq_some_iff.1 ha).1
  simp only
  congr 2
  exact bU fun c _=>by
   unfold zAt
   by_cases e:a=r
   ·rw[if_pos e];unfold zpv;rw[if_pos e]
   ·rw[if_neg e,if_pos hai],hS.pos,hS.hd,hS.ba,hS.cst,hS.pT,hS.pR,hS.pB,hS.pC,hS.nd⟩
 have cTr: ¬ gT=gC:=nTC
 have cCr:gC≠gr:=fun e=>nCi (by rw[e];exact Ml)
 refine aE ?_
 refine aW aM (rem b gC) (cW b gC) [0,1,2,3,4,5,6,7,8,9,10,11] 1 (by kernel_rfl) ?_
 simp[nTC,nRC,cT,cG,hr,hrR,hil,hgj]
 refine Dz 12 ?_
 simp
 refine qG gC gr j k co (fun c=>Z r c / Z r k) hw hk cC Hh cCr hS.pC Yr (fun c hc=>cJ (ht.co c hc)) hzr (fun c hc=>yL (ht.co k hk) (hzt c hc)) (fun c hc=>cJ (ht'.co c hc)) fun b' hx hb'=> ?_
 simp
 refine⟨fun z y hz=> ?_,Dy ?_⟩
 ·rw[aF] at hz
  split at hz
  ·cases hz
  ·exact hx z y hz (by assumption)
 have hS2:SS b' ⟨gT,gR,gB,gC,ids⟩ ⟨i,j,n,zpv Z r k,cpv Z co r k,bs⟩:=(aNJ.Zp (cpv Z co r k)).bI fun x y hx1 hy=>by
  by_cases e:x=gC
  ·subst e
   simp only at hy
   rw[aY] at hy
   cases hy
   rw[hb'];rfl
  ·simp only at hy
   rw[aG _ _ _ _ e] at hy
   exact hx x y hy e
 have dT:b' gT=_:=hS2.hd
 have dB:b' gB=_:=hS2.ba
 simp only at dT dB
 simp
 refine aC ?_
 have hbp:0≤gB:=by
  rcases Int.lt_or_le gB 0 with e | e
  ·have:=hS.pB e;simp only at this;omega
  ·exact e
 have aSU:(iv (lb i bs)).set r [.int .i64 k]=iv (lb i (pvS bs r k)):=Qn bs hr
 simp[dT,dB,hr,hrR,aSU]
 rw[iV]
 refine⟨[],by simp,hK _ (hS2.aSP (pvS bs r k)) fun x y h1 h2=> ?_⟩
 have x1:x≠gB:=fun e=>h2 (by rw[e];simp[SG.all])
 have x2:x≠gC:=fun e=>h2 (by rw[e];simp[SG.all])
 simp only
 rw[aG _ _ _ _ x1]
 exact hx x y (hfb x y h1 h2) x2

def basic (r:Nat) (bs:Nat→Nat) (j:Nat):Prop:= ∃p,p<r∧bs p=j
instance (r : Nat) (bs : Nat → Nat) (j : Nat) : Decidable (basic r bs j) := by unfold basic; infer_instance
theorem Y1 (t:SN) (j:Nat) (hr:t.r≤100):RO Tryz.prog 247 [.ptr t.c,.int .i64 j] (.bool (decide (basic t.r t.bs j))):=by
 obtain⟨R,w,n,Z,co,bs⟩:=t
 simp only at hr
 refine aI Tryz.func247 rfl rfl (by rw[Tryz.ntmps247];simp) fun bl=> ?_
 rw[Tryz.ntmps247,Tryz.results247]
 refine aC ?_
 simp[SN.c]
 refine aJ (fun i:Nat=> [(1,.int .i64 j),(10,.sl (iv (lb R bs))),(11,.int .i64 R),(12,.int .i64 i)]) (fun _=>bl) (fun i=>i≤R∧ ∀p,p<i→bs p≠j) (fun i=>R - i) _ 0 ⟨Nat.zero_le _,fun p hp=>by omega⟩ ⟨rfl,by simp,Sub.refl _⟩ ?_
 rintro i ⟨hi,cD⟩
 have wi:IntKind.i64.wrap ((i:Int)+1)=(i:Int)+1:=i64_in (by omega) (by omega)
 refine aC ?_
 simp
 refine⟨fun hiR=> ?_,fun hiR=> ?_⟩
 ·simp[hiR]
  refine⟨fun hb=> ?_,fun hb=> ?_⟩
  ·have hd:basic R bs j:=⟨i,hiR,by omega⟩
   exact aR (by simp[hd]) rfl rfl
  ·simp[wi,aB]
   refine⟨i+1,⟨by omega,fun p hp=> ?_⟩,by omega,rfl,by simp,Sub.refl _⟩
   by_cases e:p=i
   ·rw[e];omega
   ·exact cD p (by omega)
 ·have: ¬ basic R bs j:=fun⟨p,hp,e⟩=>cD p (by omega) e
  exact aR (by simp[this]) rfl rfl
theorem U2 (t:SN) (j:Nat) (hj:j<t.w) (hf:fits (t.co j)):RO Tryz.prog 248 [.ptr t.c,.int .i64 j,.bool false] (.int .i64 (t.co j).num.sign):=by
 obtain⟨R,w,n,Z,co,bs⟩:=t
 simp only at hj hf
 have hjw:(j:Int)<w:=by omega
 have l3: ∀q:Rat,(rq q).c.length=3:=fun _=>rfl
 have t3: ∀q:Rat,(rq q).c.take 3=(rq q).c:=fun _=>rfl
 refine aI Tryz.func248 rfl rfl (by rw[Tryz.ntmps248];simp) fun bl=> ?_
 rw[Tryz.ntmps248,Tryz.results248]
 refine aC ?_
 simp[SN.c,hj,hjw,l3,t3]
 refine aD (gK hf) ?_
 simp
 obtain⟨s,hs⟩: ∃s,(co j).num.sign=s:=⟨_,rfl⟩
 rw[hs]
 refine aJ (fun _:Unit=> [(0,.ptr [.int .i64 n,.sl (rrs R w Z),.sl (iv (lb R bs)),.sl (rqs w co)]),(1,.int .i64 j),(2,.bool false),(7,.int .i64 s),(8,.int .i64 0)]) (fun _=>bl) (fun _=>True) (fun _=>0) _ () trivial ⟨rfl,by simp,Sub.refl _⟩ ?_
 rintro⟨⟩ -
 refine aN (aN ?_)
 refine bQ [(0,.ptr [.int .i64 n,.sl (rrs R w Z),.sl (iv (lb R bs)),.sl (rqs w co)]),(1,.int .i64 j),(2,.bool false),(7,.int .i64 s),(8,.int .i64 0)] _ bl 31 (.bool false) ⟨rfl,by simp,Sub.refl _⟩ rfl ?_ ?_
 ·simp
 simp
 refine aC ?_
 simp
 exact aR (by simp) rfl rfl
structure View (m b : Nat) (E : Nat → Nat → Rat) (T : Lp.Tab) (rows : List Nat) (t : SN) : Prop where
 ti:Lp.TI m E T
 rr:Rows m rows
 len:t.r=rows.length
 bs: ∀p,p<t.r→t.bs p=T.bs (atR rows p)
 nl:t.n≤100
 rl:t.r≤100
 nw:t.w=t.n+1
 wl:t.w≤200
 dead: ∀i,i<m→i∉rows→t.n≤T.bs i
 z: ∀p j,p<t.r→j<t.n→t.Z p j=T.X (atR rows p) j
 zb: ∀p,p<t.r→t.Z p t.n=T.X (atR rows p) b
 tm:Tz t
theorem View.nb {m b:Nat} {E:Nat→Nat→Rat} {T:Lp.Tab} {rows:List Nat} {t:SN} (h:View m b E T rows t) {k:Nat} (hk:k<t.n) (hb: ∀p,p<t.r→t.bs p≠k): ∀i,i<m→T.bs i≠k:=fun i hi e=>by
 rcases Classical.em (i∈rows) with g | g
 ·obtain⟨p,hp,e2⟩:=List.mem_iff_getElem.1 g
  have hp':p<t.r:=by rw[h.len];exact hp
  refine hb p hp' ?_
  rw[h.bs p hp',show atR rows p=i by unfold atR;rw[List.getD_eq_getElem?_getD,List.getElem?_eq_getElem hp,e2];rfl,e]
 ·have:=h.dead i hi g;omega
structure Xi where
 k:Nat
 s:Int
theorem U8 {m b:Nat} {E:Nat→Nat→Rat} {C:Nat→Rat} {T:Lp.Tab} {rows:List Nat} {t:SN} (h:View m b E T rows t) (j:Nat) (hjn:j<t.n) (hnb: ¬ basic t.r t.bs j) (hco:t.co j=Lp.rc m C T j):
  RO Tryz.prog 248 [.ptr t.c,.int .i64 j,.bool true] (.int .i64 (Lp.zZ m C T j t.n)):=by
 have hjw:j<t.w:=by have:=h.nw;omega
 have hf:fits (t.co j):=cJ (h.tm.co j hjw)
 have hfZ: ∀p,p<t.r→fits (t.Z p j):=fun p hp=>cJ (h.tm.z p j hp hjw)
 have hnl:=h.nl
 have hrl:=h.rl
 have hTj: ∀i,i<m→T.bs i≠j:=h.nb hjn fun p hp e=>hnb ⟨p,hp,e⟩
 have hbs:=h.bs
 have hz:=h.z
 have aJU:= @View.nb _ _ _ _ _ _ h
 have hlen:=h.len
 have hR:=h.rr
 have hti:=h.ti
 clear h
 obtain⟨R,w,n,Z,co,bs⟩:=t
 simp only at hjn hnb hco hjw hf hfZ hnl hrl hbs hz aJU hlen
 have sD:(j:Int)<w:=by omega
 have l3: ∀q:Rat,(rq q).c.length=3:=fun _=>rfl
 have t3: ∀q:Rat,(rq q).c.take 3=(rq q).c:=fun _=>rfl
 refine aI Tryz.func248 rfl rfl (by rw[Tryz.ntmps248];simp) fun bl=> ?_
 rw[Tryz.ntmps248,Tryz.results248]
 refine aC ?_
 simp[SN.c,hjw,sD,l3,t3]
 refine aD (gK hf) ?_
 simp
 have hD0:=Lp.Deep.start m C T j
 rw[←hco] at hD0
 refine aJ (fun s:Xi=> [(0,.ptr [.int .i64 n,.sl (rrs R w Z),.sl (iv (lb R bs)),.sl (rqs w co)]),(1,.int .i64 j),(2,.bool true),(7,.int .i64 s.s),(8,.int .i64 s.k)]) (fun _=>bl) (fun s=>s.k≤n∧Lp.Deep m C T j s.k s.s) (fun s=>n - s.k) _ ⟨0,(co j).num.sign⟩ ⟨Nat.zero_le _,hD0⟩ ⟨rfl,by simp,Sub.refl _⟩ ?_
 rintro⟨k,s⟩ ⟨hk,hD⟩
 simp only at hk hD
 have wk:IntKind.i64.wrap ((k:Int)+1)=(k:Int)+1:=i64_in (by omega) (by omega)
 refine aN (aN ?_)
 refine bQ [(0,.ptr [.int .i64 n,.sl (rrs R w Z),.sl (iv (lb R bs)),.sl (rqs w co)]),(1,.int .i64 j),(2,.bool true),(7,.int .i64 s),(8,.int .i64 k)] _ bl 31 (.bool (decide (s=0∧k<n))) ⟨rfl,by simp,Sub.refl _⟩ rfl ?_ ?_
 ·simp
  by_cases h0:s=0<;>simp[h0]
 simp
 refine aC ?_
 simp
 refine⟨fun h0 hkn=> ?_,fun hno=> ?_⟩
 ·subst h0
  refine aC ?_
  simp
  refine⟨fun hkj=> ?_,fun hkj=> ?_⟩
  ·have hkj:k=j:=by omega
   subst hkj
   exact aR (by simp[hD.self hTj hkn]) rfl rfl
  have hkj:k≠j:=by omega
  refine aJ (fun q:Xi=> [(0,.ptr [.int .i64 n,.sl (rrs R w Z),.sl (iv (lb R bs)),.sl (rqs w co)]),(1,.int .i64 j),(2,.bool true),(7,.int .i64 q.s),(8,.int .i64 k),(40,.sl (iv (lb R bs))),(41,.int .i64 R),(42,.int .i64 q.k)]) (fun _=>bl) (fun q=>q.k≤R∧((q.s=0∧ ∀p,p<q.k→bs p≠k)∨ ∃p,p<q.k∧bs p=k∧q.s=(Z p j).num.sign)) (fun q=>R - q.k) _ ⟨0,0⟩ ⟨Nat.zero_le _,.inl ⟨rfl,fun p hp=>by simp only at hp;omega⟩⟩ ⟨rfl,by simp,Sub.refl _⟩ ?_
  rintro⟨i,s⟩ ⟨hi,hs⟩
  simp only at hi hs
  have wi:IntKind.i64.wrap ((i:Int)+1)=(i:Int)+1:=i64_in (by omega) (by omega)
  refine aC ?_
  simp
  refine⟨fun hiR=> ?_,fun hiR=> ?_⟩
  ·have Ll:(i:Int)<R:=by omega
   simp[hiR]
   refine⟨fun hb=> ?_,fun hb=> ?_⟩
   ·have hb:bs i=k:=by omega
    simp[hiR,Ll,hjw,sD,l3,t3]
    refine aD (gK (hfZ i hiR)) ?_
    simp[wi,aB]
    refine⟨⟨i+1,(Z i j).num.sign⟩,⟨by simp only;omega,.inr ⟨i,by simp only;omega,hb,rfl⟩⟩,by simp only;omega,rfl,by simp,Sub.refl _⟩
   ·have hb:bs i≠k:=by omega
    simp[wi,aB]
    refine⟨⟨i+1,s⟩,⟨by simp only;omega,?_⟩,by simp only;omega,rfl,by simp,Sub.refl _⟩
    simp only
    rcases hs with ⟨h1,h2⟩| ⟨p,h1,h2,h3⟩
    ·refine .inl ⟨h1,fun p hp=> ?_⟩
     by_cases e:p=i
     ·rw[e];exact hb
     ·exact h2 p (by omega)
    ·exact .inr ⟨p,by omega,h2,h3⟩
  have hie:i=R:=by omega
  subst hie
  have oV:Lp.Deep m C T j (k+1) s:=by
   refine hD.next ?_
   rcases hs with ⟨h1,h2⟩| ⟨p,h1,h2,h3⟩
   ·rw[h1,Lp.O6 (Ne.symm hkj) (aJU hkn h2)];rfl
   ·have e1:=hbs p h1
    have hin:atR rows p<m:=hR.lt (cM (by omega))
    rw[h3,hz p j h1 hjn,←h2,e1,Lp.Ec hti hin (by rw[←e1,h2];exact Ne.symm hkj)]
  simp[wk,aB]
  refine⟨⟨k+1,s⟩,⟨by simp only;omega,oV⟩,by simp only;omega,rfl,by simp,Sub.refl _⟩
 ·have hE:Lp.zZ m C T j n=s:=by
   rcases Classical.em (s=0) with e | e
   ·have:k=n:=by have:=hno e;omega
    subst this;exact hD.eq
   ·exact(hD.mono e hk).eq
  exact aR (by simp[hE]) rfl rfl
end Go.Proofs.YticmgmemnpcbbaaGreat.Vm

namespace Go.Proofs.YticmgmemnpcbbaaGreat.Vm
open Go Go.RowKit Go.Proofs
set_option linter.unusedSimpArgs false
set_option linter.unusedVariables false
def isGC :Oper→Bool
 | ⟨_, .call ⟨.value _, _, _⟩, _, _, _, some _⟩ => true
 | _ => false
section
variable (P : Program) (ds : List (Option Tmp)) (blK : Int → Option Blk)
def HoistG :List Oper→(St→Prop)→St→Prop
 | [], K, σ => K σ
 | o :: rest, K, σ => match o with
   | ⟨d,.call ⟨.value f,args,_⟩,_,_,_,some (j,b)⟩=>match ds[j]? with
     | some (some t)=>match σ.ev (.tmp t) with
       | .bool q=>if q=b then bP (callV σ f args.toList) fun p=> ∃v,RO P p.1 p.2 v∧HoistG rest K (σ.put d v) else HoistG rest K (σ.put d (.tup []))
       | .tup []=>HoistG rest K (σ.put d (.tup []))
       | _=>False
     | _=>False
   | o=>HoistF P ds blK [o] (HoistG rest K) σ
def gcK (rest:List Oper) (K:St→Prop) (σ:St) (d:Option Tmp) (o:Option (FuncId×List V)):Prop:=bP o fun p=> ∃v,RO P p.1 p.2 v∧HoistG P ds blK rest K (σ.put d v)
def gcV (rest:List Oper) (K:St→Prop) (σ:St) (d:Option Tmp) (f:Operand) (args:Array Operand) (b:Bool) (x:V):Prop:=match x with
 | .bool q => if q = b then gcK P ds blK rest K σ d (callV σ f args.toList) else HoistG P ds blK rest K (σ.put d (.tup []))
 | .tup [] => HoistG P ds blK rest K (σ.put d (.tup []))
 | _ => False
def gcS (rest:List Oper) (K:St→Prop) (σ:St) (d:Option Tmp) (f:Operand) (args:Array Operand) (b:Bool) (x:Option (Option Tmp)):Prop:=match x with
 | some (some t) => gcV P ds blK rest K σ d f args b (σ.ev (.tmp t))
 | _ => False
variable (rest : List Oper) (K : St → Prop) (σ : St) (d : Option Tmp) (f : Operand) (args : Array Operand) (ats : Array TypeId) (ty : TypeId) (pos : String) (af : Array Edge) (b : Bool)
@[simp] theorem aC7 : HoistG P ds blK [] K σ = K σ := (rfl)
@[simp] theorem wD (j : Nat) : HoistG P ds blK (⟨d, .call ⟨.value f, args, ats⟩, ty, pos, af, some (j, b)⟩ :: rest) K σ = gcS P ds blK rest K σ d f args b (ds[j]?) := (rfl)
@[simp] theorem aKW (t : Tmp) : gcS P ds blK rest K σ d f args b (some (some t)) = gcV P ds blK rest K σ d f args b (σ.ev (.tmp t)) := (rfl)
@[simp] theorem aSY : gcV P ds blK rest K σ d f args false (.bool false) = gcK P ds blK rest K σ d (callV σ f args.toList) := by simp [gcV]
@[simp] theorem aTU : gcV P ds blK rest K σ d f args false (.bool true) = HoistG P ds blK rest K (σ.put d (.tup [])) := by simp [gcV]
@[simp] theorem aGU : gcV P ds blK rest K σ d f args b (.tup []) = HoistG P ds blK rest K (σ.put d (.tup [])) := (rfl)
theorem dF {o:Oper} (h:isGC o=false):HoistG P ds blK (o::rest) K σ=HoistF P ds blK [o] (HoistG P ds blK rest K) σ:=by
 obtain⟨d,op,ty,pos,af,gd⟩:=o
 unfold HoistG
 split
 ·rename_i heq
  cases heq
  cases h
 ·rfl
end
section
variable (P : Program) (ds : List (Option Tmp)) (blK : Int → Option Blk) (rest : List Oper) (K : St → Prop) (σ : St) (d : Option Tmp) (ty : TypeId) (pos : String) (af : Array Edge) (g : Nat × Bool)
attribute [-simp] D6
@[simp high] theorem Tq : HoistF P ds blK [] K σ = K σ := (rfl)
theorem Kj (op:Op):isGC ⟨d,op,ty,pos,af,none⟩=false:=by
 unfold isGC
 split
 ·rename_i h;cases h
 ·rfl
@[simp] theorem Wj (op : Op) : HoistG P ds blK (⟨d, op, ty, pos, af, none⟩ :: rest) K σ = HoistF P ds blK [⟨d, op, ty, pos, af, none⟩] (HoistG P ds blK rest K) σ := dF _ _ _ _ _ _ (Kj _ _ _ _ _)
@[simp] theorem Xt (x : Operand) : HoistG P ds blK (⟨d, .move x, ty, pos, af, some g⟩ :: rest) K σ = HoistF P ds blK [⟨d, .move x, ty, pos, af, some g⟩] (HoistG P ds blK rest K) σ := dF _ _ _ _ _ _ rfl
@[simp] theorem Ye (c a b : Operand) : HoistG P ds blK (⟨d, .pick c a b, ty, pos, af, some g⟩ :: rest) K σ = HoistF P ds blK [⟨d, .pick c a b, ty, pos, af, some g⟩] (HoistG P ds blK rest K) σ := dF _ _ _ _ _ _ rfl
@[simp] theorem Xj (t : TypeId) (x : Operand) : HoistG P ds blK (⟨d, .load t x, ty, pos, af, some g⟩ :: rest) K σ = HoistF P ds blK [⟨d, .load t x, ty, pos, af, some g⟩] (HoistG P ds blK rest K) σ := dF _ _ _ _ _ _ rfl
@[simp] theorem Lr (x : Operand) : HoistG P ds blK (⟨d, .nilCheck x, ty, pos, af, some g⟩ :: rest) K σ = HoistF P ds blK [⟨d, .nilCheck x, ty, pos, af, some g⟩] (HoistG P ds blK rest K) σ := dF _ _ _ _ _ _ rfl
@[simp] theorem Vn (op : BinOp) (t : TypeId) (x y : Operand) (t2 : TypeId) : HoistG P ds blK (⟨d, .binOp op t x y t2, ty, pos, af, some g⟩ :: rest) K σ = HoistF P ds blK [⟨d, .binOp op t x y t2, ty, pos, af, some g⟩] (HoistG P ds blK rest K) σ := dF _ _ _ _ _ _ rfl
@[simp] theorem Ij (t : TypeId) (x : Operand) (i : Nat) : HoistG P ds blK (⟨d, .fieldAddr t x i, ty, pos, af, some g⟩ :: rest) K σ = HoistF P ds blK [⟨d, .fieldAddr t x i, ty, pos, af, some g⟩] (HoistG P ds blK rest K) σ := dF _ _ _ _ _ _ rfl
@[simp] theorem Kg (t : TypeId) (x i : Operand) : HoistG P ds blK (⟨d, .indexAddr t x i, ty, pos, af, some g⟩ :: rest) K σ = HoistF P ds blK [⟨d, .indexAddr t x i, ty, pos, af, some g⟩] (HoistG P ds blK rest K) σ := dF _ _ _ _ _ _ rfl
end
theorem Am {P:Program} {ds:List (Option Tmp)} {blK:Int→Option Blk} {rest:List Oper} {K:St→Prop} {σ:St} {d:Option Tmp} {f:FuncId} {xs:List V} {v:V} (h:RO P f xs v) (hK:HoistG P ds blK rest K (σ.put d v)):gcK P ds blK rest K σ d (some (f,xs)):=
 ⟨_,rfl,v,h,hK⟩
theorem K6 {o:Oper} (h:isGC o=true): ∃d f args ats ty pos af j b,o=⟨d,.call ⟨.value f,args,ats⟩,ty,pos,af,some (j,b)⟩:=by
 unfold isGC at h
 split at h
 ·rename_i d f args ats ty pos af jb
  obtain⟨j,b⟩:=jb
  exact⟨_,_,_,_,_,_,_,_,_,rfl⟩
 ·cases h
theorem Dm {P:Program} {ds:List (Option Tmp)} {blK:Int→Option Blk} {K:St→Prop} {σ:St} {ops:Array Oper} {o:Oper} (hd:ds=ops.toList.map (·.dst)) (h:HoistF P ds blK [o] K σ) {k:Nat} (h0:ops[k]? =some o): ∃v,DY P ops blK o σ v∧K (σ.put o.dst v):=by
 have:=lR (P:=P) (ops:=ops) (blK:=blK) (K:=K) [o] [k] σ (by simp[h0]) (by rw[←hd];exact h)
 unfold Hoist at this
 rw[h0] at this
 exact this
theorem I8 {P:Program} {ops:Array Oper} {blK:Int→Option Blk} {K:St→Prop} : ∀(l:List Oper) (k:Nat) (σ:St),(∀j,l[j]? =ops[k+j]?)→HoistG P (ops.toList.map (·.dst)) blK l K σ→Hoist P ops blK (List.range' k l.length) K σ
 | [], k, σ, _, h => h
 | o :: rest, k, σ, hl, h => by
   have h0:ops[k]? =some o:=by simpa using (hl 0).symm
   have ih:=fun σ' (h':HoistG P (ops.toList.map (·.dst)) blK rest K σ')=>I8 rest (k+1) σ' (fun j=>by have:=hl (j+1);simpa [Nat.add_assoc,Nat.add_comm 1 j] using this) h'
   have hds: ∀(j:Nat) d,(ops.toList.map (·.dst))[j]? =some (some d)→(ops[j]?).bind (·.dst)=some d:=by
    intro j d hd
    rw[List.getElem?_map,Array.getElem?_toList] at hd
    rcases h:ops[j]? with _ | o
    ·rw[h] at hd;cases hd
    ·rw[h] at hd;simpa using hd
   show Hoist P ops blK (k::List.range' (k+1) rest.length) K σ
   unfold Hoist
   rw[h0]
   simp only
   cases hgc:isGC o with
   | false=>
     rw[dF _ _ _ _ _ _ hgc] at h
     obtain⟨v,h1,h2⟩:=Dm rfl h h0
     exact⟨v,h1,ih _ h2⟩
   | true=>
     obtain⟨d,f,args,ats,ty,pos,af,j,b,rfl⟩:=K6 hgc
     rw[wD] at h
     unfold DY
     simp only
     unfold gcS at h
     split at h
     ·rename_i t hd
      rw[hds j t hd]
      simp only
      unfold gcV at h
      split at h
      ·rename_i q hq
       rw[hq]
       split at h
       ·rename_i hqb
        obtain⟨p,hp,v,h1,h2⟩:=h
        exact⟨v,⟨fun _=> .inr ⟨_,f,p,0,[],rfl,rfl,hp,.inr (Wz h1)⟩,fun hh=>by subst hqb;cases q<;>cases hh⟩,ih _ h2⟩
       ·rename_i hqb
        exact⟨.tup [],⟨fun hh=>absurd hh hqb,fun _=>rfl⟩,ih _ h⟩
      ·rename_i hq
       rw[hq]
       exact⟨.tup [],rfl,ih _ h⟩
      ·exact h.elim
     ·exact h.elim
theorem sZ {P:Program} {ds:List (Option Tmp)} {blK:Int→Option Blk} {K:St→Prop} (S:List (Option Tmp)) (σ0:St): ∀(l:List Oper) (σ:St),HoistG P ds blK l K σ→(∀o,o∈l→o.dst∈S)→(σ.n=σ0.n∧ ∀t,some t∉S→σ.sl t=σ0.sl t)→
  HoistG P ds blK l (fun σ'=>K σ'∧σ'.n=σ0.n∧ ∀t,some t∉S→σ'.sl t=σ0.sl t) σ
 | [], σ, h, _, h0 => ⟨h, h0⟩
 | o :: rest, σ, h, hS, h0 => by
   have bI: ∀v,(σ.put o.dst v).n=σ0.n∧ ∀t,some t∉S→(σ.put o.dst v).sl t=σ0.sl t:=fun v=>by
    have hd:=hS o List.mem_cons_self
    cases hod:o.dst with
    | none => exact h0
    | some d =>
      rw[hod] at hd
      exact⟨h0.1,fun t ht=>by
       show upd σ.sl d v t=_
       rw[aG _ _ _ _ (fun e=>ht (by rw[e];exact hd))];exact h0.2 t ht⟩
   have next: ∀σ',HoistG P ds blK rest K σ'→(σ'.n=σ0.n∧ ∀t,some t∉S→σ'.sl t=σ0.sl t)→HoistG P ds blK rest (fun σ'=>K σ'∧σ'.n=σ0.n∧ ∀t,some t∉S→σ'.sl t=σ0.sl t) σ':=fun σ' hv hk=>
    sZ S σ0 rest _ hv (fun o' ho'=>hS o' (List.mem_cons_of_mem _ ho')) hk
   cases hgc:isGC o with
   | false=>
     rw[dF _ _ _ _ _ _ hgc] at h ⊢
     have:=oO S σ0 [o] σ h (fun o' ho'=>hS o' (by rw[List.mem_singleton.1 ho'];exact List.mem_cons_self)) h0
     revert this
     have mono: ∀(K1 K2:St→Prop),(∀σ',K1 σ'→K2 σ')→HoistF P ds blK [o] K1 σ→HoistF P ds blK [o] K2 σ:=by
      intro K1 K2 hK hh
      unfold HoistF at hh ⊢
      cases hg:o.guard with
      | none =>
        simp only[hg] at hh ⊢
        split at hh
        ·obtain⟨p,h1,v,n,ys,h2,h3⟩:=hh
         exact⟨p,h1,v,n,ys,h2,hK _ h3⟩
        ·obtain⟨v,h1,h2⟩:=hh
         exact⟨v,h1,hK _ h2⟩
      | some jb =>
        obtain⟨j,b⟩:=jb
        simp only[hg] at hh ⊢
        split at hh
        ·split at hh
         ·split at hh
          ·rename_i hq
           obtain⟨v,h1,h2⟩:=hh
           rw[if_pos hq]
           exact⟨v,h1,hK _ h2⟩
          ·rename_i hq
           rw[if_neg hq]
           exact hK _ hh
         ·exact hK _ hh
         ·exact hh.elim
        ·exact hh.elim
     exact mono _ _ fun σ' hk=>next σ' hk.1 hk.2
   | true=>
     obtain⟨d,f,args,ats,ty,pos,af,j,b,rfl⟩:=K6 hgc
     rw[wD] at h ⊢
     unfold gcS at h ⊢
     split at h
     ·unfold gcV at h ⊢
      split at h
      ·split at h
       ·rename_i hq
        obtain⟨p,hp,v,h1,h2⟩:=h
        rw[if_pos hq]
        exact⟨p,hp,v,h1,next _ h2 (bI v)⟩
       ·rename_i hq
        rw[if_neg hq]
        exact next _ h (bI _)
      ·exact next _ h (bI _)
      ·exact h.elim
     ·exact h.elim
theorem My {P:Program} {id:Nat} {ops:Array Oper} {K:Ex→St→Prop} {σ:St} (hm:P.follows .mixedOrders=true) (hB:zT ops=true) (l:List (Nat×V)) (n:Nat) (bl:Int→Option Blk) (t:Nat) (v:V) (hf:Fit l n bl σ) (hd:(l.all fun p=> !(ops.toList.map (·.dst)).contains (some p.1))=true)
  (h1:HoistG P (ops.toList.map (·.dst)) bl ops.toList (fun σ'=>σ'.sl t=v∧σ'.bl=bl) ⟨n,hv l,bl⟩) (h2:K .normal ⟨n,hv ((t,v)::l),bl⟩):AW P (.region id ops true) K σ:=by
 refine cX l n bl hf ?_
 have hq:AW P (.region id ops true) (fun e σ'=>e= .normal∧(σ'.sl t=v∧σ'.bl=bl)∧σ'.n=n∧ ∀u,some u∉ops.toList.map (·.dst)→σ'.sl u=hv l u) ⟨n,hv l,bl⟩:=by
  have hB2:=hB
  simp only[zT,Bool.and_eq_true,List.isEmpty_iff] at hB2
  refine rL hm hB2.1 hB2.2 ?_
  have:=sZ (ops.toList.map (·.dst)) ⟨n,hv l,bl⟩ ops.toList ⟨n,hv l,bl⟩ h1 (fun o ho=>List.mem_map_of_mem ho) ⟨rfl,fun _ _=>rfl⟩
  have:=I8 ops.toList 0 ⟨n,hv l,bl⟩ (fun j=>by simp) this
  rw[List.range_eq_range',←Array.length_toList]
  simpa using this
 intro w0 M F a w hs
 refine wp_mono (hq w0 M F a w hs) fun e a' w' hp=> ?_
 obtain⟨ex,σ',F',e1,e2,e3,rfl,⟨k1,k2⟩,k3,k4⟩:=hp
 refine⟨.normal,⟨n,hv ((t,v)::l),bl⟩,F',e1,e2,e3.le ?_,h2⟩
 refine J3 ⟨k3,fun p hp=> ?_,by rw[k2];exact Sub.refl _⟩
 rcases List.mem_cons.1 hp with rfl | hp
 ·exact k1
 ·have:=List.all_eq_true.1 hd p hp
  have h5:some p.1∉ops.toList.map (·.dst):=by
   intro hc
   rw[Bool.not_eq_true'] at this
   have h6:=List.contains_iff_mem.2 hc
   rw[this] at h6;cases h6
  rw[k4 _ h5,Hb l hf.2.1 p hp,hf.2.1 p hp]
end Go.Proofs.YticmgmemnpcbbaaGreat.Vm

namespace Go.Proofs.YticmgmemnpcbbaaGreat.Vm
open Go Go.RowKit Go.Proofs
set_option linter.unusedSimpArgs false
set_option linter.unusedVariables false
attribute [-simp] D6
def lT (Z:Nat→Nat→Rat) (n j i:Nat):Rat:=Z i n / Z i j
def lvQ (Z:Nat→Nat→Rat) (n j:Nat) (bs:Nat→Nat):Nat→Option Nat
 | 0 => none
 | i + 1 => if 0 < Z i j then match lvQ Z n j bs i with
   | none=>some i
   | some b=>if lT Z n j i<lT Z n j b∨lT Z n j i=lT Z n j b∧bs i<bs b then some i else some b
   else lvQ Z n j bs i
theorem vI {Z:Nat→Nat→Rat} {n j:Nat} {bs:Nat→Nat} : ∀ {i p:Nat},lvQ Z n j bs i=some p→p<i∧0<Z p j
 | 0, p, h => by cases h
 | i + 1, p, h => by
   rw[lvQ] at h
   split at h
   ·rename_i hp
    split at h
    ·cases h;exact⟨by omega,hp⟩
    ·rename_i b hb
     have:=vI hb
     split at h
     ·cases h;exact⟨by omega,hp⟩
     ·cases h;exact⟨by omega,this.2⟩
   ·have:=vI h
    exact⟨by omega,this.2⟩
theorem N2 {m b:Nat} {E:Nat→Nat→Rat} {T:Lp.Tab} {rows:List Nat} {t:SN} (h:View m b E T rows t) {j:Nat} (hj:j<t.n): ∀i,i≤rows.length→
  Lp.leave T b j (rows.take i)=(lvQ t.Z t.n j t.bs i).map fun p=>atR rows p
 | 0, _ => by simp [lvQ, Lp.leave]
 | i + 1, hi => by
   have hlt:i<rows.length:=by omega
   have hlr:i<t.r:=by rw[h.len];exact hlt
   have ih:=N2 h hj i (by omega)
   have e:rows.take (i+1)=rows.take i++ [atR rows i]:=by
    unfold atR;rw[List.take_add_one,List.getElem?_eq_getElem hlt,List.getD_eq_getElem?_getD,List.getElem?_eq_getElem hlt];rfl
   rw[e,Lp.sW,ih,lvQ]
   unfold Lp.lvStep
   rw[←h.z i j hlr hj]
   by_cases hp:0<t.Z i j
   ·rw[if_pos hp,if_pos hp]
    cases hb:lvQ t.Z t.n j t.bs i with
    | none => rfl
    | some q =>
      simp only[Option.map_some]
      have hq:=(vI hb).1
      have hqr:q<t.r:=by omega
      have e1: ∀p,p<t.r→Lp.quo T b j (atR rows p)=lT t.Z t.n j p:=fun p hp=>by
       unfold Lp.quo lT
       rw[h.z p j hp hj,h.zb p hp]
      rw[e1 i hlr,e1 q hqr,←h.bs i hlr,←h.bs q hqr]
      split<;>rfl
   ·rw[if_neg hp,if_neg hp]
theorem Ts {a b:Rat} (h:a<b):G1 a b= -1:=by
 have:=(Oa a b).1 h
 unfold G1 gZ;rw[if_pos this]
theorem Ud (a:Rat):G1 a a=0:=by
 unfold G1 gZ;rw[if_neg (by omega),if_pos rfl]
theorem Wc {a b:Rat} (h:b<a):G1 a b=1:=by
 have:=(Oa b a).1 h
 unfold G1 gZ;rw[if_neg (by omega),if_neg (by omega)]
def Lv (Z:Nat→Nat→Rat) (n j:Nat):Option Nat→List V
 | none => [.bool false, .nils, .nils]
 | some b => (ro (some (lT Z n j b))).c
theorem V7 {m b:Nat} {E:Nat→Nat→Rat} {T:Lp.Tab} {rows:List Nat} {t:SN} (h:View m b E T rows t) (j:Nat) (hjn:j<t.n):
  RO Tryz.prog 249 [.ptr t.c,.int .i64 j] (.int .i64 (oI (lvQ t.Z t.n j t.bs t.r))):=by
 have hnl:=h.nl
 have hrl:=h.rl
 have hw1:=h.nw
 have htm:=h.tm.z
 clear h
 obtain⟨R,w,n,Z,co,bs⟩:=t
 simp only at hjn hnl hrl hw1 htm
 subst hw1
 have l3: ∀q:Rat,(rq q).c.length=3:=fun _=>rfl
 have t3: ∀q:Rat,(rq q).c.take 3=(rq q).c:=fun _=>rfl
 obtain⟨w,hw⟩: ∃w,n+1=w:=⟨_,rfl⟩
 rw[hw] at htm
 refine aI Tryz.func249 rfl rfl (by rw[Tryz.ntmps249];simp) fun bl=> ?_
 rw[Tryz.ntmps249,Tryz.results249]
 refine aC ?_
 simp[SN.c,hw]
 intro g6 hg6 hb6
 refine aJ (fun i:Nat=> [(0,.ptr [.int .i64 n,.sl (rrs R w Z),.sl (iv (lb R bs)),.sl (rqs w co)]),(1,.int .i64 j),(5,.int .i64 (oI (lvQ Z n j bs i))),(6,.loc g6 3 0 0),(14,.sl (rrs R w Z)),(15,.int .i64 R),(16,.int .i64 i)]) (fun i=>upd bl g6 (some ⟨3,[Lv Z n j (lvQ Z n j bs i)]⟩)) (fun i=>i≤R) (fun i=>R - i) _ 0 (Nat.zero_le _) ⟨rfl,by simp[lvQ,oI],sub_eq (by simp[lvQ,Lv])⟩ ?_
 intro i hi
 have wi:IntKind.i64.wrap ((i:Int)+1)=(i:Int)+1:=i64_in (by omega) (by omega)
 refine aE ?_
 simp
 refine aE ?_
 simp
 refine⟨fun hiR=> ?_,fun hiR=> ?_⟩
 ·have Ll:(i:Int)<R:=by omega
  have hjw:j<w:=by omega
  have sD:(j:Int)<w:=by omega
  have hnw:n<w:=by omega
  have aTT:(n:Int)<w:=by omega
  have wn:IntKind.i64.wrap ((w:Int) - 1)=(n:Int):=by rw[i64_in (by omega) (by omega)];omega
  have fj:=cJ (htm i j hiR hjw)
  have fn:=cJ (htm i n hiR hnw)
  refine aN (aT ?_)
  refine aE ?_
  simp[hiR,Ll]
  refine aN ?_
  refine aC ?_
  simp[hjw,sD,l3,t3]
  refine aD (gK fj) ?_
  simp
  have aKN:(0<Z i j) ↔ 0<(Z i j).num:=Lp.Gg.symm
  refine⟨fun hle=> ?_,fun hgt=> ?_⟩
  ·have hlv:lvQ Z n j bs (i+1)=lvQ Z n j bs i:=by
    rw[lvQ,if_neg (by rw[aKN];omega)]
   refine aC ?_
   simp[wi,aB]
   refine⟨i+1,by omega,by omega,rfl,by simp[hlv],sub_eq (by simp[hlv])⟩
  have kM:0<Z i j:=aKN.2 (by omega)
  have hz0:Z i j≠0:=fun e=>by rw[e] at kM;exact absurd kM (by decide)
  have hfq:fits (lT Z n j i):=uD (htm i n hiR hnw) (htm i j hiR hjw) hz0
  have lD:=O2 (Z i n) (Z i j) fn fj hz0
  rw[show fit (Z i n / Z i j)=some (lT Z n j i) from by have:fits (Z i n / Z i j):=hfq;simp[fit,this,lT]] at lD
  obtain⟨B,hB⟩: ∃B,upd bl g6 (some ⟨3,[Lv Z n j (lvQ Z n j bs i)]⟩)=B:=⟨_,rfl⟩
  have hB6:B g6=some ⟨3,[Lv Z n j (lvQ Z n j bs i)]⟩:=by rw[←hB];simp
  rw[hB]
  refine aN ?_
  refine pV aM [0,1,2,3,4,5,6,7,8,9,10] 2 (by kernel_rfl) ?_
  simp[hjw,sD,hnw,aTT,l3,t3,wn]
  refine aO lD ?_
  simp
  refine Dz 11 ?_
  simp
  intro g9 hg9 hb9
  have n96: ¬ g9=g6:=fun e=>by rw[e,hB6] at hb9;cases hb9
  refine⟨by simp[hb9],Dz 12 ?_⟩
  simp[RT.c]
  refine⟨by simp[hb9],Dy ?_⟩
  simp
  refine cP 1 9 (.ptr (ro (some (lT Z n j i))).c) B (by intro z b hz;simp only[aA] at hz ⊢;grind) (by simp[frz,dropB,hb9,V.cl,RT.c]) ?_
  refine cX [(0,.ptr [.int .i64 n,.sl (rrs R w Z),.sl (iv (lb R bs)),.sl (rqs w co)]),(1,.int .i64 j),(5,.int .i64 (oI (lvQ Z n j bs i))),(6,.loc g6 3 0 0),(14,.sl (rrs R w Z)),(15,.int .i64 R),(16,.int .i64 i),(7,.int .i64 i),(9,.ptr (ro (some (lT Z n j i))).c)] 73 B ⟨rfl,by simp,Sub.refl _⟩ ?_
  cases hlv:lvQ Z n j bs i with
  | none =>
    have hnx:lvQ Z n j bs (i+1)=some i:=by rw[lvQ,if_pos kM,hlv]
    rw[hlv] at hB6
    refine aN ?_
    refine tG aM (by kernel_rfl) [(0,.ptr [.int .i64 n,.sl (rrs R w Z),.sl (iv (lb R bs)),.sl (rqs w co)]),(1,.int .i64 j),(5,.int .i64 (-1)),(6,.loc g6 3 0 0),(14,.sl (rrs R w Z)),(15,.int .i64 R),(16,.int .i64 i),(7,.int .i64 i),(9,.ptr (ro (some (lT Z n j i))).c)] _ B 68 (.bool true) ⟨rfl,by simp[oI],Sub.refl _⟩ rfl ?_ ?_
    ·simp
    simp
    refine aC ?_
    simp[hB6,Lv,RT.c,l3,t3]
    refine aC ?_
    simp[wi,aB]
    refine⟨i+1,by omega,by omega,rfl,by simp[hnx,oI],?_⟩
    simp only[hnx]
    rw[←hB]
    intro z y hz
    simp only[aA] at hz ⊢
    grind
  | some q =>
    obtain⟨hqi,hqp⟩:=vI hlv
    have hqR:q<R:=by omega
    have aTV:(q:Int)<R:=by omega
    have hq0:Z q j≠0:=fun e=>by rw[e] at hqp;exact absurd hqp (by decide)
    have hfl:fits (lT Z n j q):=uD (htm q n hqR hnw) (htm q j hqR hjw) hq0
    have T7:=Ir (lT Z n j i) (lT Z n j q) hfq hfl
    have hnx:lvQ Z n j bs (i+1)=if lT Z n j i<lT Z n j q∨lT Z n j i=lT Z n j q∧bs i<bs q then some i else some q:=by rw[lvQ,if_pos kM,hlv]
    rw[hlv] at hB6
    obtain⟨A,hA⟩: ∃A,lT Z n j i=A:=⟨_,rfl⟩
    obtain⟨L,hL⟩: ∃L,lT Z n j q=L:=⟨_,rfl⟩
    have Il:B g6=some ⟨3,[(ro (some L)).c]⟩:=by rw[hB6,←hL];rfl
    rw[hA,hL] at T7 hnx
    rw[hA]
    refine aN ?_
    refine My aM (by kernel_rfl) [(0,.ptr [.int .i64 n,.sl (rrs R w Z),.sl (iv (lb R bs)),.sl (rqs w co)]),(1,.int .i64 j),(5,.int .i64 q),(6,.loc g6 3 0 0),(14,.sl (rrs R w Z)),(15,.int .i64 R),(16,.int .i64 i),(7,.int .i64 i),(9,.ptr (ro (some A)).c)] _ B 68 (.bool (decide (A<L∨A=L∧bs i<bs q))) ⟨rfl,by simp[oI],Sub.refl _⟩ rfl ?_ ?_
    ·have hq1: ¬ (q:Int)<0:=by omega
     rcases(show A<L∨A=L∨L<A by grind) with c | c | c
     ·rw[Ts c] at T7
      simp[hq1,Il,l3,t3]
      refine Am T7 ?_
      simp[c]
     ·subst c
      rw[Ud] at T7
      have c2: ¬ A<A:=by grind
      simp[hq1,Il,l3,t3]
      refine Am T7 ?_
      simp[c2,Il,l3,t3]
      refine Am T7 ?_
      simp[c2,hiR,Ll,hqR,aTV]
     ·rw[Wc c] at T7
      have c2: ¬ A<L:=by grind
      have c3: ¬ A=L:=by grind
      simp[hq1,Il,l3,t3]
      refine Am T7 ?_
      simp[c2,c3,Il,l3,t3]
      refine Am T7 ?_
      simp[c2,c3]
    by_cases hc:A<L∨A=L∧bs i<bs q
    ·rw[if_pos hc] at hnx
     simp[hc]
     refine aC ?_
     simp[Il,RT.c,l3,t3]
     refine aC ?_
     simp[wi,aB]
     refine⟨i+1,by omega,by omega,rfl,by simp[hnx,oI],?_⟩
     simp only[hnx]
     rw[←hA,←hB]
     intro z y hz
     simp only[aA] at hz ⊢
     by_cases e:z=g6
     ·rw[if_pos e] at hz ⊢;exact hz
     ·rw[if_neg e] at hz ⊢;rw[if_neg e];exact hz
    ·rw[if_neg hc] at hnx
     simp[hc]
     refine aC ?_
     simp
     refine aC ?_
     simp[wi,aB]
     refine⟨i+1,by omega,by omega,rfl,by simp[hnx,oI],?_⟩
     simp only[hnx]
     rw[←hB,hlv]
     exact Sub.refl _
 ·have hie:i=R:=by omega
  subst hie
  exact aK [.int .i64 (oI (lvQ Z n j bs i))] 0 (by simp) (by simp[frz]) (by simp[hb6])
end Go.Proofs.YticmgmemnpcbbaaGreat.Vm

namespace Go.Proofs.YticmgmemnpcbbaaGreat.Vm
open Go Go.RowKit Go.Proofs
set_option linter.unusedSimpArgs false
set_option linter.unusedVariables false
def snV (rows:List Nat) (n b m:Nat) (w0:Nat→Rat) (T:Lp.Tab):SN:=⟨rows.length,n+1,n,fun p c=>T.X (atR rows p) (if c<n then c else b),fun c=>Lp.rc m w0 T (if c<n then c else b),fun p=>T.bs (atR rows p)⟩
theorem SS.congr {b:Int→Option Blk} {g:SG} {r w n:Nat} {Z Z':Nat→Nat→Rat} {co co':Nat→Rat} {bs bs':Nat→Nat} (h:SS b g ⟨r,w,n,Z,co,bs⟩) (hZ: ∀p c,p<r→c<w→Z p c=Z' p c) (hc: ∀c,c<w→co c=co' c) (hb: ∀p,p<r→bs p=bs' p):SS b g ⟨r,w,n,Z',co',bs'⟩:=by
 have hlb:lb r bs=lb r bs':=List.map_congr_left fun p hp=>by rw[hb p (by simpa using hp)]
 refine⟨h.len,h.top,fun i x hi=> ?_,h.pos,h.hd,?_,?_,h.pT,h.pR,h.pB,h.pC,h.nd⟩
 ·have hlt:i<r:=by have:=h.len;simp only at this;rw[←this];exact(List.getElem?_eq_some_iff.1 hi).1
  rw[h.row i x hi]
  simp only
  rw[bU fun c hc2=>hZ i c hlt hc2]
 ·have:=h.ba
  simp only at this ⊢
  rw[this,hlb]
 ·have:=h.cst
  simp only at this ⊢
  rw[this,bU hc]
structure Rb (n0 m n : Nat) (E : Nat → Nat → Rat) (rows : List Nat) (deep : Bool) (w0 : Nat → Rat) (ok : Lp.Tab → Nat → Prop) : Prop where
 ml:m≤17
 nl:n0+m≤100
 nn:n≤n0+m
 rr:Rows m rows
 dead: ∀T,nT n0 m E rows T→ ∀i,i<m→i∉rows→n≤T.bs i
 wt: ∀c,c<n0+m+1→Lp.isInt (w0 c)∧ -((1000:Nat):Rat)≤w0 c∧w0 c≤((1000:Nat):Rat)
 bas: ∀T,nT n0 m E rows T→ ∀j,j<n→basic rows.length (fun p=>T.bs (atR rows p)) j→ ¬ ok T j
theorem Rb.view {n0 m n:Nat} {E:Nat→Nat→Rat} {rows:List Nat} {deep:Bool} {w0:Nat→Rat} {ok:Lp.Tab→Nat→Prop} (h:Rb n0 m n E rows deep w0 ok) {T:Lp.Tab} (hI:nT n0 m E rows T):View m (n0+m) E T rows (snV rows n (n0+m) m w0 T):=by
 have hl:=h.rr.len
 have hml:=h.ml
 have hnl:=h.nl
 have hnn:=h.nn
 refine⟨hI.z.ti,h.rr,rfl,fun _ _=>rfl,?_,?_,rfl,?_,h.dead T hI,fun p j _ hj=> ?_,fun p _=> ?_,⟨fun i c hi hc=> ?_,fun c hc=> ?_,?_,?_⟩⟩
 ·show n≤100;omega
 ·show rows.length≤100;omega
 ·show n+1≤200;omega
 ·show T.X _ (if j<n then j else n0+m)=_
  rw[if_pos (show j<n from hj)]
 ·show T.X _ (if n<n then n else n0+m)=_
  rw[if_neg (by omega)]
 ·have hi':i<rows.length:=hi
  have hin:=h.rr.lt (cM hi')
  exact Lp.fJ (hI.z.sm (c:=if c<n then c else n0+m) hin (by split<;>omega)) (uM hml)
 ·exact Lp.fJ (hI.z.rc h.wt (c:=if c<n then c else n0+m) (by split<;>omega) (by decide)) (tE hml)
 ·show n+1≤200;omega
 ·show rows.length≤100;omega
theorem Gi {n0 m n:Nat} {rows:List Nat} {w0:Nat→Rat} {T:Lp.Tab} (hr:Rows m rows) {pr k:Nat} (hp:pr<rows.length) (hk:k<n) (h0:T.X (atR rows pr) k≠0):
  (∀p c,p<rows.length→zpv (snV rows n (n0+m) m w0 T).Z pr k p c=(snV rows n (n0+m) m w0 (Lp.piv T (atR rows pr) k)).Z p c)∧
  (∀c,cpv (snV rows n (n0+m) m w0 T).Z (snV rows n (n0+m) m w0 T).co pr k c=(snV rows n (n0+m) m w0 (Lp.piv T (atR rows pr) k)).co c)∧
  (∀p,p<rows.length→pvS (snV rows n (n0+m) m w0 T).bs pr k p=(snV rows n (n0+m) m w0 (Lp.piv T (atR rows pr) k)).bs p):=by
 refine⟨fun p c hpl=> ?_,fun c=> ?_,fun p hpl=> ?_⟩
 ·unfold zpv snV
  simp only
  rw[if_pos hk]
  by_cases e:p=pr
  ·subst e;rw[if_pos rfl,Lp.rU]
  ·rw[if_neg e,Lp.mW T k _ fun e2=>e (hr.inj hpl hp e2)]
 ·unfold cpv snV
  simp only
  rw[if_pos hk,Lp.Ph w0 T (hr.lt (cM hp)) h0]
 ·unfold pvS snV
  simp only
  by_cases e:p=pr
  ·subst e;rw[if_pos rfl,Lp.dQ]
  ·rw[if_neg e,Lp.dA T k fun e2=>e (hr.inj hpl hp e2)]
structure aNE where
 e:Nat
 b:Int→Option Blk
structure aHB where
 j:Nat
 en:Int
theorem l10Run_cp {bl:Int→Option Blk} {K:V→(Int→Option Blk)→Prop} {n0 m n:Nat} {E:Nat→Nat→Rat} {rows:List Nat} {deep:Bool} {w0:Nat→Rat} {ok:Lp.Tab→Nat→Prop} (h:Rb n0 m n E rows deep w0 ok) (g:SG) (T:Lp.Tab) (e:Nat)
  (hsg: ∀T,nT n0 m E rows T→ ∀j,j<n→ ¬ basic rows.length (fun p=>T.bs (atR rows p)) j→ ∃s:Int,(0<s ↔ ok T j)∧RO Tryz.prog 248 [.ptr (snV rows n (n0+m) m w0 T).c,.int .i64 j,.bool deep] (.int .i64 s))
  (h1:Lp.nx n (n0+m) rows ok (Lp.orb (Lp.nx n (n0+m) rows ok) T e)=none)
  (h2: ∀e',e'<e→(Lp.nx n (n0+m) rows ok (Lp.orb (Lp.nx n (n0+m) rows ok) T e')).isSome=true)
  (hI: ∀e',e'≤e→nT n0 m E rows (Lp.orb (Lp.nx n (n0+m) rows ok) T e'))
  (hS:SS bl g (snV rows n (n0+m) m w0 T))
  (hT: ∀b',Lp.fstP (ok (Lp.orb (Lp.nx n (n0+m) rows ok) T e)) n=none→SS b' g (snV rows n (n0+m) m w0 (Lp.orb (Lp.nx n (n0+m) rows ok) T e))→(∀x y,bl x=some y→x∉g.all→b' x=some y)→K (.bool true) b')
  (hF: ∀b' k,Lp.fstP (ok (Lp.orb (Lp.nx n (n0+m) rows ok) T e)) n=some k→Lp.leave (Lp.orb (Lp.nx n (n0+m) rows ok) T e) (n0+m) k rows=none→(∀x y,bl x=some y→x∉g.all→b' x=some y)→K (.bool false) b'):
  bW Tryz.prog 190 [.loc g.T 4 0 0,.bool deep] bl K:=by
 obtain⟨nxf,hnx⟩: ∃f,Lp.nx n (n0+m) rows ok=f:=⟨_,rfl⟩
 rw[hnx] at h1 h2 hI hT hF
 have hml:=h.ml
 have hnl:=h.nl
 have hnn:=h.nn
 have hrl:=h.rr.len
 refine bO Tryz.func190 rfl rfl (by rw[Tryz.ntmps190];simp) ?_
 rw[Tryz.ntmps190,Tryz.results190]
 refine aC ?_
 simp
 refine aJ (fun q:aNE=> [(0,.loc g.T 4 0 0),(1,.bool deep)]) (fun q=>q.b) (fun q=>q.e≤e∧SS q.b g (snV rows n (n0+m) m w0 (Lp.orb nxf T q.e))∧ ∀x y,bl x=some y→x∉g.all→q.b x=some y) (fun q=>e - q.e) _ ⟨0,bl⟩ ⟨Nat.zero_le _,hS,fun _ _ hx _=>hx⟩ ⟨rfl,by simp,Sub.refl _⟩ ?_
 rintro⟨q,b⟩ ⟨hq,hSb,hfb⟩
 simp only at hq hSb hfb
 obtain⟨U,hU⟩: ∃U,Lp.orb nxf T q=U:=⟨_,rfl⟩
 have hIU:=hI q hq
 rw[hU] at hSb hIU
 have hV:=h.view hIU
 have z4:frz b 4 (.loc g.T 4 0 0)=some (.ptr (snV rows n (n0+m) m w0 U).c):=hSb.frz 0
 have bT:b g.T=_:=hSb.hd
 simp only[snV] at bT
 refine aT ?_
 refine aE ?_
 simp
 refine aN ?_
 refine aC ?_
 simp
 refine aJ (fun s:aHB=> [(0,.loc g.T 4 0 0),(1,.bool deep),(5,.int .i64 s.en),(6,.int .i64 s.j)]) (fun _=>b) (fun s=>s.j≤n∧((s.en= -1∧ ∀k,k<s.j→ ¬ ok U k)∨ ∃k:Nat,s.en=k∧Lp.fstP (ok U) n=some k)) (fun s=>n - s.j) _ ⟨0, -1⟩ ⟨Nat.zero_le _,.inl ⟨rfl,fun k hk=>by simp only at hk;omega⟩⟩ ⟨rfl,by simp,Sub.refl _⟩ ?_
 rintro⟨j,en⟩ ⟨hj,hen⟩
 simp only at hj hen
 have wj:IntKind.i64.wrap ((j:Int)+1)=(j:Int)+1:=i64_in (by omega) (by omega)
 refine aN (aN ?_)
 refine bQ [(0,.loc g.T 4 0 0),(1,.bool deep),(5,.int .i64 en),(6,.int .i64 j)] _ b 17 (.bool (decide (j<n∧en<0))) ⟨rfl,by simp,Sub.refl _⟩ rfl ?_ ?_
 ·simp[bT]
  by_cases h0:j<n
  ·simp[h0]
   try (intro;omega)
  ·simp[h0]
 simp
 refine aC ?_
 simp
 refine⟨fun hjn cL=> ?_,fun hno=> ?_⟩
 ·have cD:en= -1∧ ∀k,k<j→ ¬ ok U k:=by
   rcases hen with g1 | ⟨k,g1,g2⟩
   ·exact g1
   ·omega
  obtain⟨rfl,cD⟩:=cD
  refine aN (aT ?_)
  refine aN ?_
  have hBs:=Y1 (snV rows n (n0+m) m w0 U) j hV.rl
  by_cases hok:ok U j
  ·refine bQ [(0,.loc g.T 4 0 0),(1,.bool deep),(5,.int .i64 (-1)),(6,.int .i64 j)] _ b 30 (.bool true) ⟨rfl,by simp,Sub.refl _⟩ rfl ?_ ?_
   ·have hnb: ¬ basic rows.length (fun p=>U.bs (atR rows p)) j:=fun hb=>h.bas U hIU j hjn hb hok
    obtain⟨s,hs1,hs2⟩:=hsg U hIU j hjn hnb
    rw[show decide (basic (snV rows n (n0+m) m w0 U).r (snV rows n (n0+m) m w0 U).bs j)=false from decide_eq_false hnb] at hBs
    simp
    refine aU 4 (ys:= [.ptr (snV rows n (n0+m) m w0 U).c,.int .i64 j]) (by simp[z4];simp[frz]) hBs rfl ?_
    simp
    refine aU 4 (ys:= [.ptr (snV rows n (n0+m) m w0 U).c,.int .i64 j,.bool deep]) (by simp[z4];simp[frz]) hs2 rfl ?_
    have aHS:0<s:=hs1.2 hok
    simp[aHS]
   simp
   refine aC ?_
   simp
   refine aC ?_
   simp[wj,aB]
   refine⟨⟨j+1,j⟩,⟨by simp only;omega,.inr ⟨j,rfl,Lp.dI.2 ⟨hjn,hok,cD⟩⟩⟩,by simp only;omega,rfl,by simp,Sub.refl _⟩
  ·refine bQ [(0,.loc g.T 4 0 0),(1,.bool deep),(5,.int .i64 (-1)),(6,.int .i64 j)] _ b 30 (.bool false) ⟨rfl,by simp,Sub.refl _⟩ rfl ?_ ?_
   ·simp
    by_cases hb:basic rows.length (fun p=>U.bs (atR rows p)) j
    ·rw[show decide (basic (snV rows n (n0+m) m w0 U).r (snV rows n (n0+m) m w0 U).bs j)=true from decide_eq_true hb] at hBs
     refine aU 4 (ys:= [.ptr (snV rows n (n0+m) m w0 U).c,.int .i64 j]) (by simp[z4];simp[frz]) hBs rfl ?_
     simp
    ·obtain⟨s,hs1,hs2⟩:=hsg U hIU j hjn hb
     rw[show decide (basic (snV rows n (n0+m) m w0 U).r (snV rows n (n0+m) m w0 U).bs j)=false from decide_eq_false hb] at hBs
     refine aU 4 (ys:= [.ptr (snV rows n (n0+m) m w0 U).c,.int .i64 j]) (by simp[z4];simp[frz]) hBs rfl ?_
     simp
     refine aU 4 (ys:= [.ptr (snV rows n (n0+m) m w0 U).c,.int .i64 j,.bool deep]) (by simp[z4];simp[frz]) hs2 rfl ?_
     have: ¬ 0<s:=fun e=>hok (hs1.1 e)
     simp
     omega
   simp
   refine aC ?_
   simp
   refine aC ?_
   simp[wj,aB]
   refine⟨⟨j+1, -1⟩,⟨by simp only;omega,.inl ⟨rfl,fun k hk=> ?_⟩⟩,by simp only;omega,rfl,by simp,Sub.refl _⟩
   by_cases e:k=j
   ·rw[e];exact hok
   ·exact cD k (by simp only at hk;omega)
 ·have hnU:nxf U=match Lp.fstP (ok U) n with | none=>none | some k=>match Lp.leave U (n0+m) k rows with | none=>none | some r=>some (r,k):=by rw[←hnx];rfl
  have hqe:nxf U=none→q=e:=fun hn=>by
   rcases Nat.lt_or_ge q e with g1 | g1
   ·have:=h2 q g1
    rw[hU,hn] at this;cases this
   ·omega
  refine aN ?_
  refine aC ?_
  simp
  rcases hen with ⟨rfl,cD⟩| ⟨k,rfl,hk⟩
  ·have hjn:j=n:=by
    rcases Nat.lt_or_ge j n with g1 | g1
    ·have:=hno g1;omega
    ·omega
   subst hjn
   have hf0:Lp.fstP (ok U) j=none:=Lp.eO.2 cD
   rw[hf0] at hnU
   have hq1:=hqe hnU
   subst hq1
   rw[hU] at hT
   simp
   rw[bH]
   exact⟨[.bool true],by simp,hT b hf0 hSb hfb⟩
  ·obtain⟨hkn,aXU, -⟩:=Lp.dI.1 hk
   rw[hk] at hnU
   simp only at hnU
   have hk1: ¬ (k:Int)<0:=by omega
   simp[hk1]
   have hlv:=N2 hV hkn rows.length (Nat.le_refl _)
   rw[List.take_length] at hlv
   have hLr:=V7 hV k hkn
   refine aE ?_
   simp
   refine aU 4 (ys:= [.ptr (snV rows n (n0+m) m w0 U).c,.int .i64 k]) (by simp[z4];simp[frz]) hLr rfl ?_
   simp
   cases hv:lvQ (snV rows n (n0+m) m w0 U).Z (snV rows n (n0+m) m w0 U).n k (snV rows n (n0+m) m w0 U).bs rows.length with
   | none =>
     have hv':lvQ (snV rows n (n0+m) m w0 U).Z (snV rows n (n0+m) m w0 U).n k (snV rows n (n0+m) m w0 U).bs (snV rows n (n0+m) m w0 U).r=none:=hv
     have hlv:Lp.leave U (n0+m) k rows=none:=hlv.trans (congrArg (Option.map fun p=>atR rows p) hv)
     rw[hlv] at hnU
     have hq1:=hqe hnU
     subst hq1
     rw[hU] at hF
     refine aN ?_
     refine aC ?_
     simp[hv',oI]
     rw[bH]
     exact⟨[.bool false],by simp,hF b k hk hlv hfb⟩
   | some pr =>
     have hv':lvQ (snV rows n (n0+m) m w0 U).Z (snV rows n (n0+m) m w0 U).n k (snV rows n (n0+m) m w0 U).bs (snV rows n (n0+m) m w0 U).r=some pr:=hv
     have hlv:Lp.leave U (n0+m) k rows=some (atR rows pr):=hlv.trans (congrArg (Option.map fun p=>atR rows p) hv)
     rw[hlv] at hnU
     simp only at hnU
     have aC2:=(vI hv).1
     have kM:(snV rows n (n0+m) m w0 U).Z pr k≠0:=fun e0=>by
      have:=(vI hv).2
      rw[e0] at this;exact absurd this (by decide)
     have hX:U.X (atR rows pr) k≠0:=by
      have:=hV.z pr k aC2 hkn
      rw[this] at kM;exact kM
     have aVA:q<e:=by
      rcases Nat.lt_or_ge q e with g1 | g1
      ·exact g1
      ·have:q=e:=by omega
       subst this
       rw[hU,hnU] at h1;cases h1
     have oV:Lp.orb nxf T (q+1)=Lp.piv U (atR rows pr) k:=by
      rw[Lp.orb,hU,hnU]
     have hV2:=h.view (T:=Lp.piv U (atR rows pr) k) (by have:=hI (q+1) aVA;rwa [oV] at this)
     obtain⟨p1,p2,p3⟩:=Gi (n0:=n0) (w0:=w0) h.rr aC2 hkn hX
     have aUQ: ¬ (pr:Int)<0:=by omega
     refine aN ?_
     refine aC ?_
     simp[hv',oI,aUQ]
     refine aC ?_
     simp
     refine wU g (snV rows n (n0+m) m w0 U) pr k hSb aC2 (show k<n+1 by omega) hV.tm kM ⟨fun i c hi hc=> ?_,fun c hc=> ?_,hV.tm.w,hV.tm.r⟩ fun b' hS' hx'=> ?_
     ·show nU (zpv _ pr k i c)
      rw[p1 i c hi];exact hV2.tm.z i c hi hc
     ·show nU (cpv _ _ pr k c)
      rw[p2 c];exact hV2.tm.co c hc
     simp[aB]
     refine⟨⟨q+1,b'⟩,⟨by simp only;omega,?_,fun x y g1 g2=>hx' x y (hfb x y g1 g2) g2⟩,by simp only;omega,rfl,by simp,Sub.refl _⟩
     simp only
     rw[oV]
     exact hS'.congr (fun p c hp _=>p1 p c hp) (fun c _=>p2 c) (fun p hp=>p3 p hp)

theorem Kq (p:Pg) (n m i:Nat) (h:PgN p n m) (hi:i<m):RO Tryz.prog 246 [.agg p.v,.int .i64 i] (.sl (iv (lz n (pA p n i)))):=by
 have hr:=h.row hi
 have hml:=h.ml
 have hnl:=h.nl
 have hal:=h.al
 have hin:i*n≤17*100:=Nat.mul_le_mul (by omega) (by omega)
 have hmn:i*n+n≤m*n:=by
  have:=Nat.mul_le_mul_right n (show i+1≤m by omega)
  rwa [Nat.add_mul,Nat.one_mul] at this
 have e1:(i:Int)*(n:Int)=((i*n:Nat):Int):=(Int.natCast_mul i n).symm
 have e2:((i:Int)+1)*(n:Int)=((i*n+n:Nat):Int):=by rw[Int.add_mul,Int.one_mul,e1];omega
 have w0:IntKind.i64.wrap ((i:Int)+1)=(i:Int)+1:=i64_in (by omega) (by omega)
 have w1:IntKind.i64.wrap ((i:Int)*(n:Int))=(i:Int)*n:=by rw[e1];exact i64_in (by omega) (by omega)
 have w2:IntKind.i64.wrap (((i:Int)+1)*(n:Int))=(i:Int)*n+n:=by rw[e2,i64_in (by omega) (by omega)];simp
 have hc:=h.bD
 have k1:(0:Int)≤(i:Int)*n:=by rw[e1];omega
 have k2:(i:Int)*n≤(i:Int)*n+n:=by omega
 have k3:(i:Int)*n+n≤(p.a.length:Int):=by rw[hal,e1];omega
 have k4:((i:Int)*n).toNat=i*n:=by rw[e1];omega
 have k5:((i:Int)*n+n).toNat=i*n+n:=by rw[e1];omega
 refine aI Tryz.func246 rfl rfl (by rw[Tryz.ntmps246];simp) fun bl=> ?_
 rw[Tryz.ntmps246,Tryz.results246]
 refine aC ?_
 simp[Pg.v]
 intro g hg hbg
 simp[hc,w0,w1,w2,k1,k2,k3,sliV,k4,k5,hr]
 exact⟨fun x hx=>(U6 _ x hx).symm,aK [.sl (iv (lz n (pA p n i)))] 0 (by simp) (by simp[frz,V.cl]) (by simp[hbg])⟩
theorem SS.snoc {b b':Int→Option Blk} {g:SG} {r w n:Nat} {Z:Nat→Nat→Rat} {co:Nat→Rat} {bs:Nat→Nat} (h:SS b g ⟨r,w,n,Z,co,bs⟩) (gN gM gr:Int) (hR:b' gN=some ⟨1,(g.ids++ [gr]).map fun x=> [.lsl x 3 0 w]⟩) (hB:b' gM=some ⟨1,iv (lb (r+1) bs)⟩)
  (hT:b' g.T=some ⟨4,[[.int .i64 n,.lsl gN 1 0 (r+1),.lsl gM 1 0 (r+1),.lsl g.C 3 0 w]]⟩) (hC:b' g.C=b g.C) (hi: ∀x,x∈g.ids→b' x=b x)
  (hr:b' gr=some ⟨3,rqs w (Z r)⟩) (h0:0≤gr) (hN:0≤gN) (hM:0≤gM) (nd:(SG.all ⟨g.T,gN,gM,g.C,g.ids++ [gr]⟩).Nodup):
  SS b' ⟨g.T,gN,gM,g.C,g.ids++ [gr]⟩ ⟨r+1,w,n,Z,co,bs⟩:=by
 have hl:=h.len
 simp only at hl
 refine⟨by simp[hl],hR,fun i x hx=> ?_,fun x hx=> ?_,hT,hB,by simp only;rw[hC];exact h.cst,h.pT,fun e=>by simp only at e;omega,fun e=>by simp only at e;omega,h.pC,nd⟩
 ·simp only at hx ⊢
  by_cases e:i<r
  ·rw[List.getElem?_append_left (by omega)] at hx
   rw[hi x (List.mem_of_getElem? hx)];exact h.row i x hx
  ·rw[List.getElem?_append_right (by omega)] at hx
   have e0:i - g.ids.length=0:=by
    rcases Nat.eq_zero_or_pos (i - g.ids.length) with q | q
    ·exact q
    ·rw[List.getElem?_eq_none (by simp;omega)] at hx;cases hx
   rw[e0] at hx;cases hx
   rw[show i=r by omega];exact hr
 ·rcases List.mem_append.1 hx with hx | hx
  ·exact h.pos x hx
  ·rw[List.mem_singleton.1 hx];exact h0
noncomputable def fH (p : Pg) (n m i : Nat) : Nat → Rat := fun c => if c < n ∨ c = n + m then Lp.S i fun r => eQ p n m r c else 0
theorem aLJ {p:Pg} {n m:Nat} (h:PgN p n m) (i c:Nat): ∃z:Int,eQ p n m i c=(z:Rat)∧z.natAbs≤1000:=⟨_,rfl,Qv h i c⟩
theorem Ai {p:Pg} {n m:Nat} (h:PgN p n m) (c:Nat): ∀i,∃z:Int,fH p n m i c=(z:Rat)∧z.natAbs≤i*1000
 | 0 => ⟨0, by unfold fH; rw [Lp.S]; split <;> rfl, by simp⟩
 | i + 1 => by
   obtain⟨z,h1,h2⟩:=Ai h c i
   obtain⟨y,h3,h4⟩:=aLJ h i c
   by_cases e:c<n∨c=n+m
   ·refine⟨z+y,?_,by omega⟩
    unfold fH at h1 ⊢
    rw[if_pos e] at h1 ⊢
    rw[Lp.S,h1,h3,Rat.intCast_add]
   ·refine⟨0,?_,by simp⟩
    unfold fH;rw[if_neg e];rfl
theorem J1 {p:Pg} {n m i:Nat} (h:PgN p n m) (hi:i≤m) (c:Nat):fits (fH p n m i c):=by
 obtain⟨z,h1,h2⟩:=Ai h c i
 rw[h1]
 have:=h.ml
 have:=Nat.mul_le_mul_right 1000 (show i≤17 by omega)
 exact fits_int (by omega)
theorem Bw {p:Pg} {n m i c:Nat} (e:c<n∨c=n+m):fH p n m (i+1) c=fH p n m i c+eQ p n m i c:=by unfold fH;rw[if_pos e,if_pos e,Lp.S]
theorem Tj {p:Pg} {n m i c:Nat} (e: ¬ (c<n∨c=n+m)):fH p n m (i+1) c=fH p n m i c:=by unfold fH;rw[if_neg e,if_neg e]
theorem To {p:Pg} {n m c:Nat} (h:PgN p n m) (hc:c≤n+m):fH p n m m c=Lp.rc m (Lp.bE n m) (Lp.kH n (eQ p n m)) c:=by
 have hS:(Lp.S m fun i=>(Lp.kH n (eQ p n m)).X i c*Lp.bE n m ((Lp.kH n (eQ p n m)).bs i))= - Lp.S m fun i=>eQ p n m i c:=by
  rw[Lp.bS (g:=fun i=>(-1)*eQ p n m i c) fun i hi=>by
   show eQ p n m i c*Lp.bE n m (n+i)=_
   unfold Lp.bE
   rw[if_pos (by omega)];grind,Lp.jB]
  grind
 unfold Lp.rc
 rw[hS]
 unfold fH
 by_cases e:c<n∨c=n+m
 ·rw[if_pos e,show Lp.bE n m c=0 by unfold Lp.bE;rw[if_neg (by omega)]];grind
 ·rw[if_neg e,show Lp.bE n m c= -1 by unfold Lp.bE;rw[if_pos (by omega)]]
  obtain⟨j,hj⟩: ∃j,c=n+j:=⟨c - n,by omega⟩
  have hjm:j<m:=by omega
  rw[hj,Lp.dO (k:=j) hjm,h.init.art j j hjm hjm,if_pos rfl]
  ·grind
  ·intro i hi hne
   rw[h.init.art i j hi hjm,if_neg hne]
structure Lt where
 j:Nat
 gC:Int
 b:Int→Option Blk
structure Cb where
 k:Nat
 gw:Int
 b:Int→Option Blk
structure Nv where
 i:Nat
 g:SG
 b:Int→Option Blk
structure WOk (b : Int → Option Blk) (f : Nat → Rat) (W : Cb) : Prop where
 blk:W.b W.gw=some ⟨3,rqs W.k f⟩
 new:b W.gw=none
 nn:0≤W.gw
 sub:Sub b W.b
theorem WOk.snoc {b:Int→Option Blk} {f:Nat→Rat} {k:Nat} {gw g4 gN:Int} {bw:Int→Option Blk} (h:WOk b f ⟨k,gw,bw⟩) (h4:bw g4=none) (hN:0≤gN) (hn: ¬ gN=gw→ ¬ gN=g4∧bw gN=none):
  WOk b f ⟨k+1,gN,upd (rem bw gw) gN (some ⟨3,rqs (k+1) f⟩)⟩:=by
 have hbN:b gN=none:=by
  by_cases e:gN=gw
  ·rw[e];exact h.new
  ·cases hv:b gN with
   | none => rfl
   | some y => have := h.sub gN y hv; simp only at this; rw [(hn e).2] at this; cases this
 refine⟨aY _ _ _,hbN,hN,fun x y hx=> ?_⟩
 have x1:x≠gN:=fun e=>by rw[e,hbN] at hx;cases hx
 have x2:x≠gw:=fun e=>by have:=h.new;simp only at this;rw[e,this] at hx;cases hx
 simp only
 rw[aG _ _ _ _ x1,aF,if_neg x2]
 exact h.sub x y hx
theorem E4 {bw:Int→Option Blk} {gw g4 gN:Int} {X Y:Option Blk} (h4:bw g4=none) (h: ¬ gN=gw→ ¬ gN=g4) (hw:g4≠gw):Sub (upd (rem bw gw) gN Y) (upd (rem (upd bw g4 X) gw) gN Y):=fun z y hz=>by
 simp only[aA,aF] at hz ⊢
 grind
theorem W6 {bl:Int→Option Blk} {K:V→(Int→Option Blk)→Prop} (p:Pg) (n m:Nat) (h:PgN p n m)
  (hK: ∀b' g,SS b' g (snV (List.range m) (n+m) (n+m) m (Lp.bE n m) (Lp.kH n (eQ p n m)))→(∀x,x∈g.all→bl x=none)→Sub bl b'→K (.loc g.T 4 0 0) b'):
  bW Tryz.prog 189 [.agg p.v] bl K:=by
 have hml:=h.ml
 have hnl:=h.nl
 obtain⟨N,hN⟩: ∃N,n+m=N:=⟨_,rfl⟩
 have wN:IntKind.i64.wrap ((n:Int)+(m:Int))=(N:Int):=by rw[i64_in (by omega) (by omega)];omega
 have hL5:p.v.length=5:=rfl
 refine bO Tryz.func189 rfl rfl (by rw[Tryz.ntmps189];simp) ?_
 rw[Tryz.ntmps189,Tryz.results189]
 refine aE ?_
 simp[Pg.v]
 intro g1 hg1 hb1
 refine cP 1 1 (.ptr p.v) bl (by intro z b hz;simp only[aA] at hz ⊢;grind) (by simp[frz,dropB,hb1,V.cl,Pg.v]) ?_
 refine aE ?_
 simp[Pg.v,h.rows,h.bD,wN]
 intro gT hgT hbT
 refine cX [(1,.ptr p.v),(3,.loc gT 4 0 0)] 152 (upd bl gT (some ⟨4,[[.int .i64 N,.nils,.nils,.nils]]⟩)) ⟨rfl,by simp[Pg.v,h.rows,h.bD],sub_eq (by simp)⟩ ?_
 refine dC (g:=gT) (s:=4) (els:= [[.int .i64 N,.nils,.nils,.nils]]) 0 1 1 (by simp) rfl rfl fun gR hgR hRT=> ?_
 simp[hRT] at hgR
 refine dC (g:=gT) (s:=4) (els:= [[.int .i64 N,.lsl gR 1 0 0,.nils,.nils]]) 0 2 1 (by simp[Ne.symm hRT]) rfl rfl fun gB hgB hBT=> ?_
 simp[hBT] at hgB
 obtain⟨hBR,hgB⟩:=hgB
 refine dC (g:=gT) (s:=4) (els:= [[.int .i64 N,.lsl gR 1 0 0,.lsl gB 1 0 0,.nils]]) 0 3 3 (by simp[Ne.symm hBT]) rfl rfl fun gC hgC hCT=> ?_
 simp[hCT] at hgC
 obtain⟨hCB,hCR,hgC⟩:=hgC
 obtain⟨b1,hb1⟩: ∃b1,b1=upd (upd (upd (upd (upd (upd (upd bl gT (some ⟨4,[[.int .i64 N,.nils,.nils,.nils]]⟩)) gT (some ⟨4,[[.int .i64 N,.lsl gR 1 0 0,.nils,.nils]]⟩)) gR (some ⟨1,[]⟩)) gT (some ⟨4,[[.int .i64 N,.lsl gR 1 0 0,.lsl gB 1 0 0,.nils]]⟩)) gB (some ⟨1,[]⟩)) gT (some ⟨4,[[.int .i64 N,.lsl gR 1 0 0,.lsl gB 1 0 0,.lsl gC 3 0 0]]⟩)) gC (some ⟨3,[]⟩):=⟨_,rfl⟩
 have b1T:b1 gT=some ⟨4,[[.int .i64 N,.lsl gR 1 0 0,.lsl gB 1 0 0,.lsl gC 3 0 0]]⟩:=by rw[hb1];simp[Ne.symm hCT]
 have b1R:b1 gR=some ⟨1,[]⟩:=by rw[hb1];simp[Ne.symm hCR,hRT,Ne.symm hBR]
 have b1B:b1 gB=some ⟨1,[]⟩:=by rw[hb1];simp[Ne.symm hCB,hBT]
 have b1C:b1 gC=some ⟨3,rqs 0 fun _=>0⟩:=by rw[hb1];simp[rqs]
 have s1:Sub bl b1:=fun x y hx=>by
  have x1:x≠gT:=fun e=>by rw[e,hbT] at hx;cases hx
  have x2:x≠gR:=fun e=>by rw[e,hgR] at hx;cases hx
  have x3:x≠gB:=fun e=>by rw[e,hgB] at hx;cases hx
  have x4:x≠gC:=fun e=>by rw[e,hgC] at hx;cases hx
  rw[hb1];simp[x1,x2,x3,x4,hx]
 refine cX [(1,.ptr p.v),(3,.loc gT 4 0 0)] 152 b1 ⟨rfl,by simp,by rw[hb1];exact sub_eq (by simp)⟩ ?_
 clear hb1
 refine aN ?_
 refine aC ?_
 simp
 refine aJ (fun q:Lt=> [(1,.ptr p.v),(3,.loc gT 4 0 0),(4,.int .i64 q.j)]) (fun q=>q.b) (fun q=>q.j≤N+1∧q.b gT=some ⟨4,[[.int .i64 N,.lsl gR 1 0 0,.lsl gB 1 0 0,.lsl q.gC 3 0 q.j]]⟩∧q.b gR=some ⟨1,[]⟩∧q.b gB=some ⟨1,[]⟩∧q.b q.gC=some ⟨3,rqs q.j fun _=>0⟩∧(q.gC≠gT∧q.gC≠gR∧q.gC≠gB∧bl q.gC=none∧(0≤q.gC∨q.j=0))∧Sub bl q.b) (fun q=>N+1 - q.j) _ ⟨0,gC,b1⟩ ⟨Nat.zero_le _,b1T,b1R,b1B,b1C,⟨hCT,hCR,hCB,hgC,.inr rfl⟩,s1⟩ ⟨rfl,by simp,Sub.refl _⟩ ?_
 clear s1 b1T b1R b1B b1C hgC hCB hCR hCT
 rintro⟨j,gC,b⟩ ⟨hj,bT,bR,bB,bC,⟨cT,cR,cB,cbl,Yn⟩,hsb⟩
 simp only at hj bT bR bB bC cT cR cB cbl Yn hsb
 have wj:IntKind.i64.wrap ((j:Int)+1)=(j:Int)+1:=i64_in (by omega) (by omega)
 refine aN ?_
 refine aC ?_
 simp[bT]
 refine⟨fun hjn=> ?_,fun hjn=> ?_⟩
 ·refine aN (aT ?_)
  have hR0:=dU 0 (by decide)
  refine dD aM (rem b gC) (cW b gC) [0,1,2,3,4,5] 5 10 (by kernel_rfl) ?_
  simp[Ne.symm cT,bT]
  refine aO hR0 ?_
  simp
  refine Dq 6 false ?_
  simp[RT.c]
  intro g4 hg4 hb4
  have n4T:g4≠gT:=fun e=>by rw[e,bT] at hb4;cases hb4
  have n4R:g4≠gR:=fun e=>by rw[e,bR] at hb4;cases hb4
  have n4B:g4≠gB:=fun e=>by rw[e,bB] at hb4;cases hb4
  have n4C:g4≠gC:=fun e=>by rw[e,bC] at hb4;cases hb4
  have rI: ∀X,Sub (rem b gC) (upd b g4 X):=fun X z y hz=>by
   rw[aF] at hz
   rw[aA]
   grind
  refine⟨rI _,Dq 7 false ?_⟩
  have tkC:(rqs j fun _=>(0:Rat)).take j=rqs j fun _=>0:=List.take_of_length_le (by simp)
  simp[n4C,Ne.symm n4C,appV,elsV,Int.not_lt.2 hg4,bC,tkC]
  have hsn:(rqs j fun _=>(0:Rat))++ [[V.bool (rq 0).neg,.sl (iv (rq 0).m),.sl (iv (rq 0).d)]]=rqs (j+1) fun _=>0:=by rw[kF];rfl
  rw[hsn]
  refine⟨by omega,fun gN hgN hbN=> ?_⟩
  have nN:gN≠gT∧gN≠gR∧gN≠gB∧gN≠g4:=by
   by_cases e:gN=gC
   ·subst e
    exact⟨cT,cR,cB,Ne.symm n4C⟩
   ·obtain⟨q1,q2⟩:=hbN e
    exact⟨fun e=>(by rw[e,bT] at q2;cases q2),fun e=>(by rw[e,bR] at q2;cases q2),fun e=>(by rw[e,bB] at q2;cases q2),q1⟩
  obtain⟨nNT,nNR,nNB,nN4⟩:=nN
  have blN:bl gN=none:=by
   by_cases e:gN=gC
   ·rw[e];exact cbl
   ·cases hv:bl gN with
    | none => rfl
    | some y => have := hsb gN y hv; rw [(hbN e).2] at this; cases this
  have gY: ∀X Y,Sub (rem b gC) (upd (rem (upd b g4 X) gC) gN Y):=fun X Y z y hz=>by
   rw[aF] at hz
   rw[aA,aF,aA]
   grind
  have kJ: ∀X Y Z,Sub (upd (upd (rem b gC) gN Y) gT Z) (upd (upd (rem (upd b g4 X) gC) gN Y) gT Z):=fun X Y Z z y hz=>by
   simp only[aA,aF] at hz ⊢
   grind
  refine⟨gY _ _,Dq 8 false ?_⟩
  simp
  refine⟨gY _ _,Dq 9 false ?_⟩
  simp
  refine⟨gY _ _,Dq 10 true ?_⟩
  simp[Ne.symm nNT,Ne.symm cT,n4T,Ne.symm n4T,bT]
  refine Dd ?_
  simp
  refine aC ?_
  simp[wj,aB]
  obtain⟨b2,hb2⟩: ∃b2,b2=upd (upd (rem b gC) gN (some ⟨3,rqs (j+1) fun _=>0⟩)) gT (some ⟨4,[[.int .i64 N,.lsl gR 1 0 0,.lsl gB 1 0 0,.lsl gN 3 0 (j+1)]]⟩):=⟨_,rfl⟩
  refine⟨⟨j+1,gN,b2⟩,⟨by simp only;omega,by rw[hb2];simp,by rw[hb2];simp[hRT,Ne.symm nNR,Ne.symm cR,bR],by rw[hb2];simp[hBT,Ne.symm nNB,Ne.symm cB,bB],by rw[hb2];simp[nNT],⟨nNT,nNR,nNB,blN,.inl hgN⟩,fun x y hx=> ?_⟩,by simp only;omega,rfl,by simp,by rw[hb2];exact kJ _ _ _⟩
  have x1:x≠gT:=fun e=>by rw[e,hbT] at hx;cases hx
  have x2:x≠gN:=fun e=>by rw[e,blN] at hx;cases hx
  have x3:x≠gC:=fun e=>by rw[e,cbl] at hx;cases hx
  simp only
  rw[hb2];simp[x1,x2,x3];exact hsb x y hx
 have hje:j=N+1:=by omega
 subst hje
 have cnn:0≤gC:=by rcases Yn with g | g;exact g;omega
 refine aN ?_
 refine aC ?_
 simp
 have nTR:=Ne.symm hRT
 have hS0:SS b ⟨gT,gR,gB,gC,[]⟩ ⟨0,N+1,N,eQ p n m,fH p n m 0,fun q=>n+q⟩:=by
  refine⟨rfl,bR,fun i x hx=>(by cases hx),fun x hx=>(by cases hx),bT,bB,?_,hgT,fun _=>rfl,fun _=>rfl,cnn,?_⟩
  ·simp only
   rw[bC,bU (g:=fH p n m 0) fun c _=>by unfold fH;rw[Lp.S];split<;>rfl]
  ·simp[SG.all];grind
 have aMN: ∀x,x∈SG.all ⟨gT,gR,gB,gC,[]⟩→bl x=none:=by simp[SG.all,hbT,hgR,hgB,cbl]
 refine aJ (fun q:Nv=> [(1,.ptr p.v),(3,.loc gT 4 0 0),(5,.int .i64 q.i)]) (fun q=>q.b) (fun q=>q.i≤m∧SS q.b q.g ⟨q.i,N+1,N,eQ p n m,fH p n m q.i,fun q=>n+q⟩∧q.g.T=gT∧(∀x,x∈q.g.all→bl x=none)∧Sub bl q.b) (fun q=>m - q.i) _ ⟨0,⟨gT,gR,gB,gC,[]⟩,b⟩ ⟨Nat.zero_le _,hS0,rfl,aMN,hsb⟩ ⟨rfl,by simp,Sub.refl _⟩ ?_
 clear hS0 aMN hsb Yn cbl cB cR cT bC bB bR bT wj hj cnn nTR
 rintro⟨i,⟨gT',gR',gB',gC',ids⟩,b'⟩ ⟨hi,hS,e1,hal,hsb⟩
 simp only at hi hS e1 hsb
 subst e1
 have hal: ∀x,x∈SG.all ⟨gT',gR',gB',gC',ids⟩→bl x=none:=hal
 have wi:IntKind.i64.wrap ((i:Int)+1)=(i:Int)+1:=i64_in (by omega) (by omega)
 refine aN ?_
 refine aC ?_
 simp[Pg.v,h.rows]
 refine⟨fun him=> ?_,fun him=> ?_⟩
 ·refine aN (aT ?_)
  refine aE ?_
  simp
  refine fZ (fun _:Unit=> [(1,.ptr p.v),(3,.loc gT' 4 0 0),(5,.int .i64 i),(6,.int .i64 (sgB p i))]) (fun _=>b') (fun _=>True) 152 ?_ ?_
  ·refine aC ?_
   simp[Pg.v,h.b,him]
   refine⟨fun cL=> ?_,fun cL=> ?_⟩
   ·simp[aH]
    exact⟨rfl,by simp[Pg.v,h.b,h.rows,sgB,cL],Sub.refl _⟩
   ·simp[aH]
    exact⟨rfl,by simp[Pg.v,h.b,h.rows,sgB,cL],Sub.refl _⟩
  rintro⟨⟩ -
  obtain⟨sg,hsg⟩: ∃x,sgB p i=x:=⟨_,rfl⟩
  have sg1:sg.natAbs=1:=by rw[←hsg];unfold sgB;split<;>rfl
  rw[hsg]
  have hpA: ∀c,(sg*pA p n i c).natAbs≤1000:=fun c=>by rw[Int.natAbs_mul,sg1,Nat.one_mul];exact iM h.am _
  have hpB:(sg*pB p i).natAbs≤1000:=by rw[Int.natAbs_mul,sg1,Nat.one_mul];exact iM h.bm _
  refine aE ?_
  simp
  intro g7 hg7 hb7
  have hW0:WOk b' (eQ p n m i) ⟨0,g7,upd b' g7 (some ⟨3,[]⟩)⟩:=⟨by simp[rqs],hb7,hg7,fun x y hx=>by simp only;rw[aG _ _ _ _ (fun e=>by rw[e,hb7] at hx;cases hx)];exact hx⟩
  have heq: ∀c,eQ p n m i c=((eZ p n m i c:Int):Rat):=fun _=>rfl
  refine fZ (fun W:Cb=> [(1,.ptr p.v),(3,.loc gT' 4 0 0),(5,.int .i64 i),(6,.int .i64 sg),(7,.lsl W.gw 3 0 n)]) (fun W=>W.b) (fun W=>W.k=n∧WOk b' (eQ p n m i) W) 152 ?_ ?_
  ·refine aC ?_
   simp[Pg.v]
   refine aD (Kq p n m i h him) ?_
   simp
   refine aJ (fun W:Cb=> [(1,.ptr p.v),(3,.loc gT' 4 0 0),(5,.int .i64 i),(6,.int .i64 sg),(7,.lsl W.gw 3 0 W.k),(53,.sl (iv (lz n (pA p n i)))),(54,.int .i64 n),(55,.int .i64 W.k)]) (fun W=>W.b) (fun W=>W.k≤n∧WOk b' (eQ p n m i) W) (fun W=>n - W.k) _ ⟨0,g7,upd b' g7 (some ⟨3,[]⟩)⟩ ⟨Nat.zero_le _,hW0⟩ ⟨rfl,by simp[Pg.v],Sub.refl _⟩ ?_
   rintro⟨k,gw,bw⟩ ⟨hk,hW⟩
   simp only at hk
   have wk:IntKind.i64.wrap ((k:Int)+1)=(k:Int)+1:=i64_in (by omega) (by omega)
   have wa: ∀c,IntKind.i64.wrap (sg*pA p n i c)=sg*pA p n i c:=fun c=>i64_in (by have:=hpA c;omega) (by have:=hpA c;omega)
   have hbw:=hW.blk
   simp only at hbw
   refine aC ?_
   simp
   refine⟨fun hkn=> ?_,fun hkn=> ?_⟩
   ·have hez:eZ p n m i k=sg*pA p n i k:=by unfold eZ;rw[if_pos hkn,hsg]
    have hR0:=dU (sg*pA p n i k) (by have:=hpA k;omega)
    rw[←hez,←heq] at hR0
    simp[hkn,wa]
    rw[←hez]
    refine aD hR0 ?_
    simp[RT.c]
    intro g4 hg4 hb4
    have n4w:g4≠gw:=fun e=>by rw[e,hbw] at hb4;cases hb4
    have tkw:(rqs k (eQ p n m i)).take k=rqs k (eQ p n m i):=List.take_of_length_le (by simp)
    simp[n4w,Ne.symm n4w,appV,elsV,Int.not_lt.2 hg4,hbw,tkw]
    have hsn:rqs k (eQ p n m i)++ [[V.bool (rq (eQ p n m i k)).neg,.sl (iv (rq (eQ p n m i k)).m),.sl (iv (rq (eQ p n m i k)).d)]]=rqs (k+1) (eQ p n m i):=by rw[kF];rfl
    rw[hsn]
    refine⟨by omega,fun gN hgN hbN=> ?_⟩
    simp[wk,aB]
    refine⟨⟨k+1,gN,upd (rem bw gw) gN (some ⟨3,rqs (k+1) (eQ p n m i)⟩)⟩,⟨by simp only;omega,hW.snoc hb4 hgN hbN⟩,by simp only;omega,rfl,by simp[Pg.v],E4 hb4 (fun e=>(hbN e).1) n4w⟩
   ·have hke:k=n:=by omega
    subst hke
    simp[aH]
    exact⟨⟨k,gw,bw⟩,⟨rfl,hW⟩,rfl,by simp[Pg.v],Sub.refl _⟩
  rintro⟨k,gw,bw⟩ ⟨hk,hW⟩
  simp only at hk
  have hk:=hk.symm
  subst hk
  clear hW0
  have hfr: ∀ {w1:Nat} {gw1:Int} {bw1:Int→Option Blk},WOk b' (eQ p n m i) ⟨w1,gw1,bw1⟩→bw1 gw1=some ⟨3,rqs w1 (eQ p n m i)⟩:=fun h=>h.blk
  refine fZ (fun W:Cb=> [(1,.ptr p.v),(3,.loc gT' 4 0 0),(5,.int .i64 i),(6,.int .i64 sg),(7,.lsl W.gw 3 0 N)]) (fun W=>W.b) (fun W=>W.k=N∧WOk b' (eQ p n m i) W) 152 ?_ ?_
  ·refine aC ?_
   simp
   refine aJ (fun W:Cb=> [(1,.ptr p.v),(3,.loc gT' 4 0 0),(5,.int .i64 i),(6,.int .i64 sg),(7,.lsl W.gw 3 0 (n+W.k)),(10,.int .i64 W.k)]) (fun W=>W.b) (fun W=>W.k≤m∧WOk b' (eQ p n m i) ⟨n+W.k,W.gw,W.b⟩) (fun W=>m - W.k) _ ⟨0,gw,bw⟩ ⟨Nat.zero_le _,hW⟩ ⟨rfl,by simp[Pg.v],Sub.refl _⟩ ?_
   clear hW
   rintro⟨k,gw,bw⟩ ⟨hk,hW⟩
   simp only at hk hW
   have wk:IntKind.i64.wrap ((k:Int)+1)=(k:Int)+1:=i64_in (by omega) (by omega)
   have hbw:=hfr hW
   refine aN ?_
   refine aC ?_
   simp[Pg.v,h.rows]
   refine⟨fun hkm=> ?_,fun hkm=> ?_⟩
   ·refine aN (aT ?_)
    refine aE ?_
    simp
    have hez:eZ p n m i (n+k)=if k=i then 1 else 0:=by
     unfold eZ
     rw[if_neg (by omega),if_neg (by omega)]
     by_cases e:k=i
     ·rw[if_pos e,if_pos (by omega)]
     ·rw[if_neg e,if_neg (by omega)]
    have hR0:=dU (eZ p n m i (n+k)) (by rw[hez];split<;>decide)
    rw[←heq] at hR0
    refine fZ (fun _:Unit=> [(1,.ptr p.v),(3,.loc gT' 4 0 0),(5,.int .i64 i),(6,.int .i64 sg),(7,.lsl gw 3 0 (n+k)),(10,.int .i64 k),(11,.int .i64 (eZ p n m i (n+k)))]) (fun _=>bw) (fun _=>True) 152 ?_ ?_
    ·refine aC ?_
     simp
     refine⟨fun e=> ?_,fun e=> ?_⟩
     ·have ez1:eZ p n m i (n+k)=1:=by rw[hez,if_pos (show k=i by omega)]
      simp[aH]
      exact⟨rfl,by simp[Pg.v,h.rows,ez1],Sub.refl _⟩
     ·have ez1:eZ p n m i (n+k)=0:=by rw[hez,if_neg (show ¬ k=i by omega)]
      simp[aH]
      exact⟨rfl,by simp[Pg.v,h.rows,ez1],Sub.refl _⟩
    rintro⟨⟩ -
    obtain⟨w1,hw1⟩: ∃w1,n+k=w1:=⟨_,rfl⟩
    rw[hw1] at hR0 hbw hW
    rw[hw1]
    have hw2:n+(k+1)=w1+1:=by omega
    refine aC ?_
    simp
    refine aD hR0 ?_
    simp[RT.c]
    intro g4 hg4 hb4
    have n4w:g4≠gw:=fun e=>by rw[e,hbw] at hb4;cases hb4
    have tkw:(rqs w1 (eQ p n m i)).take w1=rqs w1 (eQ p n m i):=List.take_of_length_le (by simp)
    simp[n4w,Ne.symm n4w,appV,elsV,Int.not_lt.2 hg4,hbw,tkw]
    have hsn:rqs w1 (eQ p n m i)++ [[V.bool (rq (eQ p n m i w1)).neg,.sl (iv (rq (eQ p n m i w1)).m),.sl (iv (rq (eQ p n m i w1)).d)]]=rqs (w1+1) (eQ p n m i):=by rw[kF];rfl
    rw[hsn]
    refine⟨by omega,fun gN hgN hbN=> ?_⟩
    refine aC ?_
    simp[wk,aB]
    refine⟨⟨k+1,gN,upd (rem bw gw) gN (some ⟨3,rqs (w1+1) (eQ p n m i)⟩)⟩,⟨by simp only;omega,by simp only;rw[hw2];exact hW.snoc hb4 hgN hbN⟩,by simp only;omega,rfl,by simp[Pg.v,h.rows,hw2],E4 hb4 (fun e=>(hbN e).1) n4w⟩
   ·have hke:m=k:=by omega
    rw[hke] at hN
    simp[aH]
    exact⟨⟨N,gw,bw⟩,⟨rfl,by rw[←hN];exact hW⟩,rfl,by simp[Pg.v,h.rows,hN],Sub.refl _⟩
  clear hW
  rintro⟨k,gw,bw⟩ ⟨hk,hW⟩
  simp only at hk
  have hk:=hk.symm
  subst hk
  have wB:IntKind.i64.wrap (sg*pB p i)=sg*pB p i:=i64_in (by omega) (by omega)
  have hez:eZ p n m i N=sg*pB p i:=by unfold eZ;rw[if_neg (by omega),if_pos hN.symm,hsg]
  have hR0:=dU (sg*pB p i) (by omega)
  rw[←hez,←heq] at hR0
  have hbw:=hfr hW
  refine aE ?_
  simp[Pg.v,h.b,him,wB]
  rw[←hez]
  refine aD hR0 ?_
  simp[RT.c]
  intro g4 hg4 hb4
  have n4w:g4≠gw:=fun e=>by rw[e,hbw] at hb4;cases hb4
  have tkw:(rqs N (eQ p n m i)).take N=rqs N (eQ p n m i):=List.take_of_length_le (by simp)
  simp[n4w,Ne.symm n4w,appV,elsV,Int.not_lt.2 hg4,hbw,tkw]
  have hsn:rqs N (eQ p n m i)++ [[V.bool (rq (eQ p n m i N)).neg,.sl (iv (rq (eQ p n m i N)).m),.sl (iv (rq (eQ p n m i N)).d)]]=rqs (N+1) (eQ p n m i):=by rw[kF];rfl
  rw[hsn]
  refine⟨by omega,fun gN hgN hbN=> ?_⟩
  obtain⟨N1,hN1⟩: ∃N1,N+1=N1:=⟨_,rfl⟩
  have hW2:=hW.snoc hb4 hgN hbN
  rw[hN1] at hW2
  obtain⟨bx,hbx⟩: ∃bx,bx=upd (rem bw gw) gN (some ⟨3,rqs N1 (eQ p n m i)⟩):=⟨_,rfl⟩
  rw[←hbx] at hW2
  refine cX [(1,.ptr p.v),(3,.loc gT' 4 0 0),(5,.int .i64 i),(7,.lsl gN 3 0 N1)] 152 bx ⟨rfl,by simp[Pg.v,h.b,hN1],by rw[hbx,hN1];exact E4 hb4 (fun e=>(hbN e).1) n4w⟩ ?_
  clear hbx hW hbN hgN hsn tkw n4w hb4 hg4 hbw
  clear g4
  have hSx:SS bx ⟨gT',gR',gB',gC',ids⟩ ⟨i,N+1,N,eQ p n m,fH p n m i,fun q=>n+q⟩:=hS.bI fun x y _ hx=>hW2.sub x y hx
  have xw:bx gN=some ⟨3,rqs N1 (eQ p n m i)⟩:=hW2.blk
  have xT:bx gT'=_:=hSx.hd
  have xR:bx gR'=_:=hSx.top
  have xB:bx gB'=_:=hSx.ba
  have xC:bx gC'=_:=hSx.cst
  simp only[hN1] at xT xR xB xC
  have nd:=hS.nd
  simp only[SG.all,List.nodup_cons,List.mem_cons,not_or] at nd
  obtain⟨⟨nTR,nTB,nTC,nTi⟩,⟨nRB,nRC,nRi⟩,⟨nBC,nBi⟩,nCi,nds⟩:=nd
  have hin: ∀x,x∈SG.all ⟨gT',gR',gB',gC',ids⟩→ ∃y,b' x=some y:=fun x hx=>by
   simp only[SG.all,List.mem_cons] at hx
   rcases hx with rfl | rfl | rfl | rfl | hx
   ·exact⟨_,hS.hd⟩
   ·exact⟨_,hS.top⟩
   ·exact⟨_,hS.ba⟩
   ·exact⟨_,hS.cst⟩
   ·obtain⟨q,hq⟩:=List.mem_iff_getElem?.1 hx
    exact⟨_,hS.row q x hq⟩
  have A4:gN∉SG.all ⟨gT',gR',gB',gC',ids⟩:=fun hm2=>by
   obtain⟨y,hy⟩:=hin gN hm2
   have:=hW2.new
   simp only at this
   rw[this] at hy;cases hy
  simp only[SG.all,List.mem_cons,not_or] at A4
  obtain⟨wT,wR,wB',wC,wI⟩:=A4
  refine fZ (fun _:Unit=> [(1,.ptr p.v),(3,.loc gT' 4 0 0),(5,.int .i64 i),(7,.lsl gN 3 0 N1)]) (fun _=>upd bx gC' (some ⟨3,rqs N1 (fH p n m (i+1))⟩)) (fun _=>True) 152 ?_ ?_
  ·refine aC ?_
   simp
   refine aJ (fun j:Nat=> [(1,.ptr p.v),(3,.loc gT' 4 0 0),(5,.int .i64 i),(7,.lsl gN 3 0 N1),(93,.int .i64 N1),(94,.int .i64 j)]) (fun j=>upd bx gC' (some ⟨3,rqs N1 fun c=>if c<j then fH p n m (i+1) c else fH p n m i c⟩)) (fun j=>j≤N1) (fun j=>N1 - j) _ 0 (Nat.zero_le _) ⟨rfl,by simp[Pg.v],sub_eq (by funext x;simp only[aA];split;rename_i e;rw[e,xC];simp;rfl)⟩ ?_
   intro j hj
   have wj:IntKind.i64.wrap ((j:Int)+1)=(j:Int)+1:=i64_in (by omega) (by omega)
   refine aE ?_
   simp
   refine aE ?_
   simp
   refine⟨fun hj1=> ?_,fun hj1=> ?_⟩
   ·have Zi:(j:Int)<N1:=by omega
    refine aN (aT ?_)
    refine aE ?_
    simp
    refine aN ?_
    refine bQ [(1,.ptr p.v),(3,.loc gT' 4 0 0),(5,.int .i64 i),(7,.lsl gN 3 0 N1),(93,.int .i64 N1),(94,.int .i64 j),(12,.int .i64 j)] _ (upd bx gC' (some ⟨3,rqs N1 fun c=>if c<j then fH p n m (i+1) c else fH p n m i c⟩)) 108 (.bool (decide (j<n∨j=N))) ⟨rfl,by simp[Pg.v],Sub.refl _⟩ rfl ?_ ?_
    ·simp[Pg.v,h.bD,nTC,xT]
     by_cases e:j<n
     ·simp[e]
      intro h9;omega
     ·simp[e]
      intro _
      by_cases e2:j=N
      ·simp[e2]
      ·have e3: ¬ (j:Int)=N:=by omega
       simp[e2,e3]
    simp
    have aXI: ∀c,(if c<j then fH p n m (i+1) c else fH p n m i c)=if c<j then fH p n m (i+1) c else fH p n m i c:=fun _=>rfl
    refine aC ?_
    simp
    refine⟨fun aWY=> ?_,fun hno hno2=> ?_⟩
    ·have Wh:j<n∨j=n+m:=by omega
     have lA:=J8 (some (fH p n m i j)) (some (eQ p n m i j)) (okS (J1 h hi j)) (okS (fits_int (by have:=Qv h i j;omega)))
     rw[Q6 (by rw[←Bw Wh];exact J1 h (by omega) j),←Bw Wh] at lA
     have rD:(rqs N1 fun c=>if c<j then fH p n m (i+1) c else fH p n m i c).set j (ro (some (fH p n m (i+1) j))).c=rqs N1 fun c=>if c<j+1 then fH p n m (i+1) c else fH p n m i c:=by
      rw[yH _ _ hj1]
      exact bU fun c _=>by
       by_cases e:c=j
       ·subst e;rw[if_pos rfl,if_pos (by omega)]
       ·rw[if_neg e]
        by_cases e2:c<j
        ·rw[if_pos e2,if_pos (by omega)]
        ·rw[if_neg e2,if_neg (by omega)]
     have l3: ∀q:Rat,(rq q).c.length=3:=fun _=>rfl
     have t3: ∀q:Rat,(rq q).c.take 3=(rq q).c:=fun _=>rfl
     refine fT aM [0,1,2,3,4,5,6,7,8,9,10,11,12,13,14,15,16,17] 1 18 (by kernel_rfl) ?_
     simp[nTC,wC,xT,xw,hj1,Zi,l3,t3]
     refine aO lA ?_
     simp[hj1,Zi]
     refine fU (i:=18) (by kernel_rfl) rfl rfl rfl ?_
     generalize hy:fH p n m (i+1) j=y at rD
     simp[hj1,Zi,RT.c]
     refine Dy ?_
     simp
     refine aC ?_
     simp[wj,aB]
     refine⟨j+1,by omega,by omega,rfl,by simp[Pg.v],?_⟩
     rw[←rD]
     intro z b hz
     simp only[aA,RT.c,nK] at hz ⊢
     grind
    ·have aR2: ¬ (j<n∨j=n+m):=by omega
     refine aC ?_
     simp[wj,aB]
     refine⟨j+1,by omega,by omega,rfl,by simp[Pg.v],sub_eq ?_⟩
     rw[bU (f:=fun c=>if c<j+1 then fH p n m (i+1) c else fH p n m i c) (g:=fun c=>if c<j then fH p n m (i+1) c else fH p n m i c) fun c _=>by
      by_cases e:c=j
      ·subst e;rw[if_pos (by omega),if_neg (by omega)];exact Tj aR2
      ·by_cases e2:c<j
       ·rw[if_pos e2,if_pos (by omega)]
       ·rw[if_neg e2,if_neg (by omega)]]
   ·have hje:j=N1:=by omega
    subst hje
    simp[aH]
    refine⟨rfl,by simp[Pg.v],sub_eq ?_⟩
    rw[bU fun c hc=>by rw[if_pos hc]]
  rintro⟨⟩ -
  obtain⟨by',hby⟩: ∃by',by'=upd bx gC' (some ⟨3,rqs N1 (fH p n m (i+1))⟩):=⟨_,rfl⟩
  rw[←hby]
  have hSy:SS by' ⟨gT',gR',gB',gC',ids⟩ ⟨i,N+1,N,eQ p n m,fH p n m (i+1),fun q=>n+q⟩:=by
   have:=hSx.Zp (fH p n m (i+1))
   simp only[hN1] at this
   rw[hby,hN1];exact this
  have yT:by' gT'=_:=hSy.hd
  have yR:by' gR'=_:=hSy.top
  have yB:by' gB'=_:=hSy.ba
  have yC:by' gC'=_:=hSy.cst
  have yw:by' gN=some ⟨3,rqs N1 (eQ p n m i)⟩:=by rw[hby,aG _ _ _ _ wC];exact xw
  have yx: ∀x,x≠gC'→by' x=bx x:=fun x hx=>by rw[hby,aG _ _ _ _ hx]
  simp only[hN1] at yT yR yB yC
  have hil:=hS.len
  simp only at hil
  clear hby
  have Kf: ∀x,by' x=none→x≠gT'∧x≠gR'∧x≠gB'∧x≠gC'∧x≠gN∧x∉ids:=fun x hx=>by
   refine⟨fun e=> ?_,fun e=> ?_,fun e=> ?_,fun e=> ?_,fun e=> ?_,fun e=> ?_⟩
   ·rw[e,yT] at hx;cases hx
   ·rw[e,yR] at hx;cases hx
   ·rw[e,yB] at hx;cases hx
   ·rw[e,yC] at hx;cases hx
   ·rw[e,yw] at hx;cases hx
   ·obtain⟨q,hq⟩:=List.mem_iff_getElem?.1 e
    rw[hSy.row q x hq] at hx;cases hx
  refine aE ?_
  simp[yT,yR,appV,elsV,hil]
  intro g4 hg4 hb4
  obtain⟨n4T,n4R,n4B,n4C,n4w,n4i⟩:=Kf g4 hb4
  have tk:(ids.map fun x=> [V.lsl x 3 0 N1]).take i=ids.map fun x=> [V.lsl x 3 0 N1]:=List.take_of_length_le (by simp[hil])
  simp[Ne.symm n4T,Ne.symm n4R,n4T,n4R,Int.not_lt.2 hg4,yR,hil,tk]
  refine⟨by omega,fun gQ hgQ hbQ=> ?_⟩
  have nQ:gQ≠gT'∧gQ≠gB'∧gQ≠gC'∧gQ≠gN∧gQ∉ids∧gQ≠g4:=by
   by_cases e:gQ=gR'
   ·subst e
    exact⟨Ne.symm nTR,nRB,nRC,Ne.symm wR,nRi,Ne.symm n4R⟩
   ·obtain⟨q1,q2⟩:=hbQ e
    obtain⟨w1,w2,w3,w4,w5,w6⟩:=Kf gQ q2
    exact⟨w1,w3,w4,w5,w6,q1⟩
  obtain⟨nQT,nQB,nQC,nQw,nQi,nQ4⟩:=nQ
  simp[Ne.symm nQT,nQT,Ne.symm n4T,nTR,yT]
  obtain⟨b3,hb3⟩: ∃b3,b3=upd (upd (rem by' gR') gQ (some ⟨1,(ids++ [gN]).map fun x=> [.lsl x 3 0 N1]⟩)) gT' (some ⟨4,[[.int .i64 N,.lsl gQ 1 0 (i+1),.lsl gB' 1 0 i,.lsl gC' 3 0 N1]]⟩):=⟨_,rfl⟩
  refine cX [(1,.ptr p.v),(3,.loc gT' 4 0 0),(5,.int .i64 i)] 152 b3 ⟨rfl,by simp[Pg.v],?_⟩ ?_
  ·rw[hb3]
   intro z y hz
   simp only[aA,aF] at hz ⊢
   grind
  have b3N:b3 gQ=some ⟨1,(ids++ [gN]).map fun x=> [.lsl x 3 0 N1]⟩:=by rw[hb3];simp[nQT]
  have b3T:b3 gT'=some ⟨4,[[.int .i64 N,.lsl gQ 1 0 (i+1),.lsl gB' 1 0 i,.lsl gC' 3 0 N1]]⟩:=by rw[hb3];simp
  have b3x: ∀x,x≠gT'→x≠gQ→x≠gR'→b3 x=by' x:=fun x x1 x2 x3=>by rw[hb3,aG _ _ _ _ x1,aG _ _ _ _ x2,aF,if_neg x3]
  have b3B:=b3x gB' (Ne.symm nTB) (Ne.symm nQB) (Ne.symm nRB)
  rw[yB] at b3B
  clear hb3
  have wni:IntKind.i64.wrap ((n:Int)+(i:Int))=((n+i:Nat):Int):=by rw[i64_in (by omega) (by omega)];simp
  obtain⟨ni,hni⟩: ∃x,n+i=x:=⟨_,rfl⟩
  rw[hni] at wni
  refine dD aM (rem b3 gB') (cW b3 gB') [0,1,2,3,4,5,6,7,8] 5 13 (by kernel_rfl) ?_
  simp[nTB,b3T,Pg.v,h.bD,wni]
  refine Dq 9 false ?_
  simp
  intro g5 hg5 hb5
  have n5:g5≠gT'∧g5≠gQ∧g5≠gB':=⟨fun e=>(by rw[e,b3T] at hb5;cases hb5),fun e=>(by rw[e,b3N] at hb5;cases hb5),fun e=>(by rw[e,b3B] at hb5;cases hb5)⟩
  obtain⟨n5T,n5Q,n5B⟩:=n5
  have Au: ∀X,Sub (rem b3 gB') (upd b3 g5 X):=fun X z y hz=>by
   rw[aF] at hz
   rw[aA]
   grind
  refine⟨Au _,Dq 10 false ?_⟩
  have tkB:(iv (lb i fun q=>n+q)).take i=iv (lb i fun q=>n+q):=List.take_of_length_le (by simp)
  simp[n5B,Ne.symm n5B,appV,elsV,Int.not_lt.2 hg5,b3B,tkB]
  have hlb:iv (lb i fun q=>n+q)++ [[.int .i64 ni]]=iv (lb (i+1) fun q=>n+q):=by rw[P5,aV,hni];rfl
  rw[hlb]
  refine⟨by omega,fun gM hgM hbM=> ?_⟩
  have nM:gM≠gT'∧gM≠gQ∧gM≠gC'∧gM≠gN∧gM∉ids∧gM≠g5:=by
   by_cases e:gM=gB'
   ·subst e
    exact⟨Ne.symm nTB,Ne.symm nQB,nBC,Ne.symm wB',nBi,Ne.symm n5B⟩
   ·obtain⟨q1,q2⟩:=hbM e
    have q3:gM≠gT':=fun e2=>by rw[e2,b3T] at q2;cases q2
    have q4:gM≠gQ:=fun e2=>by rw[e2,b3N] at q2;cases q2
    by_cases e3:gM=gR'
    ·subst e3
     exact⟨q3,q4,nRC,Ne.symm wR,nRi,q1⟩
    ·rw[b3x gM q3 q4 e3] at q2
     obtain⟨w1,w2,w3,w4,w5,w6⟩:=Kf gM q2
     exact⟨q3,q4,w4,w5,w6,q1⟩
  obtain⟨nMT,nMQ,nMC,nMw,nMi,nM5⟩:=nM
  have lG: ∀X Y,Sub (rem b3 gB') (upd (rem (upd b3 g5 X) gB') gM Y):=fun X Y z y hz=>by
   rw[aF] at hz
   rw[aA,aF,aA]
   grind
  have kJ: ∀X Y Z,Sub (upd (upd (rem b3 gB') gM Y) gT' Z) (upd (upd (rem (upd b3 g5 X) gB') gM Y) gT' Z):=fun X Y Z z y hz=>by
   simp only[aA,aF] at hz ⊢
   grind
  refine⟨lG _ _,Dq 11 false ?_⟩
  simp
  refine⟨lG _ _,Dq 12 false ?_⟩
  simp
  refine⟨lG _ _,Dq 13 true ?_⟩
  simp[Ne.symm nMT,nTB,n5T,Ne.symm n5T,b3T]
  refine Dd ?_
  simp
  refine aC ?_
  simp[wi,aB]
  obtain⟨b4,iG⟩: ∃b4,b4=upd (upd (rem b3 gB') gM (some ⟨1,iv (lb (i+1) fun q=>n+q)⟩)) gT' (some ⟨4,[[.int .i64 N,.lsl gQ 1 0 (i+1),.lsl gM 1 0 (i+1),.lsl gC' 3 0 N1]]⟩):=⟨_,rfl⟩
  have b4T:b4 gT'=some ⟨4,[[.int .i64 N,.lsl gQ 1 0 (i+1),.lsl gM 1 0 (i+1),.lsl gC' 3 0 N1]]⟩:=by rw[iG];simp
  have b4M:b4 gM=some ⟨1,iv (lb (i+1) fun q=>n+q)⟩:=by rw[iG];simp[nMT]
  have b4x: ∀x,x≠gT'→x≠gM→x≠gB'→b4 x=b3 x:=fun x x1 x2 x3=>by rw[iG,aG _ _ _ _ x1,aG _ _ _ _ x2,aF,if_neg x3]
  have b4o: ∀x,x≠gT'→x≠gM→x≠gB'→x≠gQ→x≠gR'→b4 x=by' x:=fun x x1 x2 x3 x4 x5=>by rw[b4x x x1 x2 x3,b3x x x1 x4 x5]
  have fr: ∀x,by' x=none→bl x=none:=fun x hx=>by
   cases hv:bl x with
   | none => rfl
   | some y =>
     have h5:=hsb x y hv
     have h6:=hW2.sub x y h5
     simp only at h6
     by_cases e:x=gC'
     ·rw[e,yC] at hx;cases hx
     ·rw[yx x e,h6] at hx;cases hx
  have blT:bl gT'=none:=hal gT' (by simp[SG.all])
  have blR:bl gR'=none:=hal gR' (by simp[SG.all])
  have blB:bl gB'=none:=hal gB' (by simp[SG.all])
  have blC:bl gC'=none:=hal gC' (by simp[SG.all])
  have blw:bl gN=none:=by
   cases hv:bl gN with
   | none => rfl
   | some y => have := hsb gN y hv; have h6 := hW2.new; simp only at h6; rw [h6] at this; cases this
  have blQ:bl gQ=none:=by
   by_cases e:gQ=gR'
   ·rw[e];exact blR
   ·exact fr gQ (hbQ e).2
  have blM:bl gM=none:=by
   by_cases e:gM=gB'
   ·rw[e];exact blB
   ·by_cases e3:gM=gR'
    ·rw[e3];exact blR
    ·have:=(hbM e).2
     rw[b3x gM nMT nMQ e3] at this;exact fr gM this
  have Oh:=hSy.snoc (b':=b4) gQ gM gN (by simp only;rw[hN1,b4x gQ nQT (Ne.symm nMQ) nQB,b3N]) (by exact b4M) (by simp only;rw[hN1,b4T])
   (by simp only;exact b4o gC' (Ne.symm nTC) (Ne.symm nMC) (Ne.symm nBC) (Ne.symm nQC) (Ne.symm nRC))
   (fun x hx=>by simp only at hx;exact b4o x (fun e=>nTi (e▸hx)) (fun e=>nMi (e▸hx)) (fun e=>nBi (e▸hx)) (fun e=>nQi (e▸hx)) (fun e=>nRi (e▸hx)))
   (by rw[hN1,b4o gN wT (Ne.symm nMw) wB' (Ne.symm nQw) wR,yw]) hW2.nn hgQ hgM (by
     simp only[SG.all,List.nodup_cons,List.mem_cons,not_or,List.mem_append,List.mem_singleton,List.nodup_append,List.not_mem_nil,or_false]
     refine⟨⟨Ne.symm nQT,Ne.symm nMT,nTC,nTi,Ne.symm wT⟩,⟨Ne.symm nMQ,nQC,nQi,nQw⟩,⟨nMC,nMi,nMw⟩,⟨nCi,Ne.symm wC⟩,nds,by simp,fun a ha c hc=> ?_⟩
     rw[hc];exact fun e=>wI (e▸ha))
  refine⟨⟨i+1,⟨gT',gQ,gM,gC',ids++ [gN]⟩,b4⟩,⟨by simp only;omega,Oh,rfl,fun x hx=> ?_,fun x y hx=> ?_⟩,by simp only;omega,rfl,by simp[Pg.v,h.bD,h.rows,h.b],by rw[iG];exact kJ _ _ _⟩
  ·simp only[SG.all,List.mem_cons,List.mem_append,List.not_mem_nil,or_false] at hx
   rcases hx with rfl | rfl | rfl | rfl | hx | rfl
   ·exact blT
   ·exact blQ
   ·exact blM
   ·exact blC
   ·exact hal x (by simp[SG.all,hx])
   ·exact blw
  ·have nx: ∀z,bl z=none→x≠z:=fun z hz e=>by rw[e,hz] at hx;cases hx
   simp only
   rw[b4o x (nx _ blT) (nx _ blM) (nx _ blB) (nx _ blQ) (nx _ blR),yx x (nx _ blC)]
   exact hW2.sub x y (hsb x y hx)
 ·have hie:m=i:=by omega
  refine aC ?_
  simp
  rw[bH]
  refine⟨[.loc gT' 4 0 0],by simp,hK b' ⟨gT',gR',gB',gC',ids⟩ ?_ hal hsb⟩
  unfold snV
  rw[←hie,←hN] at hS
  rw[show(List.range m).length=m by simp]
  refine hS.congr (fun q c hq hc=> ?_) (fun c hc=> ?_) fun q hq=> ?_
  ·rw[dM hq]
   show eQ p n m q c=eQ p n m q _
   by_cases e:c<n+m
   ·rw[if_pos e]
   ·rw[if_neg e,show c=n+m by omega]
  ·rw[To h (by omega)]
   by_cases e:c<n+m
   ·rw[if_pos e]
   ·rw[if_neg e,show c=n+m by omega]
  ·rw[dM hq];rfl
end Go.Proofs.YticmgmemnpcbbaaGreat.Vm
