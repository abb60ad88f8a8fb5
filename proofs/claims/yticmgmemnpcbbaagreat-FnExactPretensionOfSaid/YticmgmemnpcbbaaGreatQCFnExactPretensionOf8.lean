import Derived.Test.YticmgmemnpcbbaaGreatQCFnExactPretensionOf7

namespace Go.Proofs.YticmgmemnpcbbaaGreat.Vm
open Go Go.RowKit Go.Proofs
set_option linter.unusedSimpArgs false
set_option linter.unusedVariables false
def lvZ (Z:Nat→Nat→Int) (n k:Nat) (bs:Nat→Nat):Nat→Option Nat
 | 0 => none
 | i + 1 => if Z i k ≤ 0 then lvZ Z n k bs i else match lvZ Z n k bs i with
   | none=>some i
   | some j=>if Z i n*Z j k<Z j n*Z i k∨Z i n*Z j k=Z j n*Z i k∧bs i<bs j then some i else some j
theorem E7 {Z:Nat→Nat→Int} {n k:Nat} {bs:Nat→Nat} : ∀ {i j:Nat},lvZ Z n k bs i=some j→j<i
 | 0, _, h => by cases h
 | i + 1, j, h => by
   rw[lvZ] at h
   split at h
   ·have:=E7 h;omega
   ·cases hb:lvZ Z n k bs i with
    | none => rw [hb] at h; cases h; omega
    | some j' =>
      rw[hb] at h
      simp only at h
      split at h
      ·cases h;omega
      ·cases h;have:=E7 hb;omega
def oI :Option Nat→Int
 | none => -1
 | some j => j
theorem Fy (r n:Nat) (Z:Nat→Nat→Int) (d:Int) (bs:Nat→Nat) (fr:Nat→Bool) (k:Nat) (h:ZB r n Z d) (hk:k<n):
  RO Tryz.prog 257 [.ptr (mU r n Z d bs fr),.int .i64 k] (.int .i64 (oI (lvZ Z n k bs r))):=by
 have hr:=h.rl
 have hn:=h.nl
 have hl: ∀i c,i<r→c≤n→(lim (Z i c).natAbs).length≤400000:=fun i c hi hc=>Nat.le_trans (eN (kH (h.z i c hi hc))) (by omega)
 have hT: ∀i c j c',i<r→c≤n→j<r→c'≤n→RO Tryz.prog 231 [.agg (biC (Z i c)),.agg (biC (Z j c'))] (.agg (biC (Z i c*Z j c'))):=fun i c j c' h1 h2 h3 h4=>lW _ _ (hl i c h1 h2) (hl j c' h3 h4)
 have hP: ∀i c j c',i<r→c≤n→j<r→c'≤n→(lim (Z i c*Z j c').natAbs).length≤1048576:=fun i c j c' h1 h2 h3 h4=>Nat.le_trans (eN (kD (h.z i c h1 h2) (h.z j c' h3 h4))) (by omega)
 refine aJ Tryz.func257 rfl rfl (by rw[Tryz.ntmps257];simp) fun bl=> ?_
 rw[Tryz.ntmps257,Tryz.results257]
 refine aE ?_
 simp
 refine aE ?_
 simp
 refine aE ?_
 simp[mU]
 refine aI (fun i:Nat=> [(0,.ptr (mU r n Z d bs fr)),(1,.int .i64 k),(5,.int .i64 (oI (lvZ Z n k bs i))),(12,.sl (zzv r (n+1) Z)),(13,.int .i64 r),(14,.int .i64 i)]) (fun i=>bl) (fun i=>i≤r) (fun i=>r - i) _ 0 (Nat.zero_le _) ⟨rfl,by simp[mU,lvZ,oI],Sub.refl _⟩ ?_
 intro i hi
 have wi:IntKind.i64.wrap ((i:Int)+1)=(i:Int)+1:=i64_in (by omega) (by omega)
 refine aE ?_
 simp
 refine aE ?_
 simp
 refine⟨fun hlt=> ?_,fun hlt=> ?_⟩
 ·refine aO (aT ?_)
  refine aE ?_
  simp[hlt]
  refine aE ?_
  simp[show k<n+1 by omega]
  refine aD (mV _) ?_
  simp
  refine⟨fun hle=> ?_,fun hgt=> ?_⟩
  ·refine aC ?_
   simp[wi,aB]
   have e:lvZ Z n k bs (i+1)=lvZ Z n k bs i:=by rw[lvZ,if_pos hle]
   exact⟨i+1,by omega,by omega,rfl,by simp[e],Sub.refl _⟩
  ·have hng: ¬ Z i k≤0:=by omega
   cases hb:lvZ Z n k bs i with
   | none =>
     have e:lvZ Z n k bs (i+1)=some i:=by rw[lvZ,if_neg hng,hb]
     refine aC ?_
     simp[oI]
     refine aC ?_
     simp[wi,aB]
     exact⟨i+1,by omega,by omega,rfl,by simp[e,oI],Sub.refl _⟩
   | some j =>
     have hj:=E7 hb
     have e:lvZ Z n k bs (i+1)=if Z i n*Z j k<Z j n*Z i k∨Z i n*Z j k=Z j n*Z i k∧bs i<bs j then some i else some j:=by rw[lvZ,if_neg hng,hb]
     have cO: ¬ (j:Int)<0:=by omega
     have hC:=Cd (Z i n*Z j k) (Z j n*Z i k) (hP i n j k hlt (by omega) (by omega) (by omega)) (hP j n i k (by omega) (by omega) hlt (by omega))
     refine aE ?_
     simp[oI,cO]
     refine aE ?_
     simp
     refine cI aL (by kernel_rfl) ?_
     simp[mU,hlt,show j<r by omega,show k<n+1 by omega]
     refine aN (hT i n j k hlt (by omega) (by omega) (by omega)) ?_
     simp[mU,hlt,show j<r by omega,show k<n+1 by omega]
     refine aN (hT j n i k (by omega) (by omega) hlt (by omega)) ?_
     simp
     refine aN hC ?_
     simp
     refine aE ?_
     simp
     generalize Z i n*Z j k=A at *
     generalize Z j n*Z i k=B at *
     have hjr:j<r:=by omega
     refine vH aL (by kernel_rfl) [(0,.ptr (mU r n Z d bs fr)),(1,.int .i64 k),(5,.int .i64 j),(6,.int .i64 i),(8,.int .i64 (jA A B)),(12,.sl (zzv r (n+1) Z)),(13,.int .i64 r),(14,.int .i64 i)] _ bl 87 (.bool (decide (A<B∨A=B∧bs i<bs j))) ⟨rfl,by simp[mU],Sub.refl _⟩ rfl ?_ ?_
     ·rcases Int.lt_trichotomy A B with g | g | g
      ·have ec:jA A B= -1:=by unfold jA;rw[if_pos g]
       simp[ec,g]
      ·have ec:jA A B=0:=by unfold jA;rw[if_neg (by omega),if_pos g]
       have g2: ¬ A<B:=by omega
       subst g
       simp[ec,mU,hlt,hjr]
      ·have ec:jA A B=1:=by unfold jA;rw[if_neg (by omega),if_neg (by omega)]
       have g2: ¬ A<B:=by omega
       have g3: ¬ A=B:=by omega
       simp[ec,g2,g3]
     refine aC ?_
     simp
     refine⟨fun hc=> ?_,fun hc hc2=> ?_⟩
     ·rw[if_pos hc] at e
      refine aC ?_
      simp[wi,aB]
      exact⟨i+1,by omega,by omega,rfl,by simp[e,oI,mU],Sub.refl _⟩
     ·rw[if_neg (fun h=>h.elim (fun g=>by omega) (fun g=>by have:=hc2 g.1;omega))] at e
      refine aC ?_
      simp[wi,aB]
      exact⟨i+1,by omega,by omega,rfl,by simp[e,oI,mU],Sub.refl _⟩
 ·have hir:i=r:=by omega
  subst hir
  refine aC ?_
  simp
  exact aK [.int .i64 (oI (lvZ Z n k bs i))] 0 (by simp) (by simp[frz]) (Sub.refl _)
end Go.Proofs.YticmgmemnpcbbaaGreat.Vm

namespace Go.Proofs.YticmgmemnpcbbaaGreat.Vm
open Go Go.Proofs
set_option linter.unusedSimpArgs false
set_option linter.unusedVariables false
structure aZE where
 ids:List Int
 d:Option Rat
 b:Int→Option Blk
structure aW3 where
 j:Nat
 b:Int→Option Blk

theorem J0 {α β:Type} {f:α→Option β} : ∀(xs:List α) (ys:List β),xs.length=ys.length→(∀(i:Nat) x y,xs[i]? =some x→ys[i]? =some y→f x=some y)→xs.mapM f=some ys
 | [], [], _, _ => rfl
 | [], _ :: _, h, _ => by simp at h
 | _ :: _, [], h, _ => by simp at h
 | x :: xs, y :: ys, h, hf => by
   have h1:=hf 0 x y rfl rfl
   have h2:=J0 xs ys (by simpa using h) (fun i a b ha hb=>hf (i+1) a b (by simpa using ha) (by simpa using hb))
   simp[List.mapM_cons,h1,h2]
end Go.Proofs.YticmgmemnpcbbaaGreat.Vm

namespace Go.Proofs.YticmgmemnpcbbaaGreat.Vm
open Go Go.RowKit Go.Proofs
set_option linter.unusedSimpArgs false
set_option linter.unusedVariables false
theorem uL {n:Nat} {f g:Nat→Int} (h: ∀c,c<n→f c=g c):zv n f=zv n g:=List.map_congr_left fun c hc=>by rw[h c (by simpa using hc)]
structure ZG (b : Int → Option Blk) (gR : Int) (ids : List Int) (r n : Nat) (Z : Nat → Nat → Int) : Prop where
 len:ids.length=r
 top:b gR=some ⟨1,ids.map fun g=> [.lsl g 2 0 n]⟩
 row: ∀(i:Nat) (g:Int),ids[i]? =some g→b g=some ⟨2,zv n (Z i)⟩
 pos: ∀g,g∈ids→0≤g
 inj: ∀(i j:Nat) (g:Int),ids[i]? =some g→ids[j]? =some g→i=j
 no0:gR∉ids
theorem ZG.congr {b:Int→Option Blk} {gR:Int} {ids:List Int} {r n:Nat} {Z Z':Nat→Nat→Int} (h:ZG b gR ids r n Z) (hZ: ∀i c,i<r→c<n→Z i c=Z' i c):ZG b gR ids r n Z':=
 ⟨h.len,h.top,fun i g hi=>by
   rw[h.row i g hi,uL fun c hc=>hZ i c (by rw[←h.len];exact(List.getElem?_eq_some_iff.1 hi).1) hc],h.pos,h.inj,h.no0⟩
theorem ZG.put {b:Int→Option Blk} {gR g:Int} {ids:List Int} {r n i:Nat} {Z Z':Nat→Nat→Int} (h:ZG b gR ids r n Z) (hi:ids[i]? =some g) (hZ: ∀a c,a≠i→c<n→Z a c=Z' a c):ZG (upd b g (some ⟨2,zv n (Z' i)⟩)) gR ids r n Z':=by
 have hm:=List.mem_of_getElem? hi
 refine⟨h.len,?_,fun k g' hk=> ?_,h.pos,h.inj,h.no0⟩
 ·rw[aG _ _ _ _ (fun e=>h.no0 (by rw[e];exact hm))];exact h.top
 ·by_cases e:k=i
  ·subst e
   rw[hi] at hk;cases hk
   rw[aV]
  ·have hne:g'≠g:=fun e2=>e (h.inj k i g (by rw[hk,e2]) hi)
   rw[aG _ _ _ _ hne,h.row k g' hk,uL fun c hc=>hZ k c e hc]
theorem ZG.cZ {b b':Int→Option Blk} {gR:Int} {ids:List Int} {r n:Nat} {Z:Nat→Nat→Int} (h:ZG b gR ids r n Z) (hk: ∀x y,x=gR∨x∈ids→b x=some y→b' x=some y):ZG b' gR ids r n Z:=
 ⟨h.len,hk _ _ (.inl rfl) h.top,fun i g hi=>hk _ _ (.inr (List.mem_of_getElem? hi)) (h.row i g hi),h.pos,h.inj,h.no0⟩
theorem ZG.at {b:Int→Option Blk} {gR:Int} {ids:List Int} {r n:Nat} {Z:Nat→Nat→Int} (h:ZG b gR ids r n Z) (i:Nat) (hi:i<r): ∃g,ids[i]? =some g∧g∈ids∧0≤g∧b g=some ⟨2,zv n (Z i)⟩:=by
 have hl:=h.len
 have e:ids[i]? =some (ids[i]'(by omega)):=List.getElem?_eq_getElem _
 exact⟨_,e,List.mem_of_getElem? e,h.pos _ (List.mem_of_getElem? e),h.row i _ e⟩
structure TG where
 T:Int
 R:Int
 B:Int
 F:Int
 ids:List Int
structure TN where
 r:Nat
 n:Nat
 Z:Nat→Nat→Int
 d:Int
 bs:Nat→Nat
 fr:Nat→Bool
def TN.c (t:TN):List V:=mU t.r t.n t.Z t.d t.bs t.fr
structure TT (b : Int → Option Blk) (g : TG) (t : TN) : Prop where
 fM:ZG b g.R g.ids t.r (t.n+1) t.Z
 hd:b g.T=some ⟨6,[[.lsl g.R 1 0 t.r,.bool (decide (t.d<0)),.sl (iv (lim t.d.natAbs)),.lsl g.B 1 0 t.r,.int .i64 t.n,.lsl g.F 1 0 t.n]]⟩
 ba:b g.B=some ⟨1,iv (lb t.r t.bs)⟩
 fre:b g.F=some ⟨1,lv t.n t.fr⟩
 pT:0≤g.T
 pR:g.R<0→t.r=0
 pB:g.B<0→t.r=0
 pF:0≤g.F
 nd:(g.T::g.R::g.B::g.F::g.ids).Nodup
def TG.all (g:TG):List Int:=g.T::g.R::g.B::g.F::g.ids
theorem TT.cZ {b b':Int→Option Blk} {g:TG} {t:TN} (h:TT b g t) (hk: ∀x y,x∈g.all→b x=some y→b' x=some y):TT b' g t:=
 ⟨h.fM.cZ fun x y hx hy=>hk x y (by unfold TG.all;rcases hx with rfl | hx<;>simp[*]) hy,hk _ _ (by simp[TG.all]) h.hd,hk _ _ (by simp[TG.all]) h.ba,hk _ _ (by simp[TG.all]) h.fre,h.pT,h.pR,h.pB,h.pF,h.nd⟩
theorem TT.aJF {b:Int→Option Blk} {g:TG} {t:TN} (h:TT b g t) (m:Nat):frz b (m+1) (.lsl g.B 1 0 t.r)=some (.sl (iv (lb t.r t.bs))):=by
 rcases Int.lt_or_le g.B 0 with cO | hB
 ·have hr:=h.pB cO
  rw[hr]
  have e:lb 0 t.bs= []:=rfl
  rw[e]
  simp[Vm.frz,cO,iv]
 have h1:=jY (n:=m) hB h.ba
 rw[jE (qF _)] at h1
 rw[show(iv (lb t.r t.bs)).length=t.r by simp] at h1
 rw[h1];rfl
theorem TT.frz {b:Int→Option Blk} {g:TG} {t:TN} (h:TT b g t) (m:Nat):frz b (m+4) (.loc g.T 6 0 0)=some (.ptr t.c):=by
 have hi: ∀m (k:Int),Vm.frz b m (.int .i64 k)=some (.int .i64 k):=fun m k=>by cases m<;>simp[Vm.frz]
 have hb: ∀m (k:Bool),Vm.frz b m (.bool k)=some (.bool k):=fun m k=>by cases m<;>simp[Vm.frz]
 have hs: ∀m (l:List Int),Vm.frz b (m+1) (.sl (iv l))=some (.sl (iv l)):=fun m l=>by simp[Vm.frz,V.cl]
 have h1:Vm.frz b (m+3) (.lsl g.R 1 0 t.r)=some (.sl (zzv t.r (t.n+1) t.Z)):=by
  rcases Int.lt_or_le g.R 0 with cO | hR
  ·have hr:=h.pR cO
   rw[hr]
   have e:zzv 0 (t.n+1) t.Z= []:=rfl
   rw[e]
   simp[Vm.frz,cO]
  have h1:=jY (n:=m+2) hR h.fM.top
  rw[List.length_map,h.fM.len] at h1
  rw[h1]
  have h2:(g.ids.map fun g=> [V.lsl g 2 0 (t.n+1)]).mapM (fun e:List V=>e.mapM (Vm.frz b (m+2)))=some (zzv t.r (t.n+1) t.Z):=by
   refine J0 _ _ (by simp[h.fM.len]) fun i x y hx hy=> ?_
   rw[List.getElem?_map] at hx
   cases hi:g.ids[i]? with
   | none => rw [hi] at hx; cases hx
   | some gi =>
     rw[hi] at hx;cases hx
     have hlt:i<t.r:=by rw[←h.fM.len];exact(List.getElem?_eq_some_iff.1 hi).1
     rw[List.getElem?_eq_getElem (by simpa using hlt),Qu] at hy
     cases hy
     have h3:=jY (bl:=b) (n:=m+1) (sz:=2) (els:=zv (t.n+1) (t.Z i)) (h.fM.pos gi (List.mem_of_getElem? hi)) (h.fM.row i gi hi)
     rw[jE (aOI _ _)] at h3
     simp only[List.mapM_cons,List.mapM_nil]
     rw[show(zv (t.n+1) (t.Z i)).length=t.n+1 by simp] at h3
     rw[h3];rfl
  rw[h2];rfl
 have h2:Vm.frz b (m+3) (.lsl g.B 1 0 t.r)=some (.sl (iv (lb t.r t.bs))):=by
  rcases Int.lt_or_le g.B 0 with cO | hB
  ·have hr:=h.pB cO
   rw[hr]
   have e:lb 0 t.bs= []:=rfl
   rw[e]
   simp[Vm.frz,cO,iv]
  have h1:=jY (n:=m+2) hB h.ba
  rw[jE (qF _)] at h1
  rw[show(iv (lb t.r t.bs)).length=t.r by simp] at h1
  rw[h1];rfl
 have h3:Vm.frz b (m+3) (.lsl g.F 1 0 t.n)=some (.sl (lv t.n t.fr)):=by
  have h1:=jY (n:=m+2) h.pF h.fre
  rw[jE (aN9 _ _)] at h1
  rw[show(lv t.n t.fr).length=t.n by simp] at h1
  rw[h1];rfl
 rw[rG h.hd]
 simp only[List.mapM_cons,List.mapM_nil,h1,h2,h3,hi,hb,hs]
 rfl

@[simp] theorem aFM (a x y e f g : V) (p : Int) : splice [a, x, y, e, f, g] 1 (biC p) = [a, .bool (decide (p < 0)), .sl (iv (lim p.natAbs)), e, f, g] := by simp [splice, biC]
def cz (Z Y:Nat→Nat→Int) (i j:Nat):Nat→Nat→Int:=fun a c=>if a<i∨a=i∧c<j then Y a c else Z a c
theorem Rs (Z Y:Nat→Nat→Int) (i j c:Nat) (h:j≤c):cz Z Y i j i c=Z i c:=by unfold cz;rw[if_neg (by omega)]
theorem Ys (Z Y:Nat→Nat→Int) (i j a c:Nat) (h:Y a c=Z a c):cz Z Y i j a c=Z a c:=by unfold cz;split<;>simp[h]
theorem Qw (Z Y:Nat→Nat→Int) (i n a c:Nat) (hc:c<n):cz Z Y i n a c=cz Z Y (i+1) 0 a c:=by
 unfold cz
 by_cases h:a<i∨a=i∧c<n
 ·rw[if_pos h,if_pos (by omega)]
 ·rw[if_neg h,if_neg (by omega)]
theorem Yt (Z Y:Nat→Nat→Int) (i a c:Nat) (h:Y i c=Z i c):cz Z Y i 0 a c=cz Z Y (i+1) 0 a c:=by
 unfold cz
 by_cases h1:a<i
 ·rw[if_pos (.inl h1),if_pos (by omega)]
 ·rw[if_neg (by omega)]
  by_cases h2:a=i
  ·subst h2;rw[if_pos (by omega),h]
  ·rw[if_neg (by omega)]
theorem Sc (Z Y:Nat→Nat→Int) (r a c:Nat) (h:a<r):cz Z Y r 0 a c=Y a c:=by unfold cz;rw[if_pos (.inl h)]
theorem Ie (Z Y:Nat→Nat→Int):cz Z Y 0 0=Z:=by funext a c;unfold cz;rw[if_neg (by omega)]
theorem Ti {n j:Nat} (Z Y:Nat→Nat→Int) (i:Nat) (hj:j<n):(zv n (cz Z Y i j i)).set j (biC (Y i j))=zv n (cz Z Y i (j+1) i):=by
 apply List.ext_getElem
 ·simp
 ·intro t h1 h2
  simp only[List.getElem_set,Y5]
  by_cases h:j=t
  ·subst h
   rw[if_pos rfl];unfold cz;rw[if_pos (by omega)]
  ·rw[if_neg h]
   congr 1
   unfold cz
   by_cases h3:t<j
   ·rw[if_pos (by omega),if_pos (by omega)]
   ·rw[if_neg (by omega),if_neg (by omega)]
structure aJH (r n rp k : Nat) (Z : Nat → Nat → Int) (d : Int) (Y : Nat → Nat → Int) : Prop where
 other: ∀i c,i<r→c≤n→i≠rp→Y i c*d=Z i c*Z rp k - Z i k*Z rp c
 same: ∀c,c≤n→Y rp c=Z rp c
 ne:Z rp k≠0
theorem Oo {a b c e:Int} (ha:a.natAbs≤iL) (hb:b.natAbs≤iL) (hc:c.natAbs≤iL) (he:e.natAbs≤iL):(lim (a*b - c*e).natAbs).length≤48:=by
 have h1:(a*b).natAbs≤E6:=kD ha hb
 have h2:(c*e).natAbs≤E6:=kD hc he
 have h3:=Int.natAbs_sub_le (a*b) (c*e)
 have h4:=Je
 refine aM.2 ?_
 have h5:LB^24+LB^24<LB^48:=by decide+kernel
 omega
structure Dj where
 j:Nat
 b:Int→Option Blk
def pvF (p:Int) (Y:Nat→Nat→Int):Nat→Nat→Int:=if 0<p then Y else fun a c=> - Y a c
def pvB (bs:Nat→Nat) (rp k:Nat):Nat→Nat:=fun i=>if i=rp then k else bs i
theorem Qh {r rp k:Nat} (bs:Nat→Nat) (h:rp<r):(iv (lb r bs)).set rp [.int .i64 k]=iv (lb r (pvB bs rp k)):=by
 apply List.ext_getElem
 ·simp
 ·intro t h1 h2
  simp only[List.getElem_set,pV,zW,pvB]
  by_cases e:rp=t
  ·subst e;simp
  ·rw[if_neg e,if_neg (Ne.symm e)]
theorem As {bl:Int→Option Blk} {K:V→(Int→Option Blk)→Prop} (g:TG) (t:TN) (rp k:Nat) (Y:Nat→Nat→Int) (h:TT bl g t) (hz:ZB t.r t.n t.Z t.d) (hr:rp<t.r) (hk:k<t.n) (hY:aJH t.r t.n rp k t.Z t.d Y)
  (hK: ∀b',TT b' g ⟨t.r,t.n,pvF (t.Z rp k) Y,((t.Z rp k).natAbs:Int),pvB t.bs rp k,t.fr⟩→(∀x y,bl x=some y→x∉g.all→b' x=some y)→K (.tup []) b'):
  cH Tryz.prog 258 [.loc g.T 6 0 0,.int .i64 rp,.int .i64 k] bl K:=by
 obtain⟨r,n,Z,d,bs,fr⟩:=t
 obtain⟨gT,gR,gB,gF,ids⟩:=g
 simp only at hz hr hk hY hK ⊢
 obtain⟨hG,hhd,hba,Yn,pT,pR,pB,pF,hnd⟩:=h
 simp only at hG hhd hba Yn pT pR pB pF hnd
 have hrl:=hz.rl
 have hnl:=hz.nl
 have hd0:=hz.d0
 have aJ6:=hnd
 simp only[List.nodup_cons,List.mem_cons,not_or] at hnd
 obtain⟨⟨nTR,nTB,nTF,nTi⟩,⟨nRB,nRF,nRi⟩,⟨nBF,nBi⟩,nFi,nds⟩:=hnd
 obtain⟨gp,hgp,aTT,aVR,aNV⟩:=hG.at rp hr
 have vS:=hG.top
 have hil:=hG.len
 have hk1:k<n+1:=by omega
 have hk2:(k:Int)<(n:Int)+1:=by omega
 have ntT: ∀x,x∈ids→ ¬ x=gT:=fun x hx e=>nTi (e▸hx)
 have ntR: ∀x,x∈ids→ ¬ x=gR:=fun x hx e=>nRi (e▸hx)
 have ntB: ∀x,x∈ids→ ¬ x=gB:=fun x hx e=>nBi (e▸hx)
 have ntF: ∀x,x∈ids→ ¬ x=gF:=fun x hx e=>nFi (e▸hx)
 refine cP Tryz.func258 rfl rfl (by rw[Tryz.ntmps258];simp) ?_
 rw[Tryz.ntmps258,Tryz.results258]
 refine aE ?_
 simp[hhd,vS,hgp,hr]
 refine aE ?_
 simp[aNV,hk1,hk2]
 intro g7 hg7 hb7
 have m7:g7∉ids:=fun hm=>by
  obtain⟨j,hj⟩:=List.mem_iff_getElem?.1 hm
  rw[hG.row j g7 hj] at hb7;cases hb7
 have n7T: ¬ g7=gT:=fun e=>by rw[e,hhd] at hb7;cases hb7
 have n7R: ¬ g7=gR:=fun e=>by rw[e,vS] at hb7;cases hb7
 have n7B: ¬ g7=gB:=fun e=>by rw[e,hba] at hb7;cases hb7
 have n7F: ¬ g7=gF:=fun e=>by rw[e,Yn] at hb7;cases hb7
 obtain⟨p,hp⟩: ∃p,Z rp k=p:=⟨_,rfl⟩
 simp only[hp] at hK ⊢
 have hG7:ZG (upd bl g7 (some ⟨2,[biC p]⟩)) gR ids r (n+1) Z:=hG.cZ fun x y hx hy=>by
  rw[aG _ _ _ _ (by rintro rfl;rcases hx with hx | hx;exact n7R hx;exact m7 hx)];exact hy
 have e7:upd bl g7 (some ⟨2,[biC p]⟩) g7=some ⟨2,[biC p]⟩:=by simp
 have eT:upd bl g7 (some ⟨2,[biC p]⟩) gT=bl gT:=by simp[Ne.symm n7T]
 have eB:upd bl g7 (some ⟨2,[biC p]⟩) gB=bl gB:=by simp[Ne.symm n7B]
 have eF:upd bl g7 (some ⟨2,[biC p]⟩) gF=bl gF:=by simp[Ne.symm n7F]
 have aUY:Sub bl (upd bl g7 (some ⟨2,[biC p]⟩)):=by simp[hb7]
 generalize upd bl g7 (some ⟨2,[biC p]⟩)=b0 at *
 rw[hhd] at eT
 rw[hba] at eB
 rw[Yn] at eF
 clear hG aNV hhd vS hba Yn
 have aXN:=hG7.top
 refine dJ [(0,.loc gT 6 0 0),(1,.int .i64 rp),(2,.int .i64 k),(6,.lsl gp 2 0 (n+1)),(7,.loc g7 2 0 0)] 128 b0 ⟨rfl,by simp,Sub.refl _⟩ ?_
 refine aE ?_
 simp[eT]
 refine aI (fun q:Dj=> [(0,.loc gT 6 0 0),(1,.int .i64 rp),(2,.int .i64 k),(6,.lsl gp 2 0 (n+1)),(7,.loc g7 2 0 0),(30,.lsl gR 1 0 r),(31,.int .i64 r),(32,.int .i64 q.j)]) (fun q=>q.b) (fun q=>q.j≤r∧ZG q.b gR ids r (n+1) (cz Z Y q.j 0)∧(∀x y,b0 x=some y→x∉ids→q.b x=some y)) (fun q=>r - q.j) _ ⟨0,b0⟩ ⟨Nat.zero_le _,by simp only;rw[Ie];exact hG7,fun _ _ h _=>h⟩ ⟨rfl,by simp,Sub.refl _⟩ ?_
 rintro⟨i,b⟩ ⟨hi,hGb,hfb⟩
 simp only at hi hGb hfb
 have wi:IntKind.i64.wrap ((i:Int)+1)=(i:Int)+1:=i64_in (by omega) (by omega)
 have bT:=hfb _ _ eT nTi
 have b7:=hfb _ _ e7 m7
 have bR:=hGb.top
 refine aE ?_
 simp
 refine aE ?_
 simp
 refine⟨fun hlt=> ?_,fun hlt=> ?_⟩
 ·obtain⟨gi,hgi,zJ,yZ,nT⟩:=hGb.at i hlt
  refine aO (aT ?_)
  refine aE ?_
  simp[hlt,bR,hgi]
  refine aE ?_
  simp
  refine⟨fun hir=> ?_,fun hir=> ?_⟩
  ·
   refine aC ?_
   simp[wi,aB]
   have aEK:i=rp:=by omega
   refine⟨⟨i+1,b⟩,⟨by simp only;omega,hGb.congr fun a c _ hc=>Yt Z Y i a c (by rw[aEK];exact hY.same c (by omega)),hfb⟩,by simp only;omega,rfl,by simp,Sub.refl _⟩
  have aMH:i≠rp:=by omega
  have hZi: ∀c,c≤n→(Z i c).natAbs≤iL:=fun c hc=>hz.z i c hlt hc
  have hZp: ∀c,c≤n→(Z rp c).natAbs≤iL:=fun c hc=>hz.z rp c hr hc
  have hpl:p.natAbs≤iL:=by rw[←hp];exact hZp k (by omega)
  have hl4: ∀ {x:Int},x.natAbs≤iL→(lim x.natAbs).length≤400000:=fun hx=>Nat.le_trans (eN (kH hx)) (by omega)
  refine aE ?_
  simp[nT,hk1,hk2]
  intro g10 aYC K6
  have m10:g10∉ids:=fun hm=>by
   obtain⟨j,hj⟩:=List.mem_iff_getElem?.1 hm
   rw[hGb.row j g10 hj] at K6;cases K6
  have aTU: ¬ g10=gT:=fun e=>by rw[e,bT] at K6;cases K6
  have aUH: ¬ g10=g7:=fun e=>by rw[e,b7] at K6;cases K6
  have aTX: ¬ g10=gR:=fun e=>by rw[e,bR] at K6;cases K6
  rw[Rs Z Y i 0 k (Nat.zero_le _)]
  have aKF:ZG (upd b g10 (some ⟨2,[biC (Z i k)]⟩)) gR ids r (n+1) (cz Z Y i 0):=hGb.cZ fun x y hx hy=>by
   rw[aG _ _ _ _ (by rintro rfl;rcases hx with hx | hx;exact aTX hx;exact m10 hx)];exact hy
  have c10:upd b g10 (some ⟨2,[biC (Z i k)]⟩) g10=some ⟨2,[biC (Z i k)]⟩:=by simp
  have cT:upd b g10 (some ⟨2,[biC (Z i k)]⟩) gT=b gT:=by simp[Ne.symm aTU]
  have c7:upd b g10 (some ⟨2,[biC (Z i k)]⟩) g7=b g7:=by simp[Ne.symm aUH]
  have hbk: ∀x y,b0 x=some y→x∉ids→upd b g10 (some ⟨2,[biC (Z i k)]⟩) x=some y:=fun x y hx hn=>by
   have:=hfb x y hx hn
   rw[aG _ _ _ _ (by rintro rfl;rw[K6] at this;cases this)];exact this
  rw[bT] at cT
  rw[b7] at c7
  generalize upd b g10 (some ⟨2,[biC (Z i k)]⟩)=b1 at *
  refine aC ?_
  simp
  refine aI (fun q:Dj=> [(0,.loc gT 6 0 0),(1,.int .i64 rp),(2,.int .i64 k),(6,.lsl gp 2 0 (n+1)),(7,.loc g7 2 0 0),(30,.lsl gR 1 0 r),(31,.int .i64 r),(32,.int .i64 i),(8,.int .i64 i),(9,.lsl gi 2 0 (n+1)),(10,.loc g10 2 0 0),(45,.int .i64 (n+1)),(46,.int .i64 q.j)]) (fun q=>q.b) (fun q=>q.j≤n+1∧ZG q.b gR ids r (n+1) (cz Z Y i q.j)∧(∀x y,b1 x=some y→x∉ids→q.b x=some y)) (fun q=>n+1 - q.j) _ ⟨0,b1⟩ ⟨Nat.zero_le _,aKF,fun _ _ h _=>h⟩ ⟨rfl,by simp,Sub.refl _⟩ ?_
  clear hGb hfb bT b7 bR nT K6 aKF
  rintro⟨j,b⟩ ⟨hj,hGb,hfb⟩
  simp only at hj hGb hfb
  have wj:IntKind.i64.wrap ((j:Int)+1)=(j:Int)+1:=i64_in (by omega) (by omega)
  have bT:=hfb _ _ cT nTi
  have b7:=hfb _ _ c7 m7
  have b10:=hfb _ _ c10 m10
  have bR:=hGb.top
  have bgi:=hGb.row i gi hgi
  have bgp:=hGb.row rp gp hgp
  have nip: ¬ gp=gi:=fun e=>aMH (hGb.inj i rp gi hgi (by rw[←e];exact hgp))
  refine aE ?_
  simp
  refine aE ?_
  simp
  refine⟨fun hjn=> ?_,fun hjn=> ?_⟩
  ·have G5:j<n+1:=by omega
   have Cz:j≤n:=by omega
   have hj2:(j:Int)<(n:Int)+1:=by omega
   have ezi:cz Z Y i j i j=Z i j:=Rs Z Y i j j (Nat.le_refl _)
   have ezp:cz Z Y i j rp j=Z rp j:=Ys Z Y i j rp j (hY.same j Cz)
   have hT1:=lW (Z i j) p (hl4 (hZi j Cz)) (hl4 hpl)
   have hT2:=lW (Z i k) (Z rp j) (hl4 (hZi k (by omega))) (hl4 (hZp j Cz))
   have hL1:(lim (Z i j*p).natAbs).length≤24:=eN (kD (hZi j Cz) hpl)
   have hL2:(lim (Z i k*Z rp j).natAbs).length≤24:=eN (kD (hZi k (by omega)) (hZp j Cz))
   have hM:=O8 (Z i j*p) (Z i k*Z rp j) (Nat.le_trans hL1 (by omega)) (Nat.le_trans hL2 (by omega))
   have hx:=hY.other i j hlt Cz aMH
   rw[hp] at hx
   have hL3:(lim (Z i j*p - Z i k*Z rp j).natAbs).length≤48:=Oo (hZi j Cz) hpl (hZi k (by omega)) (hZp j Cz)
   have hE:=Ha (Z i j*p - Z i k*Z rp j) d (Y i j) hx.symm hd0 (by omega) (Nat.le_trans (eN (kH hz.dl)) (by omega))
   rw[show biC d= [.bool (decide (d<0)),.sl (iv (lim d.natAbs))] from rfl] at hE
   refine aO (aT ?_)
   refine aE ?_
   simp
   refine aE ?_
   simp
   refine aY aL b (Sub.refl _) [0,1,2,3,4,5] 2 (by kernel_rfl) ?_
   simp[bgi,G5,hj2,ezi,b7]
   refine aN hT1 ?_
   simp
   refine Dz 6 ?_
   simp
   intro g12 uO pU
   have m12:g12∉ids:=fun hm=>by
    obtain⟨u,hu⟩:=List.mem_iff_getElem?.1 hm
    rw[hGb.row u g12 hu] at pU;cases pU
   have aUT: ¬ g12=gT:=fun e=>by rw[e,bT] at pU;cases pU
   have aYN: ¬ g12=g7:=fun e=>by rw[e,b7] at pU;cases pU
   have aAV: ¬ g12=g10:=fun e=>by rw[e,b10] at pU;cases pU
   have aYM: ¬ g12=gR:=fun e=>by rw[e,bR] at pU;cases pU
   have aNG: ¬ g12=gi:=fun e=>m12 (e▸zJ)
   have aK8: ¬ g12=gp:=fun e=>m12 (e▸aTT)
   refine⟨by simp[pU],Dz 7 ?_⟩
   simp
   refine⟨by simp[pU],Dy ?_⟩
   simp
   refine gV (fun _:Unit=> [(0,.loc gT 6 0 0),(1,.int .i64 rp),(2,.int .i64 k),(6,.lsl gp 2 0 (n+1)),(7,.loc g7 2 0 0),(30,.lsl gR 1 0 r),(31,.int .i64 r),(32,.int .i64 i),(8,.int .i64 i),(9,.lsl gi 2 0 (n+1)),(10,.loc g10 2 0 0),(45,.int .i64 (n+1)),(46,.int .i64 j),(11,.int .i64 j),(12,.loc g12 2 0 0)]) (fun _=>upd b g12 (some ⟨2,[biC (Z i j*p - Z i k*Z rp j)]⟩)) (fun _=>True) 128 ?_ ?_
   ·refine aE ?_
    simp
    refine bN [(0,.loc gT 6 0 0),(1,.int .i64 rp),(2,.int .i64 k),(6,.lsl gp 2 0 (n+1)),(7,.loc g7 2 0 0),(30,.lsl gR 1 0 r),(31,.int .i64 r),(32,.int .i64 i),(8,.int .i64 i),(9,.lsl gi 2 0 (n+1)),(10,.loc g10 2 0 0),(45,.int .i64 (n+1)),(46,.int .i64 j),(11,.int .i64 j),(12,.loc g12 2 0 0)] _ (upd b g12 (some ⟨2,[biC (Z i j*p)]⟩)) 65 (.bool (decide (Z i k≠0∧Z rp j≠0))) ⟨rfl,by simp,Sub.refl _⟩ rfl ?_ ?_
    ·simp[Ne.symm aAV,b10]
     refine aD (mV _) ?_
     simp[Int.sign_eq_zero_iff_zero]
     by_cases h1:Z i k=0
     ·simp[h1]
     ·simp[h1,Ne.symm aK8,bgp,G5,hj2,ezp]
      refine aD (mV _) ?_
      simp[Int.sign_eq_zero_iff_zero]
      by_cases h2:Z rp j=0<;>simp[h2]
    simp
    refine aC ?_
    simp
    refine⟨fun h1 h2=> ?_,fun hno=> ?_⟩
    ·refine bY aL [0,1,2,3,4,5,6,7] 1 8 (by kernel_rfl) ?_
     simp[Ne.symm aAV,Ne.symm aK8,b10,bgp,G5,hj2,ezp]
     refine aN hT2 ?_
     simp
     refine aN hM ?_
     simp
     refine bZ (i:=8) (by kernel_rfl) rfl rfl rfl ?_
     simp
     refine Dy ?_
     simp[aH]
     exact⟨rfl,by simp,sub_eq rfl⟩
    ·have e0:Z i j*p - Z i k*Z rp j=Z i j*p:=by
      have:Z i k*Z rp j=0:=by
       by_cases g1:Z i k=0
       ·rw[g1,Int.zero_mul]
       ·rw[hno g1,Int.mul_zero]
      omega
     simp[aH]
     exact⟨rfl,by simp,sub_eq (by rw[e0])⟩
   rintro⟨⟩ _
   have sM:=Ti Z Y i G5
   have hGp:=hGb.put (Z':=cz Z Y i (j+1)) hgi fun a c ha _=>by
    unfold cz
    by_cases h1:a<i
    ·rw[if_pos (.inl h1),if_pos (.inl h1)]
    ·rw[if_neg (by omega),if_neg (by omega)]
   refine aC ?_
   simp
   refine bY aL [0,1,2,3,4,5,6,7,8] 1 9 (by kernel_rfl) ?_
   simp[Ne.symm aUT,bT]
   refine aN hE ?_
   simp[Ne.symm aNG,bgi,G5,hj2]
   refine bZ (i:=9) (by kernel_rfl) rfl rfl rfl ?_
   simp[Ne.symm aNG,bgi,G5,hj2,ezi]
   refine Dy ?_
   rw[sM]
   simp
   refine aC ?_
   simp[wj,aB]
   refine⟨⟨j+1,upd b gi (some ⟨2,zv (n+1) (cz Z Y i (j+1) i)⟩)⟩,⟨by simp only;omega,hGp,fun x y hx hn=> ?_⟩,by simp only;omega,rfl,by simp,?_⟩
   ·simp only
    rw[aG _ _ _ _ (by rintro rfl;exact hn zJ)];exact hfb x y hx hn
   ·intro z y hz2
    simp only[aA] at hz2 ⊢
    grind
  ·have Pr:j=n+1:=by omega
   subst Pr
   refine aC ?_
   simp[wi,aB]
   exact⟨⟨i+1,b⟩,⟨by simp only;omega,hGb.congr fun a c _ hc=>Qw Z Y i (n+1) a c hc,fun x y hx hn=>hfb x y (hbk x y hx hn) hn⟩,by simp only;omega,rfl,by simp,Sub.refl _⟩
 have hir:i=r:=by omega
 subst hir
 have hGY:ZG b gR ids i (n+1) Y:=hGb.congr fun a c ha _=>Sc Z Y i a c ha
 have bB:=hfb _ _ eB nBi
 have bF:=hfb _ _ eF nFi
 have hlb:=Qh (r:=i) (k:=k) bs hr
 clear hGb
 refine aE ?_
 simp[b7,bT,n7T,Ne.symm n7T]
 refine aE ?_
 simp[Ne.symm nTB,nTB,bB,hr,hlb]
 refine aE ?_
 simp[n7T,n7B,b7]
 refine aD (mV _) ?_
 simp
 have aYY:p≠0:=by rw[←hp];exact hY.ne
 have hG2:ZG (upd (upd b gT (some ⟨6,[[.lsl gR 1 0 i,.bool (decide (p<0)),.sl (iv (lim p.natAbs)),.lsl gB 1 0 i,.int .i64 n,.lsl gF 1 0 n]]⟩)) gB (some ⟨1,iv (lb i (pvB bs rp k))⟩)) gR ids i (n+1) Y:=hGY.cZ fun x y hx hy=>by
  have h1:x≠gB:=by rintro rfl;rcases hx with hx | hx;exact nRB hx.symm;exact nBi hx
  have h2:x≠gT:=by rintro rfl;rcases hx with hx | hx;exact nTR hx;exact nTi hx
  rw[aG _ _ _ _ h1,aG _ _ _ _ h2];exact hy
 have e2T:(upd (upd b gT (some ⟨6,[[.lsl gR 1 0 i,.bool (decide (p<0)),.sl (iv (lim p.natAbs)),.lsl gB 1 0 i,.int .i64 n,.lsl gF 1 0 n]]⟩)) gB (some ⟨1,iv (lb i (pvB bs rp k))⟩)) gT=some ⟨6,[[.lsl gR 1 0 i,.bool (decide (p<0)),.sl (iv (lim p.natAbs)),.lsl gB 1 0 i,.int .i64 n,.lsl gF 1 0 n]]⟩:=by simp[nTB]
 have e2B:(upd (upd b gT (some ⟨6,[[.lsl gR 1 0 i,.bool (decide (p<0)),.sl (iv (lim p.natAbs)),.lsl gB 1 0 i,.int .i64 n,.lsl gF 1 0 n]]⟩)) gB (some ⟨1,iv (lb i (pvB bs rp k))⟩)) gB=some ⟨1,iv (lb i (pvB bs rp k))⟩:=by simp
 have e2F:(upd (upd b gT (some ⟨6,[[.lsl gR 1 0 i,.bool (decide (p<0)),.sl (iv (lim p.natAbs)),.lsl gB 1 0 i,.int .i64 n,.lsl gF 1 0 n]]⟩)) gB (some ⟨1,iv (lb i (pvB bs rp k))⟩)) gF=some ⟨1,lv n fr⟩:=by simp[Ne.symm nBF,Ne.symm nTF,bF]
 have e27:(upd (upd b gT (some ⟨6,[[.lsl gR 1 0 i,.bool (decide (p<0)),.sl (iv (lim p.natAbs)),.lsl gB 1 0 i,.int .i64 n,.lsl gF 1 0 n]]⟩)) gB (some ⟨1,iv (lb i (pvB bs rp k))⟩)) g7=some ⟨2,[biC p]⟩:=by simp[n7T,n7B,b7]
 have e2f: ∀x y,bl x=some y→x∉TG.all ⟨gT,gR,gB,gF,ids⟩→(upd (upd b gT (some ⟨6,[[.lsl gR 1 0 i,.bool (decide (p<0)),.sl (iv (lim p.natAbs)),.lsl gB 1 0 i,.int .i64 n,.lsl gF 1 0 n]]⟩)) gB (some ⟨1,iv (lb i (pvB bs rp k))⟩)) x=some y:=fun x y hx hn=>by
  simp only[TG.all,List.mem_cons,not_or] at hn
  rw[aG _ _ _ _ hn.2.2.1,aG _ _ _ _ hn.1]
  exact hfb x y (aUY x y hx) hn.2.2.2.2
 generalize upd (upd b gT (some ⟨6,[[.lsl gR 1 0 i,.bool (decide (p<0)),.sl (iv (lim p.natAbs)),.lsl gB 1 0 i,.int .i64 n,.lsl gF 1 0 n]]⟩)) gB (some ⟨1,iv (lb i (pvB bs rp k))⟩)=b2 at *
 refine⟨fun kV=> ?_,fun cO=> ?_⟩
 ·rw[cE]
  refine⟨[],by simp,hK b2 ⟨?_,?_,e2B,e2F,pT,pR,pB,pF,aJ6⟩ e2f⟩
  ·simp only[pvF,if_pos kV];exact hG2
  ·simp only[show((p.natAbs:Nat):Int)=p by omega];exact e2T
 clear hGY hfb bB bF bT b7
 have hO:=mZ p
 refine dJ [(0,.loc gT 6 0 0),(1,.int .i64 rp),(2,.int .i64 k),(6,.lsl gp 2 0 (n+1)),(7,.loc g7 2 0 0)] 128 b2 ⟨rfl,by simp,Sub.refl _⟩ ?_
 refine aE ?_
 simp[e27]
 refine aD hO ?_
 simp[e2T]
 have hG3:ZG (upd b2 gT (some ⟨6,[[.lsl gR 1 0 i,.bool (decide (0<p)),.sl (iv (lim p.natAbs)),.lsl gB 1 0 i,.int .i64 n,.lsl gF 1 0 n]]⟩)) gR ids i (n+1) (cz Y (fun a c=> - Y a c) 0 0):=by
  rw[Ie]
  exact hG2.cZ fun x y hx hy=>by
   have h2:x≠gT:=by rintro rfl;rcases hx with hx | hx;exact nTR hx;exact nTi hx
   rw[aG _ _ _ _ h2];exact hy
 have e3T:(upd b2 gT (some ⟨6,[[.lsl gR 1 0 i,.bool (decide (0<p)),.sl (iv (lim p.natAbs)),.lsl gB 1 0 i,.int .i64 n,.lsl gF 1 0 n]]⟩)) gT=some ⟨6,[[.lsl gR 1 0 i,.bool (decide (0<p)),.sl (iv (lim p.natAbs)),.lsl gB 1 0 i,.int .i64 n,.lsl gF 1 0 n]]⟩:=by simp
 have e3B:(upd b2 gT (some ⟨6,[[.lsl gR 1 0 i,.bool (decide (0<p)),.sl (iv (lim p.natAbs)),.lsl gB 1 0 i,.int .i64 n,.lsl gF 1 0 n]]⟩)) gB=some ⟨1,iv (lb i (pvB bs rp k))⟩:=by simp[Ne.symm nTB,e2B]
 have e3F:(upd b2 gT (some ⟨6,[[.lsl gR 1 0 i,.bool (decide (0<p)),.sl (iv (lim p.natAbs)),.lsl gB 1 0 i,.int .i64 n,.lsl gF 1 0 n]]⟩)) gF=some ⟨1,lv n fr⟩:=by simp[Ne.symm nTF,e2F]
 have e3f: ∀x y,bl x=some y→x∉TG.all ⟨gT,gR,gB,gF,ids⟩→(upd b2 gT (some ⟨6,[[.lsl gR 1 0 i,.bool (decide (0<p)),.sl (iv (lim p.natAbs)),.lsl gB 1 0 i,.int .i64 n,.lsl gF 1 0 n]]⟩)) x=some y:=fun x y hx hn=>by
  have hn2:=hn
  simp only[TG.all,List.mem_cons,not_or] at hn2
  rw[aG _ _ _ _ hn2.1]
  exact e2f x y hx hn
 generalize upd b2 gT (some ⟨6,[[.lsl gR 1 0 i,.bool (decide (0<p)),.sl (iv (lim p.natAbs)),.lsl gB 1 0 i,.int .i64 n,.lsl gF 1 0 n]]⟩)=b3 at *
 have e3R:=hG3.top
 refine aC ?_
 simp[e3T]
 refine aI (fun q:Dj=> [(0,.loc gT 6 0 0),(107,.lsl gR 1 0 i),(108,.int .i64 i),(109,.int .i64 q.j)]) (fun q=>q.b) (fun q=>q.j≤i∧ZG q.b gR ids i (n+1) (cz Y (fun a c=> - Y a c) q.j 0)∧(∀x y,b3 x=some y→x∉ids→q.b x=some y)) (fun q=>i - q.j) _ ⟨0,b3⟩ ⟨Nat.zero_le _,hG3,fun _ _ h _=>h⟩ ⟨rfl,by simp,Sub.refl _⟩ ?_
 rintro⟨t,b⟩ ⟨ht,hGb,hfb⟩
 simp only at ht hGb hfb
 have wt:IntKind.i64.wrap ((t:Int)+1)=(t:Int)+1:=i64_in (by omega) (by omega)
 have bR:=hGb.top
 refine aE ?_
 simp
 refine aE ?_
 simp
 refine⟨fun hlt=> ?_,fun hlt=> ?_⟩
 ·obtain⟨gt,hgt,aVM,aYV,aUX⟩:=hGb.at t hlt
  refine aO (aT ?_)
  refine aE ?_
  simp[hlt,bR,hgt]
  refine aC ?_
  simp
  refine aI (fun q:Dj=> [(0,.loc gT 6 0 0),(107,.lsl gR 1 0 i),(108,.int .i64 i),(109,.int .i64 t),(14,.lsl gt 2 0 (n+1)),(114,.int .i64 (n+1)),(115,.int .i64 q.j)]) (fun q=>q.b) (fun q=>q.j≤n+1∧ZG q.b gR ids i (n+1) (cz Y (fun a c=> - Y a c) t q.j)∧(∀x y,b3 x=some y→x∉ids→q.b x=some y)) (fun q=>n+1 - q.j) _ ⟨0,b⟩ ⟨Nat.zero_le _,hGb,hfb⟩ ⟨rfl,by simp,Sub.refl _⟩ ?_
  clear hGb hfb bR aUX
  rintro⟨j,b⟩ ⟨hj,hGb,hfb⟩
  simp only at hj hGb hfb
  have wj:IntKind.i64.wrap ((j:Int)+1)=(j:Int)+1:=i64_in (by omega) (by omega)
  have bgt:=hGb.row t gt hgt
  refine aC ?_
  simp
  refine⟨fun hjn=> ?_,fun hjn=> ?_⟩
  ·have G5:j<n+1:=by omega
   have hj2:(j:Int)<(n:Int)+1:=by omega
   have ezi:cz Y (fun a c=> - Y a c) t j t j=Y t j:=Rs Y _ t j j (Nat.le_refl _)
   have sM:=Ti Y (fun a c=> - Y a c) t G5
   have hGp:=hGb.put (Z':=cz Y (fun a c=> - Y a c) t (j+1)) hgt fun a c ha _=>by
    unfold cz
    by_cases h1:a<t
    ·rw[if_pos (.inl h1),if_pos (.inl h1)]
    ·rw[if_neg (by omega),if_neg (by omega)]
   simp[bgt,G5,hj2,ezi]
   refine aD (mZ _) ?_
   simp[bgt,G5,hj2,ezi,sM,wj,aB]
   refine⟨⟨j+1,upd b gt (some ⟨2,zv (n+1) (cz Y (fun a c=> - Y a c) t (j+1) t)⟩)⟩,⟨by simp only;omega,hGp,fun x y hx hn=> ?_⟩,by simp only;omega,rfl,by simp,Sub.refl _⟩
   simp only
   rw[aG _ _ _ _ (by rintro rfl;exact hn aVM)];exact hfb x y hx hn
  ·have Pr:j=n+1:=by omega
   subst Pr
   simp
   refine aC ?_
   simp[wt,aB]
   exact⟨⟨t+1,b⟩,⟨by simp only;omega,hGb.congr fun a c _ hc=>Qw Y _ t (n+1) a c hc,hfb⟩,by simp only;omega,rfl,by simp,Sub.refl _⟩
 have hti:t=i:=by omega
 subst hti
 simp
 rw[lE]
 refine⟨[],by simp,hK b ⟨?_,?_,?_,?_,pT,pR,pB,pF,aJ6⟩ fun x y hx hn=> ?_⟩
 ·simp only[pvF,if_neg (show ¬ 0<p by omega)]
  exact hGb.congr fun a c ha _=>Sc Y _ t a c ha
 ·simp only[show decide ((p.natAbs:Int)<0)=decide (0<p) by rw[decide_eq_false (by omega),decide_eq_false (by omega)],Int.natAbs_natCast]
  exact hfb _ _ e3T nTi
 ·exact hfb _ _ e3B nBi
 ·exact hfb _ _ e3F nFi
 ·have hn2:=hn
  simp only[TG.all,List.mem_cons,not_or] at hn2
  exact hfb _ _ (e3f x y hx hn) hn2.2.2.2.2

abbrev oW (n m:Nat) (E:Nat→Nat→Rat) (rows:List Nat) (t:Lp.Tab):Prop:=Lp.Inv n m (n+m) (n+m+1) 1000 E rows t
def atR (rows:List Nat) (p:Nat):Nat:=rows.getD p 0
def cD (n m:Nat) (E:Nat→Nat→Rat) (rows:List Nat) (t:Lp.Tab) (fr:Nat→Bool):TN:=
 ⟨rows.length,n+m,fun p c=>Lp.zt m E t (atR rows p) c,Lp.dz m E t,fun p=>t.bs (atR rows p),fr⟩
def Rows (m:Nat) (rows:List Nat):Prop:= ∃P:Nat→Bool,rows=(List.range m).filter P
theorem Rows.lt {m:Nat} {rows:List Nat} (h:Rows m rows) {i:Nat} (hi:i∈rows):i<m:=by
 obtain⟨P,rfl⟩:=h
 simpa using (List.mem_filter.1 hi).1
theorem Rows.len {m:Nat} {rows:List Nat} (h:Rows m rows):rows.length≤m:=by
 obtain⟨P,rfl⟩:=h
 exact Nat.le_trans (List.length_filter_le _ _) (by simp)
theorem Rows.nodup {m:Nat} {rows:List Nat} (h:Rows m rows):rows.Nodup:=by
 obtain⟨P,rfl⟩:=h
 exact List.Pairwise.filter _ List.nodup_range
theorem cU {rows:List Nat} {p:Nat} (h:p<rows.length):atR rows p∈rows:=by
 unfold atR
 rw[List.getD_eq_getElem?_getD,List.getElem?_eq_getElem h];exact List.getElem_mem h
theorem Rows.inj {m:Nat} {rows:List Nat} (h:Rows m rows) {p q:Nat} (hp:p<rows.length) (hq:q<rows.length) (e:atR rows p=atR rows q):p=q:=by
 have hn:=h.nodup
 unfold atR at e
 rw[List.getD_eq_getElem?_getD,List.getElem?_eq_getElem hp,List.getD_eq_getElem?_getD,List.getElem?_eq_getElem hq] at e
 have hp2:=List.pairwise_iff_getElem.1 hn
 simp only[Option.getD_some] at e
 rcases Nat.lt_trichotomy p q with g | g | g
 ·exact absurd e (hp2 p q hp hq g)
 ·exact g
 ·exact absurd e.symm (hp2 q p hq hp g)
theorem mN (m:Nat):Rows m (List.range m):=⟨fun _=>true,(List.filter_eq_self.2 fun _ _=>rfl).symm⟩
theorem wJ (n m:Nat) (t:Lp.Tab):Rows m (Lp.bO n t m):=⟨fun i=>decide (t.bs i<n),rfl⟩
theorem aE8 (l:List Nat) (x:Nat) (f:Nat→Rat):Lp.S (l++ [x]).length (fun p=>f (atR (l++ [x]) p))=Lp.S l.length (fun p=>f (atR l p))+f x:=by
 rw[List.length_append,List.length_singleton,Lp.S]
 congr 1
 ·exact Lp.bS fun p hp=>by unfold atR;rw[List.getD_eq_getElem?_getD,List.getD_eq_getElem?_getD,List.getElem?_append_left hp]
 ·unfold atR;rw[List.getD_eq_getElem?_getD,List.getElem?_append_right (Nat.le_refl _)];simp
theorem Rows.sum {m:Nat} {rows:List Nat} (h:Rows m rows) (f:Nat→Rat) (hf: ∀i,i<m→i∉rows→f i=0):Lp.S rows.length (fun p=>f (atR rows p))=Lp.S m f:=by
 obtain⟨P,rfl⟩:=h
 induction m with
 | zero => rfl
 | succ m ih =>
   rw[List.range_succ,List.filter_append]
   have hf': ∀i,i<m→i∉(List.range m).filter P→f i=0:=fun i hi hn=>hf i (by omega) fun hm=>hn (by
    rw[List.mem_filter] at hm ⊢
    exact⟨by simpa using hi,hm.2⟩)
   cases hP:P m with
   | true=>
     rw[show List.filter P [m]= [m] by simp[hP],aE8,ih hf',Lp.S]
   | false=>
     rw[show List.filter P [m]= [] by simp[hP],List.append_nil,ih hf',Lp.S,hf m (by omega) (fun hm=>by rw[List.mem_filter,hP] at hm;cases hm.2)]
     grind
theorem Vj :iL=10^66:=by unfold iL;rfl
theorem Is {n m:Nat} {E:Nat→Nat→Rat} {rows:List Nat} {t:Lp.Tab} (h:oW n m E rows t) (hm:m≤17) (hn:n+m≤100) (hr:Rows m rows):ZB rows.length (n+m) (fun p c=>Lp.zt m E t (atR rows p) c) (Lp.dz m E t):=by
 have hl:=Lp.oM hm
 rw[←Vj] at hl
 refine⟨fun p c hp hc=> ?_,?_,Lp.tW h.z,by have:=hr.len;omega,hn⟩
 ·have:=Lp.aAW h.z (hr.lt (cU hp)) (show c<n+m+1 by omega)
  omega
 ·have:=Lp.aAI h.z
  have:=Lp.tW h.z
  omega
theorem aCZ {n m:Nat} {E:Nat→Nat→Rat} {rows:List Nat} {t:Lp.Tab} (h:oW n m E rows t) (hr:Rows m rows) (O:Nat→Int) (k:Nat) (hk:k<n+m+1) (hO: ∀i,i<m→i∉rows→O (t.bs i)=0):
  ((gTo (fun p c=>Lp.zt m E t (atR rows p) c) (Lp.dz m E t) (fun p=>t.bs (atR rows p)) O k rows.length:Int):Rat)=Lp.dz m E t*Lp.rc m (fun c=>(O c:Rat)) t k:=by
 have key: ∀i,i≤rows.length→((gTo (fun p c=>Lp.zt m E t (atR rows p) c) (Lp.dz m E t) (fun p=>t.bs (atR rows p)) O k i:Int):Rat)=Lp.dz m E t*((O k:Rat) - Lp.S i fun p=>t.X (atR rows p) k*(O (t.bs (atR rows p)):Rat)):=by
  intro i
  induction i with
  | zero => intro _; rw [gTo, Rat.intCast_mul, Lp.S]; grind
  | succ i ih =>
    intro hi
    have hc:=Lp.iN h.z (hr.lt (cU (show i<rows.length by omega))) hk
    rw[gTo,Lp.S]
    split
    ·rw[Rat.intCast_sub,Rat.intCast_mul,ih (by omega),hc];grind
    ·rename_i hno
     rw[ih (by omega)]
     have hz:t.X (atR rows i) k*(O (t.bs (atR rows i)):Rat)=0:=by
      by_cases g1:O (t.bs (atR rows i))=0
      ·rw[g1];grind
      ·have g2:Lp.zt m E t (atR rows i) k=0:=Classical.not_not.1 fun g2=>hno ⟨g1,g2⟩
       rw[(Lp.sG h.z (hr.lt (cU (show i<rows.length by omega))) hk).2.1 g2];grind
     rw[hz];grind
 rw[key _ (Nat.le_refl _)]
 unfold Lp.rc
 rw[hr.sum (fun i=>t.X i k*(O (t.bs i):Rat)) fun i hi hn=>by rw[hO i hi hn];grind]
theorem Ll {n m:Nat} {E:Nat→Nat→Rat} {rows:List Nat} {t:Lp.Tab} (h:oW n m E rows t) (hr:Rows m rows) (O:Nat→Int) (k:Nat) (hk:k<n+m+1) (hO: ∀i,i<m→i∉rows→O (t.bs i)=0):
  (0<gTo (fun p c=>Lp.zt m E t (atR rows p) c) (Lp.dz m E t) (fun p=>t.bs (atR rows p)) O k rows.length ↔ 0<Lp.rc m (fun c=>(O c:Rat)) t k)∧
  (gTo (fun p c=>Lp.zt m E t (atR rows p) c) (Lp.dz m E t) (fun p=>t.bs (atR rows p)) O k rows.length<0 ↔ Lp.rc m (fun c=>(O c:Rat)) t k<0):=by
 have e:=aCZ h hr O k hk hO
 have hd:(0:Rat)<Lp.dz m E t:=Rat.intCast_pos.2 (Lp.tW h.z)
 generalize gTo (fun p c=>Lp.zt m E t (atR rows p) c) (Lp.dz m E t) (fun p=>t.bs (atR rows p)) O k rows.length=G at *
 generalize Lp.rc m (fun c=>(O c:Rat)) t k=q at *
 constructor
 ·rw[←Rat.intCast_pos,e]
  constructor
  ·intro hp
   rcases Lp.gW q 0 with g | g
   ·have:=Rat.mul_nonneg (show(0:Rat)≤Lp.dz m E t by grind) (show 0≤ -q by grind);grind
   ·exact g
  ·intro hp;exact Rat.mul_pos hd hp
 ·rw[show G<0 ↔ (G:Rat)<0 from by rw[←Rat.intCast_lt_intCast];rfl,e]
  constructor
  ·intro hp
   rcases Lp.gW 0 q with g | g
   ·have:=Rat.mul_nonneg (show(0:Rat)≤Lp.dz m E t by grind) g;grind
   ·exact g
  ·intro hp
   have:=Rat.mul_pos hd (show 0< -q by grind);grind
theorem Cm {n m:Nat} {E:Nat→Nat→Rat} {rows:List Nat} {t:Lp.Tab} (h:oW n m E rows t) (hr:Rows m rows) (k:Nat) (hk:k<n+m+1): ∀i,i≤rows.length→
  Lp.leave t (n+m) k (rows.take i)=(lvZ (fun p c=>Lp.zt m E t (atR rows p) c) (n+m) k (fun p=>t.bs (atR rows p)) i).map fun p=>atR rows p
 | 0, _ => by simp [lvZ, Lp.leave]
 | i + 1, hi => by
   have hlt:i<rows.length:=by omega
   have ih:=Cm h hr k hk i (by omega)
   have e:rows.take (i+1)=rows.take i++ [atR rows i]:=by
    unfold atR;rw[List.take_add_one,List.getElem?_eq_getElem hlt,List.getD_eq_getElem?_getD,List.getElem?_eq_getElem hlt];rfl
   have hm:=hr.lt (cU hlt)
   have hs:=Lp.sG h.z hm hk
   rw[e,Lp.tF,ih,lvZ]
   unfold Lp.lvStep
   by_cases hp:0<t.X (atR rows i) k
   ·rw[if_pos hp,if_neg (show ¬ Lp.zt m E t (atR rows i) k≤0 by have:=hs.1.2 hp;omega)]
    cases hb:lvZ (fun p c=>Lp.zt m E t (atR rows p) c) (n+m) k (fun p=>t.bs (atR rows p)) i with
    | none => rfl
    | some j =>
      simp only[Option.map_some]
      have hj:=E7 hb
      have hjm:=hr.lt (cU (show j<rows.length by omega))
      have hpj:0<t.X (atR rows j) k:=by
       have rC:atR rows j∈rows.take i∧0<t.X (atR rows j) k:=by
        have:=(Lp.mF t (n+m) k (rows.take i)).2 (atR rows j) (by rw[ih,hb];rfl)
        exact⟨this.1,this.2.1⟩
       exact rC.2
      have hq:=Lp.wV (a:=t.X (atR rows i) (n+m)) (b:=t.X (atR rows i) k) (c:=t.X (atR rows j) (n+m)) (d:=t.X (atR rows j) k) hp hpj
      have hd:(0:Rat)<Lp.dz m E t:=Rat.intCast_pos.2 (Lp.tW h.z)
      have c1:=Lp.iN h.z hm (show n+m<n+m+1 by omega)
      have c2:=Lp.iN h.z hm hk
      have c3:=Lp.iN h.z hjm (show n+m<n+m+1 by omega)
      have c4:=Lp.iN h.z hjm hk
      have l1:((Lp.zt m E t (atR rows i) (n+m)*Lp.zt m E t (atR rows j) k:Int):Rat)=t.X (atR rows i) (n+m)*t.X (atR rows j) k*((Lp.dz m E t:Rat)*Lp.dz m E t):=by rw[Rat.intCast_mul,c1,c4];grind
      have l2:((Lp.zt m E t (atR rows j) (n+m)*Lp.zt m E t (atR rows i) k:Int):Rat)=t.X (atR rows j) (n+m)*t.X (atR rows i) k*((Lp.dz m E t:Rat)*Lp.dz m E t):=by rw[Rat.intCast_mul,c2,c3];grind
      have hdd:=Rat.mul_pos hd hd
      have aCS:Lp.quo t (n+m) k (atR rows i)<Lp.quo t (n+m) k (atR rows j) ↔ Lp.zt m E t (atR rows i) (n+m)*Lp.zt m E t (atR rows j) k<Lp.zt m E t (atR rows j) (n+m)*Lp.zt m E t (atR rows i) k:=by
       unfold Lp.quo
       rw[hq.1,←Rat.intCast_lt_intCast,l1,l2]
       generalize t.X (atR rows i) (n+m)*t.X (atR rows j) k=A
       generalize t.X (atR rows j) (n+m)*t.X (atR rows i) k=B
       generalize (Lp.dz m E t:Rat)*Lp.dz m E t=D at hdd
       constructor
       ·intro hh;have:=Rat.mul_pos (show 0<B - A by grind) hdd;grind
       ·intro hh
        rcases Lp.gW B A with g | g
        ·have:=Rat.mul_nonneg (show 0≤A - B by grind) (show 0≤D by grind);grind
        ·exact g
      have aI2:Lp.quo t (n+m) k (atR rows i)=Lp.quo t (n+m) k (atR rows j) ↔ Lp.zt m E t (atR rows i) (n+m)*Lp.zt m E t (atR rows j) k=Lp.zt m E t (atR rows j) (n+m)*Lp.zt m E t (atR rows i) k:=by
       unfold Lp.quo
       rw[hq.2,←Rat.intCast_inj,l1,l2]
       generalize t.X (atR rows i) (n+m)*t.X (atR rows j) k=A
       generalize t.X (atR rows j) (n+m)*t.X (atR rows i) k=B
       generalize (Lp.dz m E t:Rat)*Lp.dz m E t=D at hdd
       constructor
       ·intro hh;rw[hh]
       ·intro hh
        have:(A - B)*D=0:=by grind
        rcases Rat.mul_eq_zero.1 this with g | g
        ·grind
        ·grind
      by_cases hc:Lp.quo t (n+m) k (atR rows i)<Lp.quo t (n+m) k (atR rows j)∨Lp.quo t (n+m) k (atR rows i)=Lp.quo t (n+m) k (atR rows j)∧t.bs (atR rows i)<t.bs (atR rows j)
      ·rw[if_pos hc,if_pos (by rw[aCS,aI2] at hc;exact hc)];rfl
      ·rw[if_neg hc,if_neg (by rw[aCS,aI2] at hc;exact hc)];rfl
   ·rw[if_neg hp,if_pos (show Lp.zt m E t (atR rows i) k≤0 by
     rcases Int.lt_or_le 0 (Lp.zt m E t (atR rows i) k) with g | g
     ·exact absurd (hs.1.1 g) hp
     ·exact g)]
theorem Re {n m:Nat} {E:Nat→Nat→Rat} {rows:List Nat} {t:Lp.Tab} (h:oW n m E rows t) (hr:Rows m rows) {p k:Nat} (hp:p<rows.length) (hk:k<n+m) (hx:t.X (atR rows p) k≠0) (fr:Nat→Bool):
  ∃Y,aJH rows.length (n+m) p k (cD n m E rows t fr).Z (Lp.dz m E t) Y∧
   ∀b g,TT b g ⟨rows.length,n+m,pvF ((cD n m E rows t fr).Z p k) Y,(((cD n m E rows t fr).Z p k).natAbs:Int),pvB (cD n m E rows t fr).bs p k,fr⟩→TT b g (cD n m E rows (Lp.piv t (atR rows p) k) fr):=by
 have hm:=hr.lt (cU hp)
 have hs:=Lp.sG h.z hm (show k<n+m+1 by omega)
 have hne:Lp.zt m E t (atR rows p) k≠0:=fun e=>hx (hs.2.1 e)
 have hd:=Lp.tW h.z
 let z':Nat→Nat→Int:=fun a c=>Lp.zt m E (Lp.piv t (atR rows p) k) (atR rows a) c
 have hpz: ∀a c,a<rows.length→c≤n+m→_:=fun a c ha hc=>Lp.aDV h.z hm (show k<n+m+1 by omega) hx (hr.lt (cU ha)) (show c<n+m+1 by omega)
 have aB3: ∀a,a<rows.length→(atR rows a=atR rows p ↔ a=p):=fun a ha=>⟨fun e=>hr.inj ha hp e,fun e=>by rw[e]⟩
 have hbs: ∀a,a<rows.length→(Lp.piv t (atR rows p) k).bs (atR rows a)=pvB (fun q=>t.bs (atR rows q)) p k a:=fun a ha=>by
  unfold pvB
  by_cases e:a=p
  ·rw[e,if_pos rfl,Lp.eE]
  ·rw[if_neg e,Lp.dE _ _ fun e2=>e ((aB3 a ha).1 e2)]
 have hTT: ∀(Y:Nat→Nat→Int),(∀a c,a<rows.length→c≤n+m→pvF (Lp.zt m E t (atR rows p) k) Y a c=z' a c)→(Lp.dz m E (Lp.piv t (atR rows p) k)=((Lp.zt m E t (atR rows p) k).natAbs:Int))→ ∀b g,TT b g ⟨rows.length,n+m,pvF ((cD n m E rows t fr).Z p k) Y,(((cD n m E rows t fr).Z p k).natAbs:Int),pvB (cD n m E rows t fr).bs p k,fr⟩→TT b g (cD n m E rows (Lp.piv t (atR rows p) k) fr):=by
  intro Y h1 h2 b g hT
  have e1:iv (lb rows.length (pvB (fun q=>t.bs (atR rows q)) p k))=iv (lb rows.length fun q=>(Lp.piv t (atR rows p) k).bs (atR rows q)):=by
   unfold lb
   congr 1
   exact List.map_congr_left fun q hq=>by simp only[hbs q (by simpa using hq)]
  refine⟨hT.fM.congr fun a c ha hc=>h1 a c ha (by simp only at hc;omega),?_,?_,hT.fre,hT.pT,hT.pR,hT.pB,hT.pF,hT.nd⟩
  ·have:=hT.hd
   simp only[cD,h2] at this ⊢
   exact this
  ·have:=hT.ba
   simp only[cD] at this ⊢
   rw[←e1];exact this
 rcases Int.lt_or_gt_of_ne hne with cO | kV
 ·refine⟨fun a c=> - z' a c,⟨fun a c ha hc hap=> ?_,fun c hc=> ?_,hne⟩,hTT _ (fun a c _ _=> ?_) ?_⟩
  ·have:=((hpz a c ha hc).2 cO).2
   rw[if_neg fun e=>hap ((aB3 a ha).1 e)] at this
   simp only[cD,z']
   rw[Int.neg_mul,this];omega
  ·have:=((hpz p c hp hc).2 cO).2
   rw[if_pos rfl,←Int.neg_mul] at this
   have:=Int.eq_of_mul_eq_mul_right (by omega) this
   simp only[cD,z']
   rw[this];omega
  ·simp only[pvF,if_neg (show ¬ 0<Lp.zt m E t (atR rows p) k by omega)]
   omega
  ·rw[((hpz p 0 hp (Nat.zero_le _)).2 cO).1];omega
 ·refine⟨z',⟨fun a c ha hc hap=> ?_,fun c hc=> ?_,hne⟩,hTT _ (fun a c _ _=> ?_) ?_⟩
  ·have:=((hpz a c ha hc).1 kV).2
   rw[if_neg fun e=>hap ((aB3 a ha).1 e)] at this
   exact this
  ·have:=((hpz p c hp hc).1 kV).2
   rw[if_pos rfl] at this
   exact Int.eq_of_mul_eq_mul_right (by omega) this
  ·simp only[pvF,if_pos kV]
  ·rw[((hpz p 0 hp (Nat.zero_le _)).1 kV).1];omega

theorem Nl {b:Int→Option Blk} {g:Int} {l:List Int} (h0:0≤g) (h:b g=some ⟨1,iv l⟩) (m:Nat):frz b (m+1) (.lsl g 1 0 l.length)=some (.sl (iv l)):=by
 have h1:=jY (n:=m) h0 h
 rw[jE (qF _),show(iv l).length=l.length by simp] at h1
 rw[h1];rfl
def wO (O:Nat→Int):Nat→Rat:=fun c=>(O c:Rat)
def fO (N:Nat) (fr:Nat→Bool):Nat→Prop:=fun c=>c<N∧fr c=true
structure aOU where
 j:Nat
 a:Bool
 b:Int→Option Blk
noncomputable def frK (m : Nat) (O : Nat → Int) (t : Lp.Tab) (fr : Nat → Bool) (k : Nat) : Nat → Bool := open Classical in fun c => if c < k then fr c && !decide (Lp.rc m (wO O) t c < 0) else fr c
theorem Rq (m:Nat) (O:Nat→Int) (t:Lp.Tab) (fr:Nat→Bool):frK m O t fr 0=fr:=by funext c;unfold frK;rw[if_neg (by omega)]
theorem He {N k:Nat} (f:Nat→Bool) (v:Bool) (h:k<N):(lv N f).set k [.bool v]=lv N (fun c=>if c=k then v else f c):=by
 apply List.ext_getElem
 ·simp
 ·intro t h1 h2
  simp only[List.getElem_set,Vc]
  by_cases e:k=t
  ·subst e;simp
  ·rw[if_neg e,if_neg (Ne.symm e)]
theorem aBC {r:Nat} {bs:Nat→Nat} {k:Nat} :(k:Int)∈lb r bs ↔ ∃p,p<r∧bs p=k:=by
 unfold lb
 constructor
 ·intro h
  obtain⟨p,hp,e⟩:=List.mem_map.1 h
  exact⟨p,by simpa using hp,by omega⟩
 ·rintro⟨p,hp,e⟩
  exact List.mem_map.2 ⟨p,by simpa using hp,by rw[e]⟩
theorem yF {bl:Int→Option Blk} {K:V→(Int→Option Blk)→Prop} (n m:Nat) (E:Nat→Nat→Rat) (rows:List Nat) (g:TG) (t:Lp.Tab) (fr:Nat→Bool) (O:Nat→Int) (gO:Int) (e:Nat)
  (hm:m≤17) (hn:n+m≤100) (hr:Rows m rows) (hO: ∀c,(O c).natAbs≤1000) (hO0:(∀i,i<m→i∈rows)∨ ∀c,n≤c→O c=0)
  (h1:Lp.nx (n+m) (n+m) rows (Lp.okW m (wO O) (fO (n+m) fr)) (Lp.orb (Lp.nx (n+m) (n+m) rows (Lp.okW m (wO O) (fO (n+m) fr))) t e)=none)
  (h2: ∀e',e'<e→(Lp.nx (n+m) (n+m) rows (Lp.okW m (wO O) (fO (n+m) fr)) (Lp.orb (Lp.nx (n+m) (n+m) rows (Lp.okW m (wO O) (fO (n+m) fr))) t e')).isSome=true)
  (hI: ∀e',e'≤e→oW n m E rows (Lp.orb (Lp.nx (n+m) (n+m) rows (Lp.okW m (wO O) (fO (n+m) fr))) t e'))
  (hTT:TT bl g (cD n m E rows t fr)) (hgO:bl gO=some ⟨1,iv (lz (n+m) O)⟩) (hg0:0≤gO) (hgn:gO∉g.all)
  (hT: ∀b',Lp.fstP (Lp.okW m (wO O) (fO (n+m) fr) (Lp.orb (Lp.nx (n+m) (n+m) rows (Lp.okW m (wO O) (fO (n+m) fr))) t e)) (n+m)=none→
    TT b' g (cD n m E rows (Lp.orb (Lp.nx (n+m) (n+m) rows (Lp.okW m (wO O) (fO (n+m) fr))) t e) (frK m O (Lp.orb (Lp.nx (n+m) (n+m) rows (Lp.okW m (wO O) (fO (n+m) fr))) t e) fr (n+m)))→
    (∀x y,bl x=some y→x∉g.all→b' x=some y)→K (.bool true) b')
  (hF: ∀b' k,Lp.fstP (Lp.okW m (wO O) (fO (n+m) fr) (Lp.orb (Lp.nx (n+m) (n+m) rows (Lp.okW m (wO O) (fO (n+m) fr))) t e)) (n+m)=some k→Lp.leave (Lp.orb (Lp.nx (n+m) (n+m) rows (Lp.okW m (wO O) (fO (n+m) fr))) t e) (n+m) k rows=none→
    TT b' g (cD n m E rows (Lp.orb (Lp.nx (n+m) (n+m) rows (Lp.okW m (wO O) (fO (n+m) fr))) t e) fr)→(∀x y,bl x=some y→x∉g.all→b' x=some y)→K (.bool false) b'):
  cH Tryz.prog 205 [.loc g.T 6 0 0,.lsl gO 1 0 (n+m)] bl K:=by
 obtain⟨nxf,hnx⟩: ∃f,Lp.nx (n+m) (n+m) rows (Lp.okW m (wO O) (fO (n+m) fr))=f:=⟨_,rfl⟩
 rw[hnx] at h1 h2 hI hT hF
 obtain⟨N,hN⟩: ∃N,n+m=N:=⟨_,rfl⟩
 have hlz:(lz N O).length=N:=by simp
 have aAU: ∀t,oW n m E rows t→ ∀i,i<m→i∉rows→O (t.bs i)=0:=fun t h i hi hn=>by
  rcases hO0 with g1 | g1
  ·exact absurd (g1 i hi) hn
  ·exact g1 _ (h.dead i hi hn).1
 have aWQ: ∀b t f,TT b g (cD n m E rows t f)→ ∀q,frz b (q+4) (.loc g.T 6 0 0)=some (.ptr (cD n m E rows t f).c):=fun b t f h q=>h.frz q
 have aAG: ∀t f k,oW n m E rows t→k<N→RO Tryz.prog 256 [.ptr (cD n m E rows t f).c,.sl (iv (lz N O)),.int .i64 k] (.int .i64 (gTo (fun p c=>Lp.zt m E t (atR rows p) c) (Lp.dz m E t) (fun p=>t.bs (atR rows p)) O k rows.length).sign):=fun t f k h hk=>by
  have:=Vd rows.length (n+m) (fun p c=>Lp.zt m E t (atR rows p) c) (Lp.dz m E t) (fun p=>t.bs (atR rows p)) f O k (Is h hm hn hr) hO (by omega) fun p hp=>h.lt _ (hr.lt (cU hp))
  rw[hN] at this
  rw[show(cD n m E rows t f).c=mU rows.length N (fun p c=>Lp.zt m E t (atR rows p) c) (Lp.dz m E t) (fun p=>t.bs (atR rows p)) f by rw[←hN];rfl]
  exact this
 have aKE: ∀t f k,oW n m E rows t→k<N→RO Tryz.prog 257 [.ptr (cD n m E rows t f).c,.int .i64 k] (.int .i64 (oI (lvZ (fun p c=>Lp.zt m E t (atR rows p) c) N k (fun p=>t.bs (atR rows p)) rows.length))):=fun t f k h hk=>by
  have:=Fy rows.length (n+m) (fun p c=>Lp.zt m E t (atR rows p) c) (Lp.dz m E t) (fun p=>t.bs (atR rows p)) f k (Is h hm hn hr) (by omega)
  rw[hN] at this
  rw[show(cD n m E rows t f).c=mU rows.length N (fun p c=>Lp.zt m E t (atR rows p) c) (Lp.dz m E t) (fun p=>t.bs (atR rows p)) f by rw[←hN];rfl]
  exact this
 have aOV: ∀(t:Lp.Tab) (k:Nat),RO Tryz.prog 255 [.sl (iv (lb rows.length fun p=>t.bs (atR rows p))),.int .i64 k] (.bool (decide ((k:Int)∈lb rows.length fun p=>t.bs (atR rows p)))):=fun t k=>wU _ k (by rw[Lh];have:=hr.len;omega)
 have aJC: ∀(t:Lp.Tab) (k:Nat),oW n m E rows t→((k:Int)∈lb rows.length fun p=>t.bs (atR rows p))→Lp.rc m (wO O) t k=0:=fun t k h hk=>by
  obtain⟨p,hp,e⟩:=aBC.1 hk
  rw[←e];exact Lp.mI h.z.ti _ (hr.lt (cU hp))
 have hsg: ∀t k,oW n m E rows t→k<N→_:=fun t k h hk=>Ll h hr O k (show k<n+m+1 by omega) (aAU t h)
 rw[hN]
 rw[hN] at hgO
 refine cP Tryz.func205 rfl rfl (by rw[Tryz.ntmps205];simp) ?_
 rw[Tryz.ntmps205,Tryz.results205]
 refine aE ?_
 simp
 refine aE ?_
 simp
 refine aI (fun q:aOU=> [(0,.loc g.T 6 0 0),(1,.lsl gO 1 0 N),(4,.bool false),(5,.bool q.a)]) (fun q=>q.b) (fun q=>q.j≤e∧TT q.b g (cD n m E rows (Lp.orb nxf t q.j) fr)∧(∀x y,bl x=some y→x∉g.all→q.b x=some y)∧(q.a=false→q.j=e∧Lp.fstP (Lp.okW m (wO O) (fO N fr) (Lp.orb nxf t e)) N=none)) (fun q=>2*(e - q.j)+if q.a=true then 1 else 0) _ ⟨0,true,bl⟩ ⟨Nat.zero_le _,hTT,fun _ _ h _=>h,fun h=>by cases h⟩ ⟨rfl,by simp,Sub.refl _⟩ ?_
 rintro⟨j,a,b⟩ ⟨hj,hTb,hfb,hab⟩
 simp only at hj hTb hfb hab
 have hbO:=hfb _ _ hgO hgn
 have aQI: ∀q,frz b (q+1) (.lsl gO 1 0 N)=some (.sl (iv (lz N O))):=fun q=>by have:=Nl hg0 hbO q;rwa [hlz] at this
 obtain⟨tj,htj⟩: ∃tj,Lp.orb nxf t j=tj:=⟨_,rfl⟩
 have hIj:=hI j hj
 rw[htj] at hTb hIj
 have bT:b g.T=_:=hTb.hd
 have bF:b g.F=_:=hTb.fre
 have z4T:frz b 4 (.loc g.T 6 0 0)=some (.ptr (cD n m E rows tj fr).c):=aWQ b tj fr hTb 0
 have z4O:frz b 4 (.lsl gO 1 0 N)=some (.sl (iv (lz N O))):=aQI 3
 have z1B:frz b 1 (.lsl g.B 1 0 rows.length)=some (.sl (iv (lb rows.length fun p=>tj.bs (atR rows p)))):=hTb.aJF 0
 simp only[cD,hN] at bT bF
 cases a with
 | true =>
   refine aE ?_
   simp
   refine aT ?_
   refine aC ?_
   simp[bT]
   refine aI (fun k:Nat=> [(0,.loc g.T 6 0 0),(1,.lsl gO 1 0 N),(4,.bool false),(5,.bool false),(13,.int .i64 N),(14,.int .i64 k)]) (fun _=>b) (fun k=>k≤N∧ ∀c,c<k→ ¬ Lp.okW m (wO O) (fO N fr) tj c) (fun k=>N - k) _ 0 ⟨Nat.zero_le _,fun c hc=>absurd hc (Nat.not_lt_zero _)⟩ ⟨rfl,by simp,Sub.refl _⟩ ?_
   rintro k ⟨hk,R2⟩
   have wk:IntKind.i64.wrap ((k:Int)+1)=(k:Int)+1:=i64_in (by omega) (by omega)
   refine aE ?_
   simp
   refine aE ?_
   simp
   refine⟨fun hkN=> ?_,fun hkN=> ?_⟩
   ·refine aO (aT ?_)
    refine aE ?_
    simp
    refine aE ?_
    simp
    have hs:=hsg tj k hIj hkN
    have hG:=aAG tj fr k hIj hkN
    have hC:=aOV tj k
    have hcb:=aJC tj k hIj
    generalize gTo (fun p c=>Lp.zt m E tj (atR rows p) c) (Lp.dz m E tj) (fun p=>tj.bs (atR rows p)) O k rows.length=G at hs hG
    refine bN [(0,.loc g.T 6 0 0),(1,.lsl gO 1 0 N),(4,.bool false),(5,.bool false),(6,.int .i64 k),(13,.int .i64 N),(14,.int .i64 k)] _ b 39 (.bool (open Classical in decide (¬ Lp.okW m (wO O) (fO N fr) tj k))) ⟨rfl,by simp,Sub.refl _⟩ rfl ?_ ?_
    ·cases hfk:fr k with
     | false =>
       have hno: ¬ Lp.okW m (wO O) (fO N fr) tj k:=fun h=>by have:=h.1.2;rw[hfk] at this;cases this
       simp[bT,bF,hkN,hfk,hno]
     | true =>
       simp[bT,bF,hkN,hfk]
       refine aX 1 (ys:= [.sl (iv (lb rows.length fun p=>tj.bs (atR rows p))),.int .i64 k]) (by simp[z1B];simp[frz]) hC rfl ?_
       simp
       refine⟨fun hin hok=> ?_,fun hnin=> ?_⟩
       ·have:=hok.2
        rw[hcb hin] at this;exact absurd this (by decide)
       ·refine aX 4 (ys:= [.ptr (cD n m E rows tj fr).c,.sl (iv (lz N O)),.int .i64 k]) (by simp[z4T,z4O];simp[frz]) hG rfl ?_
        simp
        have:Lp.okW m (wO O) (fO N fr) tj k ↔ 0<G:=by
         unfold Lp.okW fO
         rw[hs.1]
         exact⟨fun h=>h.2,fun h=>⟨⟨hkN,hfk⟩,h⟩⟩
        rw[this]
        by_cases hg:0<G
        ·simp[hg]
        ·simp[hg];omega
    simp
    refine⟨fun hno=> ?_,fun hok=> ?_⟩
    ·refine aC ?_
     simp[wk,aB]
     refine⟨k+1,⟨by omega,fun c hc=> ?_⟩,by omega,rfl,by simp,Sub.refl _⟩
     by_cases ec:c=k
     ·rw[ec];exact hno
     ·exact R2 c (by omega)
    have U5:Lp.fstP (Lp.okW m (wO O) (fO N fr) tj) N=some k:=Lp.dW.2 ⟨hkN,hok,R2⟩
    have hLv:=aKE tj fr k hIj hkN
    have hll:=Cm hIj hr k (by omega) rows.length (Nat.le_refl _)
    rw[List.take_length,hN] at hll
    refine aE ?_
    simp
    refine aX 4 (ys:= [.ptr (cD n m E rows tj fr).c,.int .i64 k]) (by simp[z4T];simp[frz]) hLv rfl ?_
    simp
    cases hlv:lvZ (fun p c=>Lp.zt m E tj (atR rows p) c) N k (fun p=>tj.bs (atR rows p)) rows.length with
    | none =>
      rw[hlv] at hll
      have hnn:nxf tj=none:=by
       rw[←hnx]
       cases hs2:Lp.nx (n+m) (n+m) rows (Lp.okW m (wO O) (fO (n+m) fr)) tj with
       | none => rfl
       | some q =>
         obtain⟨q1,q2⟩:=Lp.sJ.1 hs2
         rw[hN,U5] at q1
         cases q1
         rw[hN,hll] at q2;cases q2
      have hje:j=e:=by
       by_cases hlt:j<e
       ·have:=h2 j hlt
        rw[htj,hnn] at this;cases this
       ·omega
      subst hje
      rw[htj] at hF
      rw[hN] at hF
      refine aC ?_
      simp[oI]
      rw[cE]
      exact⟨[.bool false],by simp,hF b k U5 hll hTb hfb⟩
    | some p =>
      rw[hlv] at hll
      have hp:=E7 hlv
      have cO: ¬ (p:Int)<0:=by omega
      have hnn:nxf tj=some (atR rows p,k):=by
       rw[←hnx]
       exact Lp.sJ.2 ⟨by rw[hN];exact U5,by rw[hN];exact hll⟩
      have hje:j<e:=by
       by_cases hlt:j<e
       ·exact hlt
       ·have:j=e:=by omega
        rw[this] at htj
        rw[htj,hnn] at h1;cases h1
      have aV1:Lp.orb nxf t (j+1)=Lp.piv tj (atR rows p) k:=by
       rw[Lp.orb,htj,hnn]
      have hx:tj.X (atR rows p) k≠0:=by
       have:=((Lp.mF tj N k rows).2 _ hll).2.1
       grind
      obtain⟨Y,hY,hYT⟩:=Re hIj hr hp (show k<n+m by omega) hx fr
      refine aE ?_
      simp[oI,cO]
      refine aE ?_
      simp
      refine As g (cD n m E rows tj fr) p k Y hTb (Is hIj hm hn hr) hp (show k<n+m by omega) hY fun b' hT' hf'=> ?_
      simp
      refine aC ?_
      simp[aB]
      refine⟨⟨j+1,true,b'⟩,⟨by simp only;omega,?_,fun x y hx hn=>hf' x y (hfb x y hx hn) hn,fun h=>by cases h⟩,by simp only[if_true];omega,rfl,by simp,Sub.refl _⟩
      simp only
      rw[aV1]
      exact hYT b' g hT'
   ·have aDM:k=N:=by omega
    subst aDM
    have U5:Lp.fstP (Lp.okW m (wO O) (fO k fr) tj) k=none:=Lp.fD.2 R2
    have hnn:nxf tj=none:=by
     rw[←hnx,hN]
     unfold Lp.nx
     rw[U5]
    have hje:j=e:=by
     by_cases hlt:j<e
     ·have:=h2 j hlt
      rw[htj,hnn] at this;cases this
     ·omega
    subst hje
    simp[aB]
    exact⟨⟨j,false,b⟩,⟨Nat.le_refl _,by simp only;rw[htj];exact hTb,hfb,fun _=>⟨rfl,by rw[htj];exact U5⟩⟩,by simp,rfl,by simp,Sub.refl _⟩
 | false =>
   obtain⟨hje,U5⟩:=hab rfl
   subst hje
   rw[htj] at hT U5
   rw[hN] at hT
   clear hF h1 h2
   have aVB:=hgO
   refine aE ?_
   simp
   refine aE ?_
   simp[bT]
   refine aI (fun q:Dj=> [(0,.loc g.T 6 0 0),(1,.lsl gO 1 0 N),(53,.int .i64 N),(54,.int .i64 q.j)]) (fun q=>q.b) (fun q=>q.j≤N∧TT q.b g (cD n m E rows tj (frK m O tj fr q.j))∧(∀x y,bl x=some y→x∉g.all→q.b x=some y)) (fun q=>N - q.j) _ ⟨0,b⟩ ⟨Nat.zero_le _,by simp only;rw[Rq];exact hTb,hfb⟩ ⟨rfl,by simp,Sub.refl _⟩ ?_
   clear hbO aQI bT bF z4T z4O z1B hTb hfb hgO
   rintro⟨k,b⟩ ⟨hk,hTb,hfb⟩
   simp only at hk hTb hfb
   have wk:IntKind.i64.wrap ((k:Int)+1)=(k:Int)+1:=i64_in (by omega) (by omega)
   have hbO:=hfb _ _ aVB hgn
   have z4O:frz b 4 (.lsl gO 1 0 N)=some (.sl (iv (lz N O))):=by have:=Nl hg0 hbO 3;rwa [hlz] at this
   have z4T:frz b 4 (.loc g.T 6 0 0)=some (.ptr (cD n m E rows tj (frK m O tj fr k)).c):=hTb.frz 0
   have z1B:frz b 1 (.lsl g.B 1 0 rows.length)=some (.sl (iv (lb rows.length fun p=>tj.bs (atR rows p)))):=hTb.aJF 0
   have bT:b g.T=_:=hTb.hd
   have bF:b g.F=_:=hTb.fre
   simp only[cD,hN] at bT bF
   refine aE ?_
   simp
   refine aE ?_
   simp
   refine⟨fun hkN=> ?_,fun hkN=> ?_⟩
   ·refine aO (aT ?_)
    refine aE ?_
    simp
    refine aE ?_
    simp
    have hs:=hsg tj k hIj hkN
    have hG:=aAG tj (frK m O tj fr k) k hIj hkN
    have hC:=aOV tj k
    have hcb:=aJC tj k hIj
    have hfk:frK m O tj fr k k=fr k:=by unfold frK;rw[if_neg (by omega)]
    generalize gTo (fun p c=>Lp.zt m E tj (atR rows p) c) (Lp.dz m E tj) (fun p=>tj.bs (atR rows p)) O k rows.length=G at hs hG
    refine bN [(0,.loc g.T 6 0 0),(1,.lsl gO 1 0 N),(8,.int .i64 k),(53,.int .i64 N),(54,.int .i64 k)] _ b 79 (.bool (open Classical in fr k && decide (Lp.rc m (wO O) tj k<0))) ⟨rfl,by simp,Sub.refl _⟩ rfl ?_ ?_
    ·cases hfk2:fr k with
     | false =>
       rw[hfk2] at hfk
       simp[bT,bF,hkN,hfk]
     | true =>
       rw[hfk2] at hfk
       simp[bT,bF,hkN,hfk]
       refine aX 1 (ys:= [.sl (iv (lb rows.length fun p=>tj.bs (atR rows p))),.int .i64 k]) (by simp[z1B];simp[frz]) hC rfl ?_
       simp
       have e2:Lp.rc m (wO O) tj k<0 ↔ G<0:=hs.2.symm
       by_cases hin:(k:Int)∈lb rows.length fun p=>tj.bs (atR rows p)
       ·have: ¬ Lp.rc m (wO O) tj k<0:=by rw[hcb hin];decide
        simp[hin,this]
       ·simp[hin]
        refine aX 4 (ys:= [.ptr (cD n m E rows tj (frK m O tj fr k)).c,.sl (iv (lz N O)),.int .i64 k]) (by simp[z4T,z4O];simp[frz]) hG rfl ?_
        simp
        rw[e2]
    have Bo: ∀c,frK m O tj fr (k+1) c=if c=k then(open Classical in fr k && !decide (Lp.rc m (wO O) tj k<0)) else frK m O tj fr k c:=fun c=>by
     unfold frK
     by_cases e1:c=k
     ·subst e1;rw[if_pos (by omega),if_pos rfl]
     ·rw[if_neg e1]
      by_cases e2:c<k
      ·rw[if_pos (by omega),if_pos e2]
      ·rw[if_neg (by omega),if_neg e2]
    have nds:=hTb.nd
    simp
    refine aC ?_
    simp
    refine⟨fun h1 h2=> ?_,fun hno=> ?_⟩
    ·simp[bT,bF,hkN]
     refine aC ?_
     simp[wk,aB]
     have e1:(lv N (frK m O tj fr k)).set k [.bool false]=lv N (frK m O tj fr (k+1)):=by
      rw[He _ _ hkN]
      unfold lv
      refine List.map_congr_left fun c _=> ?_
      rw[Bo c]
      show [V.bool (if c=k then false else frK m O tj fr k c)]=_
      by_cases e:c=k
      ·rw[if_pos e,if_pos e];simp[h1,h2]
      ·rw[if_neg e,if_neg e]
     rw[e1]
     refine⟨⟨k+1,upd b g.F (some ⟨1,lv N (frK m O tj fr (k+1))⟩)⟩,⟨by simp only;omega,?_,fun x y hx hn=> ?_⟩,by simp only;omega,rfl,by simp,Sub.refl _⟩
     ·simp only[List.nodup_cons,List.mem_cons,not_or] at nds
      obtain⟨⟨nTR,nTB,nTF,nTi⟩,⟨nRB,nRF,nRi⟩,⟨nBF,nBi⟩,nFi,_⟩:=nds
      show TT (upd b g.F (some ⟨1,lv N (frK m O tj fr (k+1))⟩)) g (cD n m E rows tj (frK m O tj fr (k+1)))
      refine⟨hTb.fM.cZ fun x y hx hy=> ?_,?_,?_,?_,hTb.pT,hTb.pR,hTb.pB,hTb.pF,hTb.nd⟩
      ·rw[aG _ _ _ _ (by rintro rfl;rcases hx with hx | hx;exact nRF hx.symm;exact nFi hx)];exact hy
      ·rw[aG _ _ _ _ nTF];exact hTb.hd
      ·rw[aG _ _ _ _ nBF];exact hTb.ba
      ·simp[cD,hN]
     ·simp only
      rw[aG _ _ _ _ (by rintro rfl;exact hn (by simp[TG.all]))];exact hfb x y hx hn
    ·refine aC ?_
     simp[wk,aB]
     refine⟨⟨k+1,b⟩,⟨by simp only;omega,?_,hfb⟩,by simp only;omega,rfl,by simp,Sub.refl _⟩
     have e1:frK m O tj fr (k+1)=frK m O tj fr k:=by
      funext c
      rw[Bo c]
      by_cases e:c=k
      ·subst e
       rw[if_pos rfl,hfk]
       cases hfc:fr c with
       | false => rfl
       | true => have := hno hfc; simp; grind
      ·rw[if_neg e]
     simp only
     rw[e1];exact hTb
   ·have aDM:k=N:=by omega
    subst aDM
    refine aC ?_
    simp
    rw[cE]
    exact⟨[.bool true],by simp,hT b U5 hTb hfb⟩

def gK (n m:Nat) (t:Lp.Tab) (j:Nat):List Nat:=Lp.bO n t j++(List.range (m - j)).map (j+ ·)
theorem uM {n m j:Nat} (t:Lp.Tab) (hj:j≤m):gK n m t j=(List.range m).filter fun x=>decide (j≤x)|| decide (t.bs x<n):=by
 obtain⟨d,rfl⟩: ∃d,m=j+d:=⟨m - j,by omega⟩
 rw[List.range_add,List.filter_append]
 unfold gK Lp.bO
 rw[show j+d - j=d by omega]
 congr 1
 ·refine List.filter_congr fun x hx=> ?_
  have:x<j:=by simpa using hx
  rw[decide_eq_false (show ¬ j≤x by omega),Bool.false_or]
 ·symm
  rw[List.filter_eq_self]
  intro x hx
  obtain⟨y,_,rfl⟩:=List.mem_map.1 hx
  simp
theorem Fe {n m j:Nat} (t:Lp.Tab) (hj:j≤m):Rows m (gK n m t j):=⟨_,uM t hj⟩
theorem O5 {n m j x:Nat} {t:Lp.Tab} (hj:j≤m):x∈gK n m t j ↔ x<m∧(j≤x∨t.bs x<n):=by
 rw[uM t hj,List.mem_filter]
 simp
theorem Kb (n m j:Nat) (t:Lp.Tab):(gK n m t j).length=(Lp.bO n t j).length+(m - j):=by simp[gK]
theorem Pf {n m j:Nat} {t:Lp.Tab} (hj:j<m):atR (gK n m t j) (Lp.bO n t j).length=j:=by
 unfold atR gK
 rw[List.getD_eq_getElem?_getD,List.getElem?_append_right (Nat.le_refl _),Nat.sub_self,List.getElem?_eq_getElem (by simp;omega)]
 simp
theorem Er (n m:Nat) (t:Lp.Tab):gK n m t 0=List.range m:=by
 have e:(fun x=>0+x)=(id:Nat→Nat):=by funext x;simp
 unfold gK Lp.bO
 simp only[Nat.sub_zero,List.range_zero,List.filter_nil,List.nil_append]
 rw[show(List.range m).map (0+ ·)=(List.range m).map id from congrArg (fun f=>(List.range m).map f) e,List.map_id]
theorem La (n m:Nat) (t:Lp.Tab):gK n m t m=Lp.bO n t m:=by simp[gK]
theorem wA (n j:Nat) (t:Lp.Tab):Lp.bO n t (j+1)=if t.bs j<n then Lp.bO n t j++ [j] else Lp.bO n t j:=by
 unfold Lp.bO
 rw[List.range_succ,List.filter_append]
 by_cases h:t.bs j<n<;>simp[h]
theorem Fg {n j:Nat} {t t':Lp.Tab} (h: ∀x,x<j→t.bs x=t'.bs x):Lp.bO n t j=Lp.bO n t' j:=by
 unfold Lp.bO
 exact List.filter_congr fun x hx=>by rw[h x (by simpa using hx)]
theorem E9 {n m j:Nat} {t t':Lp.Tab} (hj:j<m) (h: ∀x,x<j→t.bs x=t'.bs x) (hb:t'.bs j<n):gK n m t' (j+1)=gK n m t j∧(Lp.bO n t' (j+1)).length=(Lp.bO n t j).length+1:=by
 have e:(List.range (m - j)).map (j+ ·)=j::(List.range (m - (j+1))).map (j+1+ ·):=by
  rw[show m - j=(m - (j+1))+1 by omega,List.range_succ_eq_map,List.map_cons,List.map_map]
  congr 1
  exact List.map_congr_left fun x _=>by simp;omega
 have e2:Lp.bO n t' (j+1)=Lp.bO n t j++ [j]:=by rw[wA,if_pos hb,Fg h]
 unfold gK
 rw[e2,e]
 simp
theorem Ep {n m j:Nat} {t:Lp.Tab} (hj:j<m) (hb: ¬ t.bs j<n):gK n m t (j+1)=(gK n m t j).take (Lp.bO n t j).length++(gK n m t j).drop ((Lp.bO n t j).length+1)∧Lp.bO n t (j+1)=Lp.bO n t j:=by
 have e:(List.range (m - j)).map (j+ ·)=j::(List.range (m - (j+1))).map (j+1+ ·):=by
  rw[show m - j=(m - (j+1))+1 by omega,List.range_succ_eq_map,List.map_cons,List.map_map]
  congr 1
  exact List.map_congr_left fun x _=>by simp;omega
 have e2:Lp.bO n t (j+1)=Lp.bO n t j:=by rw[wA,if_neg hb]
 refine⟨?_,e2⟩
 unfold gK
 rw[e2,e,List.take_append_of_le_length (Nat.le_refl _),List.take_length,List.drop_append,List.drop_eq_nil_of_le (by omega),Nat.add_sub_cancel_left]
 rfl
theorem Kw {n m j:Nat} {E:Nat→Nat→Rat} {t:Lp.Tab} (h:Lp.L1 n m (n+m+1) 1000 E j t) (hj:j≤m):oW n m E (gK n m t j) t:=
 ⟨h.z,h.nn,fun i hi=>((O5 hj).1 hi).1,fun i hi hn=>by
   have: ¬ (j≤i∨t.bs i<n):=fun h=>hn ((O5 hj).2 ⟨hi,h⟩)
   have hb: ¬ t.bs i<n:=fun h=>this (.inr h)
   exact⟨by omega,h.zero i hi hb,h.done i (by omega) hb⟩,h.lt⟩
theorem Ho (rows:List Nat) (i p:Nat) (hi:i<rows.length) (hp:p<rows.length - 1):atR (rows.take i++rows.drop (i+1)) p=atR rows (if p<i then p else p+1):=by
 unfold atR
 rw[List.getD_eq_getElem?_getD,List.getD_eq_getElem?_getD]
 congr 1
 by_cases h:p<i
 ·rw[if_pos h,List.getElem?_append_left (by simp;omega),List.getElem?_take,if_pos h]
 ·rw[if_neg h,List.getElem?_append_right (by simp;omega),List.length_take,Nat.min_eq_left (by omega),List.getElem?_drop,show i+1+(p - i)=p+1 by omega]
theorem S0 {α:Type} (l:List α) (i p:Nat) (hi:i<l.length):(l.take i++l.drop (i+1))[p]? =if p<i then l[p]? else l[p+1]? :=by
 by_cases h:p<i
 ·rw[if_pos h,List.getElem?_append_left (by simp;omega),List.getElem?_take,if_pos h]
 ·rw[if_neg h,List.getElem?_append_right (by simp;omega),List.length_take,Nat.min_eq_left (by omega),List.getElem?_drop,show i+1+(p - i)=p+1 by omega]
theorem TT.cut {b b':Int→Option Blk} {g:TG} {n m:Nat} {E:Nat→Nat→Rat} {rows:List Nat} {t:Lp.Tab} {fr:Nat→Bool} (h:TT b g (cD n m E rows t fr)) {i:Nat} (hi:i<rows.length) (gR gB:Int)
  (hR:b' gR=some ⟨1,(g.ids.take i++g.ids.drop (i+1)).map fun g=> [.lsl g 2 0 (n+m+1)]⟩) (hB:b' gB=some ⟨1,(iv (lb rows.length fun p=>t.bs (atR rows p))).take i++(iv (lb rows.length fun p=>t.bs (atR rows p))).drop (i+1)⟩)
  (hT:b' g.T=some ⟨6,[[.lsl gR 1 0 (rows.length - 1),.bool (decide (Lp.dz m E t<0)),.sl (iv (lim (Lp.dz m E t).natAbs)),.lsl gB 1 0 (rows.length - 1),.int .i64 (n+m:Nat),.lsl g.F 1 0 (n+m)]]⟩)
  (hF:b' g.F=b g.F) (hid: ∀x,x∈g.ids→b' x=b x) (nR:gR<0→rows.length - 1=0) (nB:gB<0→rows.length - 1=0) (hd:(g.T::gR::gB::g.F::g.ids).Nodup):
  TT b' ⟨g.T,gR,gB,g.F,g.ids.take i++g.ids.drop (i+1)⟩ (cD n m E (rows.take i++rows.drop (i+1)) t fr):=by
 have hl:=h.fM.len
 simp only[cD] at hl
 have jZ: ∀x,x∈g.ids.take i++g.ids.drop (i+1)→x∈g.ids:=fun x hx=>by
  rcases List.mem_append.1 hx with hx | hx
  ·exact List.mem_of_mem_take hx
  ·exact List.mem_of_mem_drop hx
 have hrl:(rows.take i++rows.drop (i+1)).length=rows.length - 1:=by simp;omega
 have hil:(g.ids.take i++g.ids.drop (i+1)).length=rows.length - 1:=by simp;omega
 have hsl:(g.ids.take i++g.ids.drop (i+1)).Sublist g.ids:=by
  conv=>rhs;rw[←List.take_append_drop i g.ids]
  refine List.Sublist.append (List.Sublist.refl _) ?_
  rw[←List.drop_drop]
  exact List.drop_sublist _ _
 refine⟨⟨by simp only[cD];rw[hil,hrl],hR,fun p x hp=> ?_,fun x hx=>h.fM.pos x (jZ x hx),fun p q x hp hq=> ?_,fun hm=> ?_⟩,?_,?_,?_,h.pT,?_,?_,h.pF,?_⟩
 ·have hlt:p<rows.length - 1:=by rw[←hil];exact(List.getElem?_eq_some_iff.1 hp).1
  rw[hid x (jZ x (List.mem_of_getElem? hp))]
  rw[S0 _ _ _ (by omega)] at hp
  simp only[cD]
  rw[Ho _ _ _ hi hlt]
  split at hp
  ·rename_i h1;rw[if_pos h1];exact h.fM.row p x hp
  ·rename_i h1;rw[if_neg h1];exact h.fM.row (p+1) x hp
 ·rw[S0 _ _ _ (by omega)] at hp hq
  split at hp<;>split at hq
  ·exact h.fM.inj p q x hp hq
  ·have:=h.fM.inj p (q+1) x hp hq;omega
  ·have:=h.fM.inj (p+1) q x hp hq;omega
  ·have:=h.fM.inj (p+1) (q+1) x hp hq;omega
 ·simp only[List.nodup_cons,List.mem_cons,not_or] at hd
  exact hd.2.1.2.2 (jZ _ hm)
 ·simp only[cD];rw[hrl];exact hT
 ·simp only[cD];rw[hB]
  congr 2
  apply List.ext_getElem?
  intro p
  rw[S0 _ _ _ (by simpa using hi),hrl]
  by_cases hp:p<rows.length - 1
  ·have e1:=Ho rows i p hi hp
   rw[List.getElem?_eq_getElem (show p<(iv (lb (rows.length - 1) fun p=>t.bs (atR (rows.take i++rows.drop (i+1)) p))).length by simpa using hp),pV,zW,e1]
   split
   ·rename_i h1
    rw[List.getElem?_eq_getElem (by simp;omega),pV,zW]
   ·rename_i h1
    rw[List.getElem?_eq_getElem (by simp;omega),pV,zW]
  ·rw[if_neg (by omega),List.getElem?_eq_none (by simp;omega),List.getElem?_eq_none (by simp;omega)]
 ·simp only[cD];rw[hF];exact h.fre
 ·simp only[cD];rw[hrl];exact nR
 ·simp only[cD];rw[hrl];exact nB
 ·simp only[List.nodup_cons,List.mem_cons,not_or] at hd ⊢
  obtain⟨⟨a1,a2,a3,a4⟩,⟨b1,b2,b3⟩,⟨c1,c2⟩,d1,d2⟩:=hd
  exact⟨⟨a1,a2,a3,fun h=>a4 (jZ _ h)⟩,⟨b1,b2,fun h=>b3 (jZ _ h)⟩,⟨c1,fun h=>c2 (jZ _ h)⟩,fun h=>d1 (jZ _ h),List.Pairwise.sublist hsl d2⟩

theorem Ih {b:Int→Option Blk} {g:Int} {els:List (List V)} {L i:Nat} (h0:0≤g) (hb:b g=some ⟨1,els⟩) (hl:els.length=L) (hi:i+1≤L):
  ∃x,(if(i:Int)+1=0 then some (V.lsl g 1 0 L) else if(i:Int)+1=(L:Int) then some (V.sl []) else some (V.lsl g 1 (i+1) (L - (i+1))))=some x∧elsV b 1 x=some (els.drop (i+1)):=by
 rw[if_neg (by omega)]
 by_cases h:i+1=L
 ·rw[if_pos (by omega)]
  refine⟨_,rfl,?_⟩
  rw[List.drop_eq_nil_of_le (by omega)]
  simp[elsV]
 ·rw[if_neg (by omega)]
  refine⟨_,rfl,?_⟩
  simp only[elsV]
  rw[if_neg (by omega),hb]
  simp only
  rw[if_pos (by simp;omega),List.take_of_length_le (by simp;omega)]
structure aJZ where
 j:Nat
 g:TG
 b:Int→Option Blk
set_option maxHeartbeats 1000000 in
theorem Pu {bl:Int→Option Blk} {K:V→(Int→Option Blk)→Prop} (n m:Nat) (E:Nat→Nat→Rat) (g:TG) (t:Lp.Tab) (fr:Nat→Bool) (hm:m≤17) (hn:n+m≤100) (hk0:Lp.L1 n m (n+m+1) 1000 E 0 t) (hTT:TT bl g (cD n m E (List.range m) t fr))
  (hK: ∀b' g',g'.T=g.T→g'.F=g.F→TT b' g' (cD n m E (Lp.bO n (Lp.kicks n t m) m) (Lp.kicks n t m) fr)→(∀x,x∈g'.all→x∈g.all∨bl x=none)→(∀x y,bl x=some y→x∉g.all→b' x=some y)→K (.tup []) b'):
  cH Tryz.prog 206 [.loc g.T 6 0 0,.int .i64 n] bl K:=by
 have hkk:=Lp.kL hk0 (show n≤n+m+1 by omega)
 refine cP Tryz.func206 rfl rfl (by rw[Tryz.ntmps206];simp) ?_
 rw[Tryz.ntmps206,Tryz.results206]
 refine aC ?_
 simp
 refine aI (fun q:aJZ=> [(0,.loc g.T 6 0 0),(1,.int .i64 n),(4,.int .i64 (Lp.bO n (Lp.kicks n t q.j) q.j).length)]) (fun q=>q.b) (fun q=>q.j≤m∧TT q.b q.g (cD n m E (gK n m (Lp.kicks n t q.j) q.j) (Lp.kicks n t q.j) fr)∧q.g.T=g.T∧q.g.F=g.F∧(∀x,x∈q.g.all→x∈g.all∨bl x=none)∧(∀x y,bl x=some y→x∉g.all→q.b x=some y)) (fun q=>m - q.j) _ ⟨0,g,bl⟩ ⟨Nat.zero_le _,by simp only[Lp.kicks];rw[Er];exact hTT,rfl,rfl,fun x hx=> .inl hx,fun _ _ h _=>h⟩ ⟨rfl,by simp[Lp.bO],Sub.refl _⟩ ?_
 rintro⟨j,⟨gT,gR,gB,gF,ids⟩,b⟩ ⟨hj,hTb,rfl,rfl,hal,hfb⟩
 simp only at hj hTb hal hfb
 obtain⟨tj,htj⟩: ∃tj,Lp.kicks n t j=tj:=⟨_,rfl⟩
 have hkj:=hkk j hj
 rw[htj] at hTb hkj
 have hI:=Kw hkj hj
 have hR:=Fe (n:=n) tj hj
 have hlen:=Kb n m j tj
 have hrl:=hR.len
 have bT:b g.T=_:=hTb.hd
 have bB:b gB=_:=hTb.ba
 have bG:b gR=_:=hTb.fM.top
 simp only[cD] at bT bB bG
 have qE: ∀(q:Nat),Lp.kicks n t (j+1)=Lp.lT n tj j:=fun _=>by rw[Lp.kicks,htj]
 obtain⟨i,hi⟩: ∃i,(Lp.bO n tj j).length=i:=⟨_,rfl⟩
 rw[hi] at hlen
 have wi:IntKind.i64.wrap ((i:Int)+1)=(i:Int)+1:=i64_in (by omega) (by omega)
 refine aE ?_
 simp[bT,htj,hi]
 refine⟨fun hlt=> ?_,fun hlt=> ?_⟩
 ·have hjm:j<m:=by omega
  have hat:=Pf (n:=n) (t:=tj) hjm
  rw[hi] at hat
  have hiR:i<(gK n m tj j).length:=by omega
  obtain⟨gi,hgi,zJ,yZ,nT⟩:=hTb.fM.at i (by simp only[cD];exact hiR)
  simp only[cD] at nT
  refine aT ?_
  refine aE ?_
  simp[bT,bB,hiR,hat]
  refine⟨fun hbj=> ?_,fun hbj=> ?_⟩
  ·have ek:Lp.kicks n t (j+1)=tj:=by
    rw[qE 0];unfold Lp.lT;rw[if_pos hbj]
   obtain⟨e1,e2⟩:=E9 (n:=n) (t:=tj) (t':=tj) hjm (fun _ _=>rfl) hbj
   simp[wi,aB]
   refine⟨⟨j+1,⟨g.T,gR,gB,g.F,ids⟩,b⟩,⟨by simp only;omega,by simp only;rw[ek,e1];exact hTb,rfl,rfl,hal,hfb⟩,by simp only;omega,rfl,?_,Sub.refl _⟩
   simp[ek,e2,hi]
  have hnb: ¬ tj.bs j<n:=by omega
  have hzs: ∀c,c<n+m+1→_:=fun c hc=>Lp.sG hkj.z hjm hc
  refine aE ?_
  simp
  refine aC ?_
  simp
  refine aI (fun k:Nat=> [(0,.loc g.T 6 0 0),(1,.int .i64 n),(4,.int .i64 i),(5,.int .i64 k)]) (fun _=>b) (fun k=>k≤n∧ ∀c,c<k→ ¬ tj.X j c≠0) (fun k=>n - k) _ 0 ⟨Nat.zero_le _,fun c hc=>absurd hc (Nat.not_lt_zero _)⟩ ⟨rfl,by simp,Sub.refl _⟩ ?_
  rintro k ⟨hk,bH⟩
  have wk:IntKind.i64.wrap ((k:Int)+1)=(k:Int)+1:=i64_in (by omega) (by omega)
  refine aC ?_
  simp
  refine bN [(0,.loc g.T 6 0 0),(1,.int .i64 n),(4,.int .i64 i),(5,.int .i64 k)] _ b 40 (.bool (decide (k<n∧Lp.zt m E tj j k=0))) ⟨rfl,by simp,Sub.refl _⟩ rfl ?_ ?_
  ·by_cases hkn:k<n
   ·have e3:(k:Int)<(n:Int)+m+1:=by omega
    simp[hkn,bT,bG,hiR,hgi,nT,hat,show k<n+m+1 by omega,e3]
    refine aD (mV _) ?_
    simp[Int.sign_eq_zero_iff_zero]
    by_cases h0:Lp.zt m E tj j k=0<;>simp[h0]
   ·simp[hkn]
  simp
  refine⟨fun hkn h0=> ?_,fun hno=> ?_⟩
  ·simp[wk,aB]
   refine⟨k+1,⟨by omega,fun c hc=> ?_⟩,by omega,rfl,by simp,Sub.refl _⟩
   by_cases ec:c=k
   ·rw[ec];exact(hzs k (by omega)).2.1 h0
   ·have:=bH c (by omega);grind
  ·refine⟨fun hkn=> ?_,fun hkn=> ?_⟩
   ·have hx:tj.X j k≠0:=fun h0=>hno hkn ((hzs k (by omega)).2.2 h0)
    have ek:Lp.kicks n t (j+1)=Lp.piv tj j k:=by
     rw[qE 0];unfold Lp.lT;rw[if_neg hnb,Lp.dW.2 ⟨hkn,hx,bH⟩]
    obtain⟨Y,hY,hYT⟩:=Re hI hR hiR (show k<n+m by omega) (by rw[hat];exact hx) fr
    rw[hat] at hYT
    obtain⟨e1,e2⟩:=E9 (n:=n) (t:=tj) (t':=Lp.piv tj j k) hjm (fun x hx=>(Lp.dE tj k (show x≠j by omega)).symm) (by rw[Lp.eE];exact hkn)
    refine As ⟨g.T,gR,gB,g.F,ids⟩ (cD n m E (gK n m tj j) tj fr) i k Y hTb (Is hI hm hn hR) hiR (show k<n+m by omega) hY fun b' hT' hf'=> ?_
    simp[wi,aB]
    refine⟨⟨j+1,⟨g.T,gR,gB,g.F,ids⟩,b'⟩,⟨by simp only;omega,by simp only;rw[ek,e1];exact hYT b' _ hT',rfl,rfl,hal,fun x y hx hn=> ?_⟩,by simp only;omega,rfl,?_,Sub.refl _⟩
    ·have h1:=hfb x y hx hn
     refine hf' x y h1 fun hm2=> ?_
     rcases hal x hm2 with h2 | h2
     ·exact hn h2
     ·rw[h2] at hx;cases hx
    ·simp[ek,e2,hi]
   ·have ek:Lp.kicks n t (j+1)=tj:=by
     rw[qE 0];unfold Lp.lT;rw[if_neg hnb,Lp.fD.2 fun c hc=>bH c (by omega)]
    obtain⟨e1,e2⟩:=Ep (n:=n) (t:=tj) hjm hnb
    rw[hi] at e1
    have nds:=hTb.nd
    simp only[List.nodup_cons,List.mem_cons,not_or] at nds
    obtain⟨⟨nTR,nTB,nTF,nTi⟩,⟨nRB,nRF,nRi⟩,⟨nBF,nBi⟩,nFi,Vw⟩:=nds
    have hil:=hTb.fM.len
    simp only[cD] at hil
    generalize hL:(gK n m tj j).length=L at *
    refine dK aL (rem b gR) (eH b gR) [0,1,2,3,4,5,6,7,8,9,10,11,12,13] 4 17 (by kernel_rfl) ?_
    have q1:i≤L:=by omega
    have q2:i+1≤L:=by omega
    have q3:(i:Int)≤L:=by omega
    have q4:(i:Int)+1≤L:=by omega
    have q5:0≤(i:Int)+1:=by omega
    have q6:((i:Int)+1).toNat=i+1:=by omega
    have aL5:0≤gR:=by
     rcases Int.lt_or_le gR 0 with h9 | h9
     ·have:=hTb.pR h9;simp only[cD] at this;omega
     ·exact h9
    obtain⟨x1,hx1,hx2⟩:=Ih (b:=b) (g:=gR) (els:=ids.map fun g=> [V.lsl g 2 0 (n+m+1)]) (L:=L) (i:=i) aL5 bG (by simp[hil]) q2
    simp[nTR,bT,wi,sliV,q1,q2,q3,q4,q5,q6,aL5,hx1]
    refine Dq 14 false ?_
    simp[appV,hx2,bG,hil]
    rw[if_pos q1,←List.map_take,←List.map_drop,←List.map_append]
    have hcl:(ids.take i++ids.drop (i+1)).length=L - 1:=by simp;omega
    generalize A8:ids.take i++ids.drop (i+1)=nids at hcl
    simp[hcl]
    refine⟨by omega,fun gN hgN hbN=> ?_⟩
    have iO: ∀X,Sub (rem b gR) (upd (rem b gR) gN X):=fun X z y hz=>by
     rw[aF] at hz
     rw[aA,aF]
     grind
    have nNT: ¬ gN=g.T:=fun e=>by have:=hbN (by rw[e];exact nTR);rw[e,bT] at this;cases this
    have nNB: ¬ gN=gB:=fun e=>by have:=hbN (by rw[e];exact Ne.symm nRB);rw[e,bB] at this;cases this
    have bF:b g.F=_:=hTb.fre
    have nNF: ¬ gN=g.F:=fun e=>by have:=hbN (by rw[e];exact Ne.symm nRF);rw[e,bF] at this;cases this
    have nNi:gN∉ids:=fun hm2=>by
     obtain⟨q,hq⟩:=List.mem_iff_getElem?.1 hm2
     have:=hbN fun e=>nRi (e▸hm2)
     rw[hTb.fM.row q gN hq] at this;cases this
    refine⟨iO _,Dq 15 false ?_⟩
    simp
    refine⟨iO _,Dq 16 false ?_⟩
    simp
    refine⟨iO _,Dq 17 true ?_⟩
    simp[Ne.symm nNT,nTR,bT]
    refine Dd ?_
    obtain⟨b1,hb1⟩: ∃b1,b1=upd (upd (rem b gR) gN (some ⟨1,nids.map fun g=> [.lsl g 2 0 (n+m+1)]⟩)) g.T (some ⟨6,[[.lsl gN 1 0 (L - 1),.bool (decide (Lp.dz m E tj<0)),.sl (iv (lim (Lp.dz m E tj).natAbs)),.lsl gB 1 0 L,.int .i64 (n+m:Nat),.lsl g.F 1 0 (n+m)]]⟩):=⟨_,rfl⟩
    have c1T:b1 g.T=some ⟨6,[[.lsl gN 1 0 (L - 1),.bool (decide (Lp.dz m E tj<0)),.sl (iv (lim (Lp.dz m E tj).natAbs)),.lsl gB 1 0 L,.int .i64 (n+m:Nat),.lsl g.F 1 0 (n+m)]]⟩:=by rw[hb1];simp
    have c1N:b1 gN=some ⟨1,nids.map fun g=> [.lsl g 2 0 (n+m+1)]⟩:=by rw[hb1];simp[nNT]
    have c1: ∀x,x≠g.T→x≠gN→x≠gR→b1 x=b x:=fun x x1 x2 x3=>by rw[hb1,aG _ _ _ _ x1,aG _ _ _ _ x2,aF,if_neg x3]
    have c1B:b1 gB=b gB:=c1 gB (Ne.symm nTB) (Ne.symm nNB) (Ne.symm nRB)
    rw[bB] at c1B
    refine dJ [(0,.loc g.T 6 0 0),(1,.int .i64 n),(4,.int .i64 i),(5,.int .i64 k)] 86 b1 ⟨rfl,by simp,by rw[hb1];exact sub_eq rfl⟩ ?_
    clear hb1
    have aLZ:0≤gB:=by
     rcases Int.lt_or_le gB 0 with h9 | h9
     ·have:=hTb.pB h9;simp only[cD] at this;omega
     ·exact h9
    obtain⟨bas,Nu⟩: ∃x,iv (lb L fun p=>tj.bs (atR (gK n m tj j) p))=x:=⟨_,rfl⟩
    have hbl:bas.length=L:=by rw[←Nu];simp
    rw[Nu] at c1B
    refine dK aL (rem b1 gB) (eH b1 gB) [0,1,2,3,4,5,6,7,8,9,10,11,12,13] 4 17 (by kernel_rfl) ?_
    obtain⟨x2,hx3,hx4⟩:=Ih (b:=b1) (g:=gB) (els:=bas) (L:=L) (i:=i) aLZ c1B hbl q2
    simp[nTB,c1T,wi,sliV,q1,q2,q3,q4,q5,q6,aLZ,hx3]
    refine Dq 14 false ?_
    simp[appV,hx4,c1B,hbl]
    rw[if_pos q1]
    have Nv:(bas.take i++bas.drop (i+1)).length=L - 1:=by simp;omega
    generalize hnb2:bas.take i++bas.drop (i+1)=nbas at Nv
    simp[Nv]
    refine⟨by omega,fun gM hgM hbM=> ?_⟩
    have mL: ∀X,Sub (rem b1 gB) (upd (rem b1 gB) gM X):=fun X z y hz=>by
     rw[aF] at hz
     rw[aA,aF]
     grind
    have mMT: ¬ gM=g.T:=fun e=>by have:=hbM (by rw[e];exact nTB);rw[e,c1T] at this;cases this
    have mMN: ¬ gM=gN:=fun e=>by have:=hbM (by rw[e];exact nNB);rw[e,c1N] at this;cases this
    have c1F:b1 g.F=b g.F:=c1 g.F (Ne.symm nTF) (Ne.symm nNF) (Ne.symm nRF)
    have mMF: ¬ gM=g.F:=fun e=>by have:=hbM (by rw[e];exact Ne.symm nBF);rw[e,c1F,bF] at this;cases this
    have c1i: ∀x,x∈ids→b1 x=b x:=fun x hx=>c1 x (fun e=>nTi (e▸hx)) (fun e=>nNi (e▸hx)) (fun e=>nRi (e▸hx))
    have mMi:gM∉ids:=fun hm2=>by
     obtain⟨q,hq⟩:=List.mem_iff_getElem?.1 hm2
     have:=hbM fun e=>nBi (e▸hm2)
     rw[c1i gM hm2,hTb.fM.row q gM hq] at this;cases this
    refine⟨mL _,Dq 15 false ?_⟩
    simp
    refine⟨mL _,Dq 16 false ?_⟩
    simp
    refine⟨mL _,Dq 17 true ?_⟩
    simp[Ne.symm mMT,nTB,c1T]
    refine Dd ?_
    simp[aB]
    obtain⟨b2,hb2⟩: ∃b2,b2=(upd (upd (rem b1 gB) gM (some ⟨1,nbas⟩)) g.T (some ⟨6,[[.lsl gN 1 0 (L - 1),.bool (decide (Lp.dz m E tj<0)),.sl (iv (lim (Lp.dz m E tj).natAbs)),.lsl gM 1 0 (L - 1),.int .i64 (n+m:Nat),.lsl g.F 1 0 (n+m)]]⟩)):=⟨_,rfl⟩
    have hbF:b2 g.F=b g.F:=by rw[hb2];simp[Ne.symm nTF,Ne.symm mMF,Ne.symm nBF,c1F]
    have aWE:b2 gN=some ⟨1,nids.map fun g=> [.lsl g 2 0 (n+m+1)]⟩:=by rw[hb2];simp[nNT,Ne.symm mMN,nNB,c1N]
    have aU8:b2 gM=some ⟨1,nbas⟩:=by rw[hb2];simp[mMT]
    have aUD:b2 g.T=some ⟨6,[[.lsl gN 1 0 (L - 1),.bool (decide (Lp.dz m E tj<0)),.sl (iv (lim (Lp.dz m E tj).natAbs)),.lsl gM 1 0 (L - 1),.int .i64 (n+m:Nat),.lsl g.F 1 0 (n+m)]]⟩:=by rw[hb2];simp
    have aWS: ∀x,x∈ids→b2 x=b x:=fun x hx=>by
     have x1:x≠g.T:=fun e=>nTi (e▸hx)
     have x2:x≠gM:=fun e=>mMi (e▸hx)
     have x3:x≠gB:=fun e=>nBi (e▸hx)
     rw[hb2,aG _ _ _ _ x1,aG _ _ _ _ x2,aF,if_neg x3];exact c1i x hx
    have aVQ: ∀x,x≠g.T→x≠gM→x≠gB→b2 x=b1 x:=fun x x1 x2 x3=>by rw[hb2,aG _ _ _ _ x1,aG _ _ _ _ x2,aF,if_neg x3]
    have aNS:=hTb.cut (b':=b2) (i:=i) (by rw[hL];exact q2) gN gM (by rw[aWE,A8]) (by rw[aU8];simp only[hL,Nu,hnb2]) (by rw[aUD,hL]) hbF aWS
     (fun h9=>by rcases hgN with h8 | h8;omega;rw[hL,←hcl,h8];rfl) (fun h9=>by rcases hgM with h8 | h8;omega;rw[hL,←Nv,h8];rfl)
     (by simp only[List.nodup_cons,List.mem_cons,not_or];exact⟨⟨Ne.symm nNT,Ne.symm mMT,nTF,nTi⟩,⟨Ne.symm mMN,nNF,nNi⟩,⟨mMF,mMi⟩,nFi,Vw⟩)
    rw[←e1] at aNS
    refine⟨⟨j+1,⟨g.T,gN,gM,g.F,ids.take i++ids.drop (i+1)⟩,b2⟩,⟨by simp only;omega,by simp only;rw[ek];exact aNS,rfl,rfl,fun x hx=> ?_,fun x y hx hn=> ?_⟩,by simp only;omega,rfl,by simp[ek,e2,hi],by rw[hb2];exact sub_eq rfl⟩
    ·have hT2:=hal g.T (by simp[TG.all])
     have hF2:=hal g.F (by simp[TG.all])
     have aVJ:bl gN=none∨gN∈g.all:=by
      by_cases e:gN=gR
      ·rcases hal gR (by simp[TG.all]) with h9 | h9
       ·exact .inr (e▸h9)
       ·exact .inl (e▸h9)
      ·cases hv:bl gN with
       | none => exact .inl rfl
       | some y =>
         by_cases rC:gN∈g.all
         ·exact .inr rC
         ·have:=hfb gN y hv rC
          rw[hbN e] at this;cases this
     have aVZ:bl gM=none∨gM∈g.all:=by
      by_cases e:gM=gB
      ·rcases hal gB (by simp[TG.all]) with h9 | h9
       ·exact .inr (e▸h9)
       ·exact .inl (e▸h9)
      ·by_cases e3:gM=gR
       ·rcases hal gR (by simp[TG.all]) with h9 | h9
        ·exact .inr (e3▸h9)
        ·exact .inl (e3▸h9)
       ·cases hv:bl gM with
        | none => exact .inl rfl
        | some y =>
          by_cases rC:gM∈g.all
          ·exact .inr rC
          ·have h8:=hfb gM y hv rC
           have h7:=hbM e
           rw[c1 gM mMT mMN e3,h8] at h7;cases h7
     simp only[TG.all,List.mem_cons] at hx
     rcases hx with rfl | rfl | rfl | rfl | hx
     ·exact hT2
     ·exact aVJ.symm
     ·exact aVZ.symm
     ·exact hF2
     ·exact hal x (by
       simp only[TG.all,List.mem_cons]
       refine .inr (.inr (.inr (.inr ?_)))
       rcases List.mem_append.1 hx with hx | hx
       ·exact List.mem_of_mem_take hx
       ·exact List.mem_of_mem_drop hx)
    ·have h9:=hfb x y hx hn
     have hne: ∀z,z∈TG.all ⟨g.T,gR,gB,g.F,ids⟩→x≠z:=fun z hz e=>by
      rcases hal z hz with h8 | h8
      ·exact hn (e▸h8)
      ·rw[e,h8] at hx;cases hx
     have xT:=hne g.T (by simp[TG.all])
     have xR:=hne gR (by simp[TG.all])
     have xB:=hne gB (by simp[TG.all])
     have xN:x≠gN:=fun e=>by
      have:=hbN fun e2=>xR (e.trans e2)
      rw[←e,h9] at this;cases this
     have xM:x≠gM:=fun e=>by
      have:=hbM fun e2=>xB (e.trans e2)
      rw[←e,c1 x xT xN xR,h9] at this;cases this
     simp only
     rw[aVQ x xT xM xB,c1 x xT xN xR]
     exact h9
 ·have hjm:j=m:=by omega
  subst hjm
  rw[La] at hTb
  rw[htj] at hK
  rw[lE]
  exact⟨[],by simp,hK b ⟨g.T,gR,gB,g.F,ids⟩ rfl rfl hTb hal hfb⟩

structure PgN (p : Pg) (n m : Nat) : Prop where
 rows:p.rows=m
 aP:p.aP=n
 al:p.a.length=m*n
 bl:p.b.length=m
 cl:p.c.length=n
 am: ∀x,x∈p.a→x.natAbs≤1000
 bm: ∀x,x∈p.b→x.natAbs≤1000
 cm: ∀x,x∈p.c→x.natAbs≤1000
 ml:m≤17
 nl:n+m≤100
def pA (p:Pg) (n i j:Nat):Int:=p.a.getD (i*n+j) 0
def pB (p:Pg) (i:Nat):Int:=p.b.getD i 0
def pC (p:Pg) (j:Nat):Int:=p.c.getD j 0
theorem jR {l:List Int} (h: ∀x,x∈l→x.natAbs≤1000) (i:Nat):(l.getD i 0).natAbs≤1000:=by
 rw[List.getD_eq_getElem?_getD]
 cases hx:l[i]? with
 | none => simp
 | some x => exact h x (List.mem_of_getElem? hx)
theorem B8 (l:List Int):l=lz l.length fun i=>l.getD i 0:=by
 apply List.ext_getElem
 ·simp
 ·intro i h1 h2
  simp[lz,List.getD_eq_getElem?_getD,h1]
theorem PgN.b {p:Pg} {n m:Nat} (h:PgN p n m):p.b=lz m (pB p):=by rw[←h.bl];exact B8 p.b
theorem PgN.c {p:Pg} {n m:Nat} (h:PgN p n m):p.c=lz n (pC p):=by rw[←h.cl];exact B8 p.c
theorem PgN.row {p:Pg} {n m i:Nat} (h:PgN p n m) (hi:i<m):((iv p.a).take (i*n+n)).drop (i*n)=iv (lz n (pA p n i)):=by
 have hl:i*n+n≤p.a.length:=by
  rw[h.al]
  have:=Nat.mul_le_mul_right n (show i+1≤m by omega)
  rwa [Nat.add_mul,Nat.one_mul] at this
 apply List.ext_getElem
 ·simp;omega
 ·intro j h1 h2
  have hj:j<n:=by simpa using h2
  simp only[List.getElem_drop,List.getElem_take,pV,zS,pA]
  rw[List.getD_eq_getElem?_getD,List.getElem?_eq_getElem (by omega)]
  rfl
theorem aCI (p:Pg) (n m i:Nat) (h:PgN p n m) (hi:i<m):RO Tryz.prog 204 [.ptr p.v,.int .i64 i] (.sl (iv (lz n (pA p n i)))):=by
 have hr:=h.row hi
 have hml:=h.ml
 have hnl:=h.nl
 have hal:=h.al
 have hin:i*n≤17*100:=Nat.mul_le_mul (by omega) (by omega)
 have hmn:i*n+n≤m*n:=by
  have:=Nat.mul_le_mul_right n (show i+1≤m by omega)
  rwa [Nat.add_mul,Nat.one_mul] at this
 have e1:(i:Int)*(n:Int)=((i*n:Nat):Int):=(Int.natCast_mul i n).symm
 have e2:((i:Int)+1)*(n:Int)=((i*n+n:Nat):Int):=by rw[Int.add_mul,Int.one_mul,e1];omega
 have w0:IntKind.i64.wrap ((i:Int)+1)=(i:Int)+1:=i64_in (by omega) (by omega)
 have w1:IntKind.i64.wrap ((i:Int)*(n:Int))=(i:Int)*n:=by rw[e1];exact i64_in (by omega) (by omega)
 have w2:IntKind.i64.wrap (((i:Int)+1)*(n:Int))=(i:Int)*n+n:=by rw[e2,i64_in (by omega) (by omega)];simp
 have hc:=h.aP
 have k1:(0:Int)≤(i:Int)*n:=by rw[e1];omega
 have k2:(i:Int)*n≤(i:Int)*n+n:=by omega
 have k3:(i:Int)*n+n≤(p.a.length:Int):=by rw[hal,e1];omega
 have k4:((i:Int)*n).toNat=i*n:=by rw[e1];omega
 have k5:((i:Int)*n+n).toNat=i*n+n:=by rw[e1];omega
 refine aJ Tryz.func204 rfl rfl (by rw[Tryz.ntmps204];simp) fun bl=> ?_
 rw[Tryz.ntmps204,Tryz.results204]
 refine aC ?_
 simp
 refine cI aL (by kernel_rfl) ?_
 simp[Pg.v,hc,w0,w1,w2,k1,k2,k3,sliV,k4,k5,hr]
 refine⟨fun x hx=>(U2 _ x hx).symm,?_⟩
 exact aK [.sl (iv (lz n (pA p n i)))] 0 (by simp) (by simp[frz,V.cl]) (Sub.refl _)
def sgB (p:Pg) (i:Nat):Int:=if pB p i<0 then -1 else 1
def eZ (p:Pg) (n m i c:Nat):Int:=if c<n then sgB p i*pA p n i c else if c=n+m then sgB p i*pB p i else if c=n+i then 1 else 0
def eQ (p:Pg) (n m:Nat):Nat→Nat→Rat:=fun i c=>(eZ p n m i c:Rat)
theorem Ob {p:Pg} {n m:Nat} (h:PgN p n m) (i c:Nat):(eZ p n m i c).natAbs≤1000:=by
 have hs:(sgB p i).natAbs=1:=by unfold sgB;split<;>rfl
 unfold eZ
 split
 ·rw[Int.natAbs_mul,hs,Nat.one_mul];exact jR h.am _
 ·split
  ·rw[Int.natAbs_mul,hs,Nat.one_mul];exact jR h.bm _
  ·split<;>decide
theorem PgN.init {p:Pg} {n m:Nat} (h:PgN p n m):Lp.Init n m 1000 (eQ p n m):=by
 refine⟨⟨fun i c _ _=>⟨_,rfl⟩,fun i c _ _=> ?_⟩,fun i j hi hj=> ?_,fun i hi=> ?_⟩
 ·have:=Ob h i c
  constructor
  ·rw[show -((1000:Nat):Rat)=((-1000:Int):Rat) from rfl]
   exact Rat.intCast_le_intCast.2 (by omega)
  ·rw[show((1000:Nat):Rat)=((1000:Int):Rat) from rfl]
   exact Rat.intCast_le_intCast.2 (by omega)
 ·unfold eQ eZ
  rw[if_neg (by omega),if_neg (by omega)]
  by_cases e:i=j
  ·rw[if_pos (by omega),if_pos e];rfl
  ·rw[if_neg (by omega),if_neg e];rfl
 ·have:0≤eZ p n m i (n+m):=by
   unfold eZ sgB
   rw[if_neg (by omega),if_pos rfl]
   split
   ·omega
   ·omega
  exact Rat.intCast_le_intCast.2 this
theorem aKU {p:Pg} {n m:Nat} (h:PgN p n m):Lp.vol m (eQ p n m) (Lp.lH n (eQ p n m))=1:=by
 show Lp.det m (fun j i=>eQ p n m i (n+j))=1
 exact Lp.Fs m _ fun j i hj hi=>by
  rw[h.init.art i j hi hj]
  by_cases e:j=i
  ·rw[if_pos e,if_pos e.symm]
  ·rw[if_neg e,if_neg (Ne.symm e)]
theorem Zl :Lp.kY 1=1:=by unfold Lp.kY;decide
theorem dz0 {p:Pg} {n m:Nat} (h:PgN p n m):Lp.dz m (eQ p n m) (Lp.lH n (eQ p n m))=1:=by
 unfold Lp.dz;rw[aKU h,Zl];rfl
theorem zt0 {p:Pg} {n m:Nat} (h:PgN p n m) (i c:Nat):Lp.zt m (eQ p n m) (Lp.lH n (eQ p n m)) i c=eZ p n m i c:=by
 unfold Lp.zt
 rw[aKU h,Zl,Rat.mul_one]
 show(eQ p n m i c).num=_
 unfold eQ
 simp

theorem Tq (s:Str):(aQ s.js).length≤s.js.length:=by
 unfold aQ cA
 rw[List.length_map]
 exact Nat.le_trans (List.length_filter_le _ _) (by simp)
theorem Uk {s:Str} (h:SOk s):nR s≤12:=by have:=Tq s;have:=h.nj;unfold nR;omega
theorem Bx {s:Str} (h:SOk s):nC s≤16:=by
 have:=iI s.ms s.ms.length;have:=h.nm
 unfold nC aP;omega
theorem Tx {l:List Int} {n:Nat} (h: ∀i,i<l.length→ -100≤lat l i∧lat l i≤100):(lat l n).natAbs≤100:=by
 by_cases hn:n<l.length
 ·have:=h n hn;omega
 ·have:lat l n=0:=by simp[lat,hn]
  rw[this];decide
theorem On {s:Str} {l:List Int} (h:LOk s l): ∀x,x∈right s l→x.natAbs≤100:=by
 intro x hx
 unfold right at hx
 obtain⟨j, -,hx⟩:=List.mem_flatMap.1 hx
 have h1:=Tx (n:=(2*j).toNat) h.f
 have h2:=Tx (n:=(2*j+1).toNat) h.f
 rcases List.mem_cons.1 hx with rfl | hx
 ·omega
 ·have:=List.mem_singleton.1 hx;subst this;omega
theorem aB8 {s:Str} (h:SOk s) (i c:Nat) (hc:c<nC s):(ent s i c).natAbs≤100:=by
 obtain⟨-,h2⟩:=rL s c hc
 have h3:=vU h (i*s.ms.length+(fL s c).1.toNat)
 unfold ent
 rw[Int.natAbs_mul]
 rcases h2 with e | e<;>rw[e]<;>simp<;>omega
theorem aBA {s:Str} (h:SOk s): ∀x,x∈aTo s (nR s*nC s)→x.natAbs≤100:=by
 intro x hx
 unfold aTo at hx
 obtain⟨t,ht,rfl⟩:=List.mem_map.1 hx
 have ht':t<nR s*nC s:=by simpa using ht
 refine aB8 h _ _ (Nat.mod_lt _ ?_)
 rcases Nat.eq_zero_or_pos (nC s) with e | e
 ·rw[e] at ht';omega
 ·exact e
theorem Sn {s:Str} {l:List Int} (h:LOk s l):PgN (dA s l) (nC s) (nR s):=by
 have h1:=Uk h.sok
 have h2:=Bx h.sok
 refine⟨rfl,rfl,by simp[dA],eJ s l,by simp[dA],fun x hx=> ?_,fun x hx=> ?_,fun x hx=> ?_,by omega,by omega⟩
 ·have:=aBA h.sok x hx;omega
 ·have:=On h x hx;omega
 ·have:x=0:=by
   simp only[dA] at hx
   exact(List.mem_replicate.1 hx).2
  rw[this];decide

def aMZ (s:Str) (j sg:Int):Nat→Int:=fun c=>if(fL s c).1=j then sg*(fL s c).2 else 0
def aW2 (s:Str) (j sg:Int) (k:Nat):Nat→Int:=fun c=>if c<k then aMZ s j sg c else 0
def aXC (s:Str) (l:List Int) (j sg:Int):Pg:= { dA s l with c:=lz (nC s) (aMZ s j sg) }
theorem rZ {n:Nat} {f g:Nat→Int} (h: ∀c,c<n→f c=g c):lz n f=lz n g:=List.map_congr_left fun c hc=>h c (by simpa using hc)
theorem N3 (n:Nat) (f:Nat→Int) (k:Nat) (v:Int):(iv (lz n f)).set k [.int .i64 v]=iv (lz n fun c=>if c=k then v else f c):=by
 apply List.ext_getElem
 ·simp
 ·intro i h1 h2
  rw[List.getElem_set]
  by_cases e:k=i
  ·rw[if_pos e];simp[iv,lz,e]
  ·rw[if_neg e];simp[iv,lz,Ne.symm e]

def tkI (k:Int):Int:=if k=1 then 1 else if k=2 then -1 else 0
def dC (s:Str):List Int:=List.replicate (2*s.js.length) 0
theorem D3 {s:Str} (h:SOk s):LOk s (dC s):=by
 refine⟨h,by simp[dC],fun i hi=> ?_⟩
 have:lat (dC s) i=0:=by
  unfold lat dC
  rw[List.getD_eq_getElem?_getD,List.getElem?_replicate]
  split<;>rfl
 omega
def rAt (s:Str) (i k:Nat):Int:=lat (iD s) (i*s.ms.length+k)
def tbI (s:Str) (i:Nat):Nat→Int
 | 0 => 0
 | k + 1 => tbI s i k - rAt s i k * tkI (s.ms.getD k default).kind
def zF (s:Str) (i:Nat) (p:Int×Int):Int:=if(s.ms.getD p.1.toNat default).kind=3 then 0 else p.2*rAt s i p.1.toNat
def tcL (s:Str) (i:Nat) (l:List (Int×Int)):Int:=l.foldl (fun a p=>a - zF s i p) 0
theorem Ag (s:Str) (i:Nat) (l:List (Int×Int)) (p:Int×Int):tcL s i (l++ [p])=tcL s i l - zF s i p:=by simp[tcL]
theorem W3 (s:Str) (i:Nat): ∀(r l:List (Int×Int)),tcL s i (l++r)=tcL s i l+tcL s i r
 | [], l => by simp [tcL]
 | p :: r, l => by
   rw[show l++p::r=(l++ [p])++r by simp,W3 s i r,Ag,show p::r= [p]++r from rfl,W3 s i r [p]]
   have:tcL s i [p]= - zF s i p:=by simp[tcL]
   rw[this];omega
theorem aAE {s:Str} (hs:SOk s) (i:Nat): ∀n,n≤s.ms.length→tcL s i (aU s.ms n)=tbI s i n
 | 0, _ => by simp [aU, tcL, tbI]
 | n + 1, h => by
   have hn:n<s.ms.length:=by omega
   rw[iA,W3,aAE hs i n (by omega),cL _ _ _ hn]
   have hk:=hs.kd _ (List.getElem_mem hn)
   have hg:(s.ms.getD n default)=s.ms[n]:=cL _ _ _ hn
   show _=tbI s i n - rAt s i n*tkI (s.ms.getD n default).kind
   rw[hg]
   have h3:s.ms[n].kind=1∨s.ms[n].kind=2∨s.ms[n].kind=3:=by omega
   rcases h3 with e | e | e<;>simp[nP,tcL,zF,tkI,e,hn,Int.sub_eq_add_neg]
def tB (s:Str) (i:Nat):Int:=tbI s i s.ms.length
def gZ (s:Str):Pg:= { dA s (dC s) with b:=lz (nR s) (tB s) }
theorem Fo {s:Str} (hs:SOk s) (i k:Nat): -100≤rAt s i k∧rAt s i k≤100:=vU hs _
theorem Jl (a k:Int):a*tkI k=a∨a*tkI k= -a∨a*tkI k=0:=by
 unfold tkI
 split
 ·left;omega
 ·split
  ·right;left;omega
  ·right;right;omega
theorem Ee {s:Str} (hs:SOk s) (i:Nat): ∀n:Nat, -(100*(n:Int))≤tbI s i n∧tbI s i n≤100*(n:Int)
 | 0 => by simp [tbI]
 | n + 1 => by
   obtain⟨h1,h2⟩:=Ee hs i n
   obtain⟨h3,h4⟩:=Fo hs i n
   show _≤tbI s i n - rAt s i n*tkI (s.ms.getD n default).kind∧tbI s i n - rAt s i n*tkI (s.ms.getD n default).kind≤_
   rcases Jl (rAt s i n) (s.ms.getD n default).kind with e | e | e<;>rw[e]<;>omega
theorem We {s:Str} (hs:SOk s) (i:Nat) {p:Int×Int} (hp:p.2=1∨p.2= -1): -100≤zF s i p∧zF s i p≤100:=by
 unfold zF
 obtain⟨h3,h4⟩:=Fo hs i p.1.toNat
 split
 ·omega
 ·rcases hp with e | e<;>rw[e]<;>omega
theorem A6 (s:Str):right s (dC s)=lz (nR s) fun _=>0:=by
 have hz: ∀i,lat (dC s) i=0:=fun i=>by
  unfold lat dC
  rw[List.getD_eq_getElem?_getD,List.getElem?_replicate]
  split<;>rfl
 have e:lz (nR s) (fun _=>0)=List.replicate (nR s) 0:=by
  apply List.ext_getElem
  ·simp
  ·intro i h1 h2;simp[lz]
 rw[e]
 refine List.eq_replicate_iff.2 ⟨eJ s _,fun x hx=> ?_⟩
 unfold right at hx
 obtain⟨j,_,hx⟩:=List.mem_flatMap.1 hx
 simp[hz] at hx
 exact hx
theorem D8 {s:Str} (h:SOk s):PgN (gZ s) (nC s) (nR s):=by
 have hf:=Sn (D3 h)
 have h8:=h.nm
 refine⟨hf.rows,hf.aP,hf.al,by simp[gZ],hf.cl,hf.am,fun x hx=> ?_,hf.cm,hf.ml,hf.nl⟩
 obtain⟨i,hi,rfl⟩:=List.mem_map.1 hx
 have:=Ee h i s.ms.length
 unfold tB
 omega
theorem aS5 (s:Str):(gZ s).c=List.replicate (nC s) 0:=rfl

def rqs (w:Nat) (f:Nat→Rat):List (List V):=(List.range w).map fun c=>(ro (some (f c))).c
@[simp] theorem aDP (w : Nat) (f : Nat → Rat) : (rqs w f).length = w := by simp [rqs]
@[simp] theorem Y8 (w : Nat) (f : Nat → Rat) (i : Nat) (h : i < (rqs w f).length) : (rqs w f)[i] = (ro (some (f i))).c := by simp [rqs]
theorem bV {w:Nat} {f g:Nat→Rat} (h: ∀c,c<w→f c=g c):rqs w f=rqs w g:=List.map_congr_left fun c hc=>by rw[h c (by simpa using hc)]
theorem zN {w i:Nat} (f:Nat→Rat) (v:Rat) (hi:i<w):(rqs w f).set i (ro (some v)).c=rqs w fun c=>if c=i then v else f c:=by
 apply List.ext_getElem
 ·simp
 ·intro j h1 h2
  rw[List.getElem_set,Y8,Y8]
  by_cases e:i=j
  ·rw[if_pos e,if_pos e.symm]
  ·rw[if_neg e,if_neg (Ne.symm e)]
theorem Fm (w:Nat) (f:Nat→Rat):(rqs w f).all (fun r=>r.all V.cl)=true:=by simp[rqs,RT.c,V.cl]
theorem kU (w:Nat) (f:Nat→Rat):rqs (w+1) f=rqs w f++ [(ro (some (f w))).c]:=by simp[rqs,List.range_succ]
theorem Rf (w:Nat) (f:Nat→Rat):rqs w f=rv (bA ((List.range w).map fun c=>some (f c))):=by simp[rqs,rv,bA]
@[irreducible] def lR : Nat := 10 ^ 72
theorem Bf :lR*lR<LB^24:=by unfold lR;decide+kernel
theorem nZ {m:Nat} (h:m≤17):Lp.lid 1000 m≤lR:=Nat.le_trans (Lp.oM h) (by unfold lR;decide+kernel)
theorem vG {m:Nat} (h:m≤17):(m+1)*(1000*Lp.lid 1000 m)≤lR:=Nat.le_trans (Nat.mul_le_mul (show m+1≤18 by omega) (Nat.mul_le_mul_left _ (Lp.oM h))) (by unfold lR;decide+kernel)
def qB (q:Rat):Prop:=Lp.sm lR q
theorem zM {q:Rat} (h:Lp.sm (lR*lR) q):fits q:=by
 obtain⟨h1,h2⟩:=Lp.Bc h
 exact⟨aM.2 (Nat.lt_of_le_of_lt h1 Bf),aM.2 (Nat.lt_of_le_of_lt h2 Bf)⟩
theorem Up :1≤lR:=by unfold lR;decide+kernel
theorem cN {q:Rat} (h:qB q):fits q:=zM (Lp.fP h (by have:=Nat.mul_le_mul_left lR Up;omega))
theorem B9 {p q:Rat} (hp:qB p) (hq:qB q):fits (p*q):=zM (Lp.Oi hp hq)
theorem uC {p q:Rat} (hp:qB p) (hq:qB q) (h:q≠0):fits (p / q):=zM (Lp.aD2 hp hq h)
theorem zT {f:Rat→Rat→Rat} {p q:Rat} (h:fits (f p q)):op2 f (some p) (some q)=some (f p q):=by unfold op2;simp[fit,h]
theorem okS {q:Rat} (h:fits q):okQ (some q):=fun p hp=>by cases hp;exact h
theorem aDE {q:Rat} (h:fits q):sgq (rd (ro (some q)))=q.num.sign:=by rw[oS,Hw h];rfl
theorem Pc {q:Rat} :q.num=0 ↔ q=0:=⟨fun h=>Rat.num_eq_zero.1 h,fun h=>by rw[h];rfl⟩
theorem iG {q:Rat} (h:fits q):RO Tryz.prog 191 [.agg (ro (some q)).c] (.int .i64 q.num.sign):=by
 have h1:=h.1
 have h2:=h.2
 have:=Ec (ro (some q)) (by show(lim _).length≤_;omega) (by show(lim _).length≤_;omega)
 rwa [aDE h] at this
theorem Q2 (a b:Rat) (ha:fits a) (hb:fits b) (h0:b≠0):RO Tryz.prog 277 [.agg (ro (some a)).c,.agg (ro (some b)).c] (.agg (ro (fit (a / b))).c):=by
 have ha1:=ha.1
 have ha2:=ha.2
 have hb1:=hb.1
 have hb2:=hb.2
 have hbn:b.num≠0:=fun e=>h0 (Pc.1 e)
 have ka:RO Tryz.prog 213 [.agg (rq a).c] (.bool true):=by
  have:=eK (rq a) (by show(lim _).length≤_;omega) (by show(lim _).length≤_;omega)
  rwa [show decide (rq a).ok=true from by rw[decide_eq_true_iff,←Ic,Hw ha];rfl] at this
 have kb:RO Tryz.prog 213 [.agg (rq b).c] (.bool true):=by
  have:=eK (rq b) (by show(lim _).length≤_;omega) (by show(lim _).length≤_;omega)
  rwa [show decide (rq b).ok=true from by rw[decide_eq_true_iff,←Ic,Hw hb];rfl] at this
 have n1:=gD ha1 hb2
 have n2:=gD ha2 hb1
 have e:G6 (decide (a.num<0) !=decide (b.num<0)) (a.num.natAbs*b.den) (a.den*b.num.natAbs)=fit (a / b):=by
  unfold G6
  rw[if_neg (show ¬ a.den*b.num.natAbs=0 from Nat.mul_ne_zero a.den_nz (by omega))]
  rw[Sw a b hbn,←aEZ a b hbn]
 rw[oS,oS]
 simp only[rq,RT.c] at ka kb ⊢
 refine aJ Tryz.func277 rfl rfl (by rw[Tryz.ntmps277];simp) fun bl=> ?_
 rw[Tryz.ntmps277,Tryz.results277]
 refine aE ?_
 simp
 intro g hg0 hg g2 hg2 h2g hb2 g3 hg3 h32 h3g hb3
 refine aC ?_
 simp
 refine cM [(2,.loc g 3 0 0),(3,.loc g2 3 0 0),(4,.loc g3 3 0 0)] _ (upd (upd (upd bl g (some ⟨3,[(rq a).c]⟩)) g2 (some ⟨3,[(rq b).c]⟩)) g3 (some ⟨3,[[.bool false,.nils,.nils]]⟩)) 12 (.bool false) (upd (upd (upd bl g (some ⟨3,[(rq a).c]⟩)) g2 (some ⟨3,[(rq b).c]⟩)) g3 (some ⟨3,[[.bool false,.nils,.nils]]⟩)) ⟨rfl,by simp,sub_eq (by simp[RT.c,rq])⟩ rfl ?_ ?_
 ·simp[RT.c,rq,h2g,Ne.symm h2g,h32,Ne.symm h32,h3g,Ne.symm h3g]
  refine aD ka ?_
  simp[h2g,Ne.symm h2g,h32,Ne.symm h32,h3g,Ne.symm h3g]
  refine aD kb ?_
  simp
 simp
 refine aY aL (upd (upd bl g (some ⟨3,[(rq a).c]⟩)) g2 (some ⟨3,[(rq b).c]⟩)) (by simp[h32,h3g,hb3]) [0,1,2,3,4,5,6,7,8,9,10,11,12,13,14,15,16,17,18,19] 1 (by kernel_rfl) ?_
 simp[RT.c,rq,h2g,Ne.symm h2g,h32,Ne.symm h32,h3g,Ne.symm h3g]
 refine aN (fR _ _ (by omega) (by omega)) ?_
 simp[h2g,Ne.symm h2g,h32,Ne.symm h32,h3g,Ne.symm h3g]
 refine aN (fR _ _ (by omega) (by omega)) ?_
 simp[h2g,Ne.symm h2g,h32,Ne.symm h32,h3g,Ne.symm h3g]
 refine aN (rS _ _ _ (by omega) (by omega)) ?_
 rw[e,nO]
 generalize fit (a / b)=z
 simp[h2g,Ne.symm h2g,h32,Ne.symm h32,h3g,Ne.symm h3g]
 refine Dz 20 ?_
 simp[h2g,Ne.symm h2g,h32,Ne.symm h32,h3g,Ne.symm h3g]
 refine⟨by simp[h32,h3g,hb3],Dy ?_⟩
 simp[h2g,Ne.symm h2g,h32,Ne.symm h32,h3g,Ne.symm h3g]
 rw[←RT.c,nO z]
 exact aK [.agg [.bool (decide (nm z<0)),.sl (iv (lim (nm z).natAbs)),.sl (iv (lim (dn z)))]] 1 (by simp[h2g,Ne.symm h2g,h32,Ne.symm h32,h3g,Ne.symm h3g]) (by simp[frz,V.cl]) (by simp[hg,hb2,hb3])

structure SG where
 T:Int
 R:Int
 B:Int
 C:Int
 ids:List Int
structure SN where
 r:Nat
 w:Nat
 n:Nat
 Z:Nat→Nat→Rat
 co:Nat→Rat
 bs:Nat→Nat
def rrs (r w:Nat) (Z:Nat→Nat→Rat):List (List V):=(List.range r).map fun i=> [.sl (rqs w (Z i))]
@[simp] theorem aCB (r w : Nat) (Z : Nat → Nat → Rat) : (rrs r w Z).length = r := by simp [rrs]
@[simp] theorem Np (r w : Nat) (Z : Nat → Nat → Rat) (i : Nat) (h : i < (rrs r w Z).length) : (rrs r w Z)[i] = [.sl (rqs w (Z i))] := by simp [rrs]
def SN.c (t:SN):List V:= [.int .i64 t.n,.sl (rrs t.r t.w t.Z),.sl (iv (lb t.r t.bs)),.sl (rqs t.w t.co)]
def SG.all (g:SG):List Int:=g.T::g.R::g.B::g.C::g.ids
structure SS (b : Int → Option Blk) (g : SG) (t : SN) : Prop where
 len:g.ids.length=t.r
 top:b g.R=some ⟨1,g.ids.map fun x=> [.lsl x 3 0 t.w]⟩
 row: ∀(i:Nat) (x:Int),g.ids[i]? =some x→b x=some ⟨3,rqs t.w (t.Z i)⟩
 pos: ∀x,x∈g.ids→0≤x
 hd:b g.T=some ⟨4,[[.int .i64 t.n,.lsl g.R 1 0 t.r,.lsl g.B 1 0 t.r,.lsl g.C 3 0 t.w]]⟩
 ba:b g.B=some ⟨1,iv (lb t.r t.bs)⟩
 cst:b g.C=some ⟨3,rqs t.w t.co⟩
 pT:0≤g.T
 pR:g.R<0→t.r=0
 pB:g.B<0→t.r=0
 pC:0≤g.C
 nd:g.all.Nodup
theorem SS.cZ {b b':Int→Option Blk} {g:SG} {t:SN} (h:SS b g t) (hk: ∀x y,x∈g.all→b x=some y→b' x=some y):SS b' g t:=
 ⟨h.len,hk _ _ (by simp[SG.all]) h.top,fun i x hi=>hk _ _ (by simp[SG.all,List.mem_of_getElem? hi]) (h.row i x hi),h.pos,hk _ _ (by simp[SG.all]) h.hd,hk _ _ (by simp[SG.all]) h.ba,hk _ _ (by simp[SG.all]) h.cst,h.pT,h.pR,h.pB,h.pC,h.nd⟩
theorem SS.at {b:Int→Option Blk} {g:SG} {t:SN} (h:SS b g t) (i:Nat) (hi:i<t.r): ∃x,g.ids[i]? =some x∧x∈g.ids∧0≤x∧b x=some ⟨3,rqs t.w (t.Z i)⟩:=by
 have hl:=h.len
 have e:g.ids[i]? =some (g.ids[i]'(by omega)):=List.getElem?_eq_getElem _
 exact⟨_,e,List.mem_of_getElem? e,h.pos _ (List.mem_of_getElem? e),h.row i _ e⟩
theorem SS.inj {b:Int→Option Blk} {g:SG} {t:SN} (h:SS b g t) {i j:Nat} {x:Int} (hi:g.ids[i]? =some x) (hj:g.ids[j]? =some x):i=j:=by
 have nd:=h.nd
 unfold SG.all at nd
 simp only[List.nodup_cons] at nd
 obtain⟨-, -, -, -,nd⟩:=nd
 obtain⟨i1,e1⟩:=List.getElem?_eq_some_iff.1 hi
 obtain⟨j1,e2⟩:=List.getElem?_eq_some_iff.1 hj
 have hp:=List.pairwise_iff_getElem.1 nd
 rcases Nat.lt_trichotomy i j with q | q | q
 ·exact absurd (e1.trans e2.symm) (hp i j i1 j1 q)
 ·exact q
 ·exact absurd (e2.trans e1.symm) (hp j i j1 i1 q)
theorem SS.frz {b:Int→Option Blk} {g:SG} {t:SN} (h:SS b g t) (m:Nat):frz b (m+4) (.loc g.T 4 0 0)=some (.ptr t.c):=by
 have hi: ∀m (k:Int),Vm.frz b m (.int .i64 k)=some (.int .i64 k):=fun m k=>by cases m<;>simp[Vm.frz]
 have h1:Vm.frz b (m+3) (.lsl g.R 1 0 t.r)=some (.sl (rrs t.r t.w t.Z)):=by
  rcases Int.lt_or_le g.R 0 with cO | hR
  ·have hr:=h.pR cO
   rw[hr]
   have e:rrs 0 t.w t.Z= []:=rfl
   rw[e]
   simp[Vm.frz,cO]
  have h1:=jY (n:=m+2) hR h.top
  rw[List.length_map,h.len] at h1
  rw[h1]
  have h2:(g.ids.map fun x=> [V.lsl x 3 0 t.w]).mapM (fun e:List V=>e.mapM (Vm.frz b (m+2)))=some (rrs t.r t.w t.Z):=by
   refine J0 _ _ (by simp[h.len]) fun i x y hx hy=> ?_
   rw[List.getElem?_map] at hx
   cases hi:g.ids[i]? with
   | none => rw [hi] at hx; cases hx
   | some gi =>
     rw[hi] at hx;cases hx
     have hlt:i<t.r:=by rw[←h.len];exact(List.getElem?_eq_some_iff.1 hi).1
     rw[List.getElem?_eq_getElem (by simpa using hlt),Np] at hy
     cases hy
     have h3:=jY (bl:=b) (n:=m+1) (sz:=3) (els:=rqs t.w (t.Z i)) (h.pos gi (List.mem_of_getElem? hi)) (h.row i gi hi)
     rw[jE (Fm _ _)] at h3
     simp only[List.mapM_cons,List.mapM_nil]
     rw[show(rqs t.w (t.Z i)).length=t.w by simp] at h3
     rw[h3];rfl
  rw[h2];rfl
 have h2:Vm.frz b (m+3) (.lsl g.B 1 0 t.r)=some (.sl (iv (lb t.r t.bs))):=by
  rcases Int.lt_or_le g.B 0 with cO | hB
  ·have hr:=h.pB cO
   rw[hr]
   have e:lb 0 t.bs= []:=rfl
   rw[e]
   simp[Vm.frz,cO,iv]
  have h1:=jY (n:=m+2) hB h.ba
  rw[jE (qF _)] at h1
  rw[show(iv (lb t.r t.bs)).length=t.r by simp] at h1
  rw[h1];rfl
 have h3:Vm.frz b (m+3) (.lsl g.C 3 0 t.w)=some (.sl (rqs t.w t.co)):=by
  have h1:=jY (n:=m+2) h.pC h.cst
  rw[jE (Fm _ _)] at h1
  rw[show(rqs t.w t.co).length=t.w by simp] at h1
  rw[h1];rfl
 rw[rG h.hd]
 simp only[List.mapM_cons,List.mapM_nil,h1,h2,h3,hi]
 rfl
theorem SS.put {b:Int→Option Blk} {g:SG} {t:SN} {i:Nat} {x:Int} (h:SS b g t) (hi:g.ids[i]? =some x) (Z':Nat→Nat→Rat) (hZ: ∀a c,a≠i→c<t.w→t.Z a c=Z' a c):SS (upd b x (some ⟨3,rqs t.w (Z' i)⟩)) g ⟨t.r,t.w,t.n,Z',t.co,t.bs⟩:=by
 have hm:=List.mem_of_getElem? hi
 have nd:=h.nd
 unfold SG.all at nd
 simp only[List.nodup_cons,List.mem_cons,not_or] at nd
 obtain⟨⟨-, -, -,n1⟩,⟨-, -,n2⟩,⟨-,n3⟩,n4, -⟩:=nd
 have e: ∀y,y∉g.ids→y≠x:=fun y hy e=>hy (e▸hm)
 refine⟨h.len,by rw[aG _ _ _ _ (e _ n2)];exact h.top,fun k y hk=> ?_,h.pos,by rw[aG _ _ _ _ (e _ n1)];exact h.hd,by rw[aG _ _ _ _ (e _ n3)];exact h.ba,by rw[aG _ _ _ _ (e _ n4)];exact h.cst,h.pT,h.pR,h.pB,h.pC,h.nd⟩
 by_cases e2:k=i
 ·subst e2
  rw[hi] at hk;cases hk
  rw[aV]
 ·have hne:y≠x:=fun e3=>e2 (h.inj (i:=k) (j:=i) (by rw[hk,e3]) hi)
  rw[aG _ _ _ _ hne,h.row k y hk]
  simp only
  rw[bV fun c hc=>hZ k c e2 hc]
theorem SS.aDG {b:Int→Option Blk} {g:SG} {t:SN} (h:SS b g t) (co':Nat→Rat):SS (upd b g.C (some ⟨3,rqs t.w co'⟩)) g ⟨t.r,t.w,t.n,t.Z,co',t.bs⟩:=by
 have nd:=h.nd
 unfold SG.all at nd
 simp only[List.nodup_cons,List.mem_cons,not_or] at nd
 obtain⟨⟨-, -,n1, -⟩,⟨-,n2, -⟩,⟨n3, -⟩,n4, -⟩:=nd
 exact⟨h.len,by rw[aG _ _ _ _ n2];exact h.top,fun k y hk=>by rw[aG _ _ _ _ (fun e=>n4 (by rw[←e];exact List.mem_of_getElem? hk))];exact h.row k y hk,h.pos,by rw[aG _ _ _ _ n1];exact h.hd,by rw[aG _ _ _ _ n3];exact h.ba,by rw[aV],h.pT,h.pR,h.pB,h.pC,h.nd⟩
theorem SS.aUE {b:Int→Option Blk} {g:SG} {t:SN} (h:SS b g t) (bs':Nat→Nat):SS (upd b g.B (some ⟨1,iv (lb t.r bs')⟩)) g ⟨t.r,t.w,t.n,t.Z,t.co,bs'⟩:=by
 have nd:=h.nd
 unfold SG.all at nd
 simp only[List.nodup_cons,List.mem_cons,not_or] at nd
 obtain⟨⟨-,n1, -, -⟩,⟨n2, -, -⟩,⟨n3,n4⟩, -, -⟩:=nd
 exact⟨h.len,by rw[aG _ _ _ _ n2];exact h.top,fun k y hk=>by rw[aG _ _ _ _ (fun e=>n4 (by rw[←e];exact List.mem_of_getElem? hk))];exact h.row k y hk,h.pos,by rw[aG _ _ _ _ n1];exact h.hd,by rw[aV],by rw[aG _ _ _ _ (Ne.symm n3)];exact h.cst,h.pT,h.pR,h.pB,h.pC,h.nd⟩

theorem qQ {bl:Int→Option Blk} {K:V→(Int→Option Blk)→Prop} (gt gr:Int) (w k:Nat) (f h:Nat→Rat) (hw:w≤200) (hk:k<w) (ht:bl gt=some ⟨3,rqs w f⟩) (hr:bl gr=some ⟨3,rqs w h⟩) (hne:gt≠gr) (h0t:0≤gt) (h0r:0≤gr)
  (hf: ∀c,c<w→fits (f c)) (hh: ∀c,c<w→fits (h c)) (hm: ∀c,c<w→fits (f k*h c)) (hs: ∀c,c<w→fits (f c - f k*h c))
  (hK: ∀b',(∀x y,bl x=some y→x≠gt→b' x=some y)→b' gt=some ⟨3,rqs w fun c=>f c - f k*h c⟩→K (.tup []) b'):
  cH Tryz.prog 253 [.lsl gt 3 0 w,.lsl gr 3 0 w,.int .i64 k] bl K:=by
 have kw:(k:Int)<w:=by omega
 refine cP Tryz.func253 rfl rfl (by rw[Tryz.ntmps253];simp) ?_
 rw[Tryz.ntmps253,Tryz.results253]
 refine aE ?_
 simp[ht,kw,hk,RT.c]
 intro g6 hg6 hb6
 have n6t: ¬ g6=gt:=fun e=>by rw[e,ht] at hb6;cases hb6
 have n6r: ¬ g6=gr:=fun e=>by rw[e,hr] at hb6;cases hb6
 refine cW 1 6 (.ptr (ro (some (f k))).c) bl (by intro z b hz;simp only[aA] at hz ⊢;grind) (by simp[frz,dropB,hb6,V.cl,RT.c]) ?_
 have hsg:=iG (hf k hk)
 refine aO ?_
 have l3: ∀q:Rat,(rq q).c.length=3:=fun _=>rfl
 have t3: ∀q:Rat,(rq q).c.take 3=(rq q).c:=fun _=>rfl
 refine aC ?_
 simp[l3,t3]
 refine aD hsg ?_
 simp
 refine⟨fun h0=> ?_,fun h0=> ?_⟩
 ·rw[cE]
  refine⟨[],by simp,hK bl (fun x y hx _=>hx) ?_⟩
  rw[ht,bV (g:=fun c=>f c - f k*h c) fun c _=>by simp only[h0];grind]
 have lN:=xD (some (f k)) (okS (hf k hk))
 have okN:fits (-f k):=by
  have:=pS (okS (hf k hk)) (-f k) rfl
  exact this
 refine aE ?_
 simp[l3,t3]
 refine aD (r:= .agg (ro (some (-f k))).c) lN ?_
 simp[RT.c]
 intro g7 hg7 hb7
 refine cW 1 7 (.ptr (ro (some (-f k))).c) bl (by intro z b hz;simp only[aA] at hz ⊢;grind) (by simp[frz,dropB,hb7,V.cl,RT.c]) ?_
 refine aC ?_
 simp
 refine aI (fun j:Nat=> [(0,.lsl gt 3 0 w),(1,.lsl gr 3 0 w),(7,.ptr (ro (some (-f k))).c),(19,.int .i64 w),(20,.int .i64 j)]) (fun j=>upd bl gt (some ⟨3,rqs w fun c=>if c<j then f c - f k*h c else f c⟩)) (fun j=>j≤w) (fun j=>w - j) _ 0 (Nat.zero_le _) ⟨rfl,by simp,sub_eq (by funext x;simp only[aA];split;rename_i e;rw[e,ht];simp;rfl)⟩ ?_
 intro j hj
 have wj:IntKind.i64.wrap ((j:Int)+1)=(j:Int)+1:=i64_in (by omega) (by omega)
 refine aE ?_
 simp
 refine aE ?_
 simp
 refine⟨fun hjw=> ?_,fun hjw=> ?_⟩
 ·have tY:(j:Int)<w:=by omega
  refine aO (aT ?_)
  refine aE ?_
  simp
  refine aE ?_
  simp[hne,Ne.symm hne,hr,hjw,tY,l3,t3]
  refine aD (iG (hh j hjw)) ?_
  simp
  have sM:(rqs w fun c=>if c<j then f c - f k*h c else f c).set j (ro (some (f j - f k*h j))).c=rqs w fun c=>if c<j+1 then f c - f k*h c else f c:=by
   rw[zN _ _ hjw]
   exact bV fun c _=>by
    by_cases e:c=j
    ·subst e;rw[if_pos rfl,if_pos (by omega)]
    ·rw[if_neg e]
     by_cases e2:c<j
     ·rw[if_pos e2,if_pos (by omega)]
     ·rw[if_neg e2,if_neg (by omega)]
  by_cases hz:h j=0
  ·have hs0:(rqs w fun c=>if c<j then f c - f k*h c else f c)=rqs w fun c=>if c<j+1 then f c - f k*h c else f c:=bV fun c _=>by
    by_cases e:c=j
    ·subst e;rw[if_neg (by omega),if_pos (by omega),hz];grind
    ·by_cases e2:c<j
     ·rw[if_pos e2,if_pos (by omega)]
     ·rw[if_neg e2,if_neg (by omega)]
   refine aC ?_
   simp[hz]
   refine aC ?_
   simp[wj,aB]
   refine⟨j+1,by omega,by omega,rfl,by simp,sub_eq ?_⟩
   rw[hs0]
  ·refine aC ?_
   simp[hz]
   have lM:=Nc (some (-f k)) (some (h j)) (okS okN) (okS (hh j hjw))
   have eM:op2 (· * ·) (some (-f k)) (some (h j))=some (-(f k*h j)):=by
    rw[show -(f k*h j)= -f k*h j by grind]
    refine zT ?_
    rw[show -f k*h j= -(f k*h j) by grind]
    exact pS (okS (hm j hjw)) _ rfl
   rw[eM] at lM
   have lA:=rO (some (f j)) (some (-(f k*h j))) (okS (hf j hjw)) (okS (pS (okS (hm j hjw)) _ rfl))
   have eA:op2 (· + ·) (some (f j)) (some (-(f k*h j)))=some (f j - f k*h j):=by
    rw[show f j - f k*h j=f j+ -(f k*h j) by grind]
    refine zT ?_
    rw[show f j+ -(f k*h j)=f j - f k*h j by grind]
    exact hs j hjw
   rw[eA] at lA
   refine bY aL [0,1,2,3,4,5,6,7,8,9,10,11,12,13] 1 14 (by kernel_rfl) ?_
   simp[hne,Ne.symm hne,hr,hjw,tY,l3,t3]
   refine aN lM ?_
   simp[hne,Ne.symm hne,hr,hjw,tY,l3,t3]
   refine aN lA ?_
   simp[hjw,tY]
   refine bZ (i:=14) (by kernel_rfl) rfl rfl rfl ?_
   generalize f j - f k*h j=y at sM
   simp[hjw,tY,RT.c]
   refine Dy ?_
   simp
   refine aC ?_
   simp[wj,aB]
   refine⟨j+1,by omega,by omega,rfl,by simp[RT.c],?_⟩
   rw[←sM]
   intro z b hz
   simp only[aA,RT.c,oS] at hz ⊢
   grind
 ·have aBM:j=w:=by omega
  subst aBM
  rw[lE]
  refine⟨[],by simp,hK _ (fun x y hx hx2=>by simp only;rw[aG _ _ _ _ hx2];exact hx) ?_⟩
  simp only
  rw[aV,bV fun c hc=>by rw[if_pos hc]]

def zpv (Z:Nat→Nat→Rat) (r k:Nat):Nat→Nat→Rat:=fun i c=>if i=r then Z r c / Z r k else Z i c - Z i k*(Z r c / Z r k)
def cpv (Z:Nat→Nat→Rat) (co:Nat→Rat) (r k:Nat):Nat→Rat:=fun c=>co c - co k*(Z r c / Z r k)
def pvS (bs:Nat→Nat) (r k:Nat):Nat→Nat:=fun i=>if i=r then k else bs i
def zAt (Z:Nat→Nat→Rat) (r k i:Nat):Nat→Nat→Rat:=fun a c=>if a=r then Z r c / Z r k else if a<i then zpv Z r k a c else Z a c
structure Yq (t : SN) : Prop where
 z: ∀i c,i<t.r→c<t.w→qB (t.Z i c)
 co: ∀c,c<t.w→qB (t.co c)
 w:t.w≤200
 r:t.r≤100
structure aQT where
 i:Nat
 b:Int→Option Blk
theorem yK {bl:Int→Option Blk} {K:V→(Int→Option Blk)→Prop} (g:SG) (t:SN) (r k:Nat) (hT:SS bl g t) (hr:r<t.r) (hk:k<t.w) (ht:Yq t) (hp:t.Z r k≠0) (ht':Yq ⟨t.r,t.w,t.n,zpv t.Z r k,cpv t.Z t.co r k,pvS t.bs r k⟩)
  (hK: ∀b',SS b' g ⟨t.r,t.w,t.n,zpv t.Z r k,cpv t.Z t.co r k,pvS t.bs r k⟩→(∀x y,bl x=some y→x∉g.all→b' x=some y)→K (.tup []) b'):
  cH Tryz.prog 250 [.loc g.T 4 0 0,.int .i64 r,.int .i64 k] bl K:=by
 obtain⟨gT,gR,gB,gC,ids⟩:=g
 obtain⟨R,w,n,Z,co,bs⟩:=t
 simp only at hr hk hp
 have hw:=ht.w
 have hR:=ht.r
 simp only at hw hR
 have hrR:(r:Int)<R:=by omega
 have hkw:(k:Int)<w:=by omega
 have bT:bl gT=_:=hT.hd
 have bG:bl gR=_:=hT.top
 have bB:bl gB=_:=hT.ba
 have bC:bl gC=_:=hT.cst
 have hil:=hT.len
 simp only at bT bG bB bC hil
 obtain⟨gr,hgr,Rt,aFA,aD7⟩:=hT.at r hr
 simp only at hgr Rt aD7
 have hgj: ∀h,ids[r]'h=gr:=fun h=>by rw[List.getElem?_eq_getElem h] at hgr;exact Option.some.inj hgr
 have l3: ∀q:Rat,(rq q).c.length=3:=fun _=>rfl
 have t3: ∀q:Rat,(rq q).c.take 3=(rq q).c:=fun _=>rfl
 have nd:=hT.nd
 simp only[SG.all,List.nodup_cons,List.mem_cons,not_or] at nd
 obtain⟨⟨nTR,nTB,nTC,nTi⟩,⟨nRB,nRC,nRi⟩,⟨nBC,nBi⟩,nCi,nds⟩:=nd
 have rT: ¬ gT=gr:=fun e=>nTi (e▸Rt)
 have rR: ¬ gR=gr:=fun e=>nRi (e▸Rt)
 refine cP Tryz.func250 rfl rfl (by rw[Tryz.ntmps250];simp) ?_
 rw[Tryz.ntmps250,Tryz.results250]
 refine aE ?_
 simp[bT,bG,hr,hrR,hk,hkw,hil,hgj,aD7,RT.c]
 intro g6 hg6 hb6
 refine cW 1 6 (.ptr (ro (some (Z r k))).c) bl (by intro z b hz;simp only[aA] at hz ⊢;grind) (by simp[frz,dropB,hb6,V.cl,RT.c]) ?_
 refine aO ?_
 refine aC ?_
 simp[bT,bG,hr,hrR,hil,hgj]
 refine aI (fun j:Nat=> [(0,.loc gT 4 0 0),(1,.int .i64 r),(2,.int .i64 k),(6,.ptr (ro (some (Z r k))).c),(26,.int .i64 w),(27,.int .i64 j)]) (fun j=>upd bl gr (some ⟨3,rqs w fun c=>if c<j then Z r c / Z r k else Z r c⟩)) (fun j=>j≤w) (fun j=>w - j) _ 0 (Nat.zero_le _) ⟨rfl,by simp,sub_eq (by funext x;simp only[aA];split;rename_i e;rw[e,aD7];simp;rfl)⟩ ?_
 intro j hj
 have wj:IntKind.i64.wrap ((j:Int)+1)=(j:Int)+1:=i64_in (by omega) (by omega)
 refine aE ?_
 simp
 refine aE ?_
 simp
 refine⟨fun hjw=> ?_,fun hjw=> ?_⟩
 ·have tY:(j:Int)<w:=by omega
  refine aO (aT ?_)
  refine aE ?_
  simp
  have lD:=Q2 (Z r j) (Z r k) (cN (ht.z r j hr hjw)) (cN (ht.z r k hr hk)) hp
  have hq:fits (Z r j / Z r k):=uC (ht.z r j hr hjw) (ht.z r k hr hk) hp
  have eD:fit (Z r j / Z r k)=some (Z r j / Z r k):=by simp[fit,hq]
  rw[eD] at lD
  have sM:(rqs w fun c=>if c<j then Z r c / Z r k else Z r c).set j (ro (some (Z r j / Z r k))).c=rqs w fun c=>if c<j+1 then Z r c / Z r k else Z r c:=by
   rw[zN _ _ hjw]
   exact bV fun c _=>by
    by_cases e:c=j
    ·subst e;rw[if_pos rfl,if_pos (by omega)]
    ·rw[if_neg e]
     by_cases e2:c<j
     ·rw[if_pos e2,if_pos (by omega)]
     ·rw[if_neg e2,if_neg (by omega)]
  refine bY aL [0,1,2,3,4,5,6,7,8,9,10,11,12,13,14,15,16,17,18,19,20] 1 21 (by kernel_rfl) ?_
  simp[rT,Ne.symm rT,rR,Ne.symm rR,bT,bG,hr,hrR,hil,hgj,hjw,tY,l3,t3]
  refine aN lD ?_
  simp[hjw,tY]
  refine bZ (i:=21) (by kernel_rfl) rfl rfl rfl ?_
  generalize Z r j / Z r k=y at sM
  simp[hjw,tY,RT.c]
  refine Dy ?_
  simp
  refine aC ?_
  simp[wj,aB]
  refine⟨j+1,by omega,by omega,rfl,by simp[RT.c],?_⟩
  rw[←sM]
  intro z b hz
  simp only[aA,RT.c,oS] at hz ⊢
  grind
 have aBM:j=w:=by omega
 subst aBM
 have Lv:(rqs j fun c=>if c<j then Z r c / Z r k else Z r c)=rqs j (zAt Z r k 0 r):=bV fun c hc=>by rw[if_pos hc];unfold zAt;rw[if_pos rfl]
 rw[Lv]
 have hS0:SS (upd bl gr (some ⟨3,rqs j (zAt Z r k 0 r)⟩)) ⟨gT,gR,gB,gC,ids⟩ ⟨R,j,n,zAt Z r k 0,co,bs⟩:=hT.put (i:=r) hgr (zAt Z r k 0) fun a c ha _=>by unfold zAt;rw[if_neg ha,if_neg (by omega)]
 refine aO ?_
 refine aC ?_
 simp[rT,Ne.symm rT,bT,rR,Ne.symm rR,bG]
 refine aI (fun s:aQT=> [(0,.loc gT 4 0 0),(1,.int .i64 r),(2,.int .i64 k),(56,.int .i64 R),(57,.int .i64 s.i)]) (fun s=>s.b) (fun s=>s.i≤R∧SS s.b ⟨gT,gR,gB,gC,ids⟩ ⟨R,j,n,zAt Z r k s.i,co,bs⟩∧ ∀x y,bl x=some y→x∉SG.all ⟨gT,gR,gB,gC,ids⟩→s.b x=some y) (fun s=>R - s.i) _ ⟨0,upd bl gr (some ⟨3,rqs j (zAt Z r k 0 r)⟩)⟩ ⟨Nat.zero_le _,hS0,fun x y hx hn=>by simp only;rw[aG _ _ _ _ (fun e=>hn (by rw[e];simp[SG.all,Rt]))];exact hx⟩ ⟨rfl,by simp,Sub.refl _⟩ ?_
 rintro⟨i,b⟩ ⟨hi,hS,hfb⟩
 simp only at hi hS hfb
 have wi:IntKind.i64.wrap ((i:Int)+1)=(i:Int)+1:=i64_in (by omega) (by omega)
 have cT:b gT=_:=hS.hd
 have cG:b gR=_:=hS.top
 have cB:b gB=_:=hS.ba
 have cC:b gC=_:=hS.cst
 simp only at cT cG cB cC
 have Ij:=hS.row r gr hgr
 simp only at Ij
 have aQU:rqs j (zAt Z r k i r)=rqs j fun c=>Z r c / Z r k:=bV fun c _=>by unfold zAt;rw[if_pos rfl]
 rw[aQU] at Ij
 have hzr: ∀c,c<j→fits (Z r c / Z r k):=fun c hc=>uC (ht.z r c hr hc) (ht.z r k hr hk) hp
 have hzt: ∀c,c<j→qB (Z r c / Z r k):=fun c hc=>by
  have:=ht'.z r c hr hc
  simp only[zpv,if_true] at this
  exact this
 refine aE ?_
 simp
 refine aE ?_
 simp
 refine⟨fun hiR=> ?_,fun hiR=> ?_⟩
 ·have Lc:(i:Int)<R:=by omega
  refine aO (aT ?_)
  refine aE ?_
  simp
  refine aE ?_
  simp
  by_cases hir:i=r
  ·have hz:zAt Z r k (i+1)=zAt Z r k i:=by
    funext a c
    unfold zAt
    by_cases e:a=r
    ·rw[if_pos e,if_pos e]
    ·rw[if_neg e,if_neg e]
     by_cases e2:a<i
     ·rw[if_pos e2,if_pos (by omega)]
     ·rw[if_neg e2,if_neg (by omega)]
   refine aC ?_
   have wi2:=wi
   have hS':=hS
   rw[hir] at wi2 hz hS'
   simp[hir]
   refine aC ?_
   simp[wi2,aB]
   refine⟨⟨r+1,b⟩,⟨by simp only;omega,by simp only;rw[hz];exact hS',hfb⟩,by simp only;omega,rfl,by simp,Sub.refl _⟩
  ·have aEK: ¬ (i:Int)=r:=by omega
   refine aC ?_
   simp[hir,aEK]
   obtain⟨gi,hgi,zJ,yZ,nT⟩:=hS.at i hiR
   simp only at hgi zJ nT
   have aWL: ∀h,ids[i]'h=gi:=fun h=>by rw[List.getElem?_eq_getElem h] at hgi;exact Option.some.inj hgi
   have hzi:rqs j (zAt Z r k i i)=rqs j (Z i):=bV fun c _=>by unfold zAt;rw[if_neg hir,if_neg (by omega)]
   rw[hzi] at nT
   have hne:gi≠gr:=fun e=>hir (hS.inj (i:=i) (j:=r) (by rw[hgi,e]) hgr)
   have iT: ¬ gT=gi:=fun e=>nTi (e▸zJ)
   have iR: ¬ gR=gi:=fun e=>nRi (e▸zJ)
   refine aY aL (rem b gi) (eH b gi) [0,1,2,3,4,5,6,7,8,9,10,11,12,13,14] 1 (by kernel_rfl) ?_
   simp[iT,iR,cT,cG,hr,hrR,hil,hgj,hiR,Lc,aWL]
   refine Dz 15 ?_
   simp
   refine qQ gi gr j k (Z i) (fun c=>Z r c / Z r k) hw hk nT Ij hne yZ aFA (fun c hc=>cN (ht.z i c hiR hc)) hzr (fun c hc=>B9 (ht.z i k hiR hk) (hzt c hc)) (fun c hc=> ?_) fun b' hx hb'=> ?_
   ·have:=ht'.z i c hiR hc
    simp only[zpv,if_neg hir] at this
    exact cN this
   simp
   refine⟨fun z y hz=> ?_,Dy ?_⟩
   ·rw[aF] at hz
    split at hz
    ·cases hz
    ·exact hx z y hz (by assumption)
   simp
   refine aC ?_
   simp[wi,aB]
   refine⟨⟨i+1,b'⟩,⟨by simp only;omega,?_,fun x y h1 h2=>hx x y (hfb x y h1 h2) fun e=>h2 (by rw[e];simp[SG.all,zJ])⟩,by simp only;omega,rfl,by simp,Sub.refl _⟩
   have aV7:=hS.put (i:=i) hgi (zAt Z r k (i+1)) fun a c ha _=>by
    simp only[zAt]
    by_cases e:a=r
    ·rw[if_pos e,if_pos e]
    ·rw[if_neg e,if_neg e]
     by_cases e2:a<i
     ·rw[if_pos e2,if_pos (by omega)]
     ·rw[if_neg e2,if_neg (by omega)]
   refine aV7.cZ fun x y hx1 hy=> ?_
   by_cases e:x=gi
   ·subst e
    rw[aV] at hy
    cases hy
    simp only
    rw[hb']
    congr 2
    exact bV fun c _=>by unfold zAt zpv;rw[if_neg hir,if_pos (by omega),if_neg hir]
   ·rw[aG _ _ _ _ e] at hy
    exact hx x y hy e
 have hie:i=R:=by omega
 subst hie
 have aP0:SS b ⟨gT,gR,gB,gC,ids⟩ ⟨i,j,n,zpv Z r k,co,bs⟩:=⟨hS.len,hS.top,fun a x ha=>by
  rw[hS.row a x ha]
  have hai:a<i:=by rw[←hil];exact(List.getElem?_eq_some_iff.1 ha).1
  simp only
  congr 2
  exact bV fun c _=>by
   unfold zAt
   by_cases e:a=r
   ·rw[if_pos e];unfold zpv;rw[if_pos e]
   ·rw[if_neg e,if_pos hai],hS.pos,hS.hd,hS.ba,hS.cst,hS.pT,hS.pR,hS.pB,hS.pC,hS.nd⟩
 have cTr: ¬ gT=gC:=nTC
 have cCr:gC≠gr:=fun e=>nCi (by rw[e];exact Rt)
 refine aE ?_
 refine aY aL (rem b gC) (eH b gC) [0,1,2,3,4,5,6,7,8,9,10,11] 1 (by kernel_rfl) ?_
 simp[nTC,nRC,cT,cG,hr,hrR,hil,hgj]
 refine Dz 12 ?_
 simp
 refine qQ gC gr j k co (fun c=>Z r c / Z r k) hw hk cC Ij cCr hS.pC aFA (fun c hc=>cN (ht.co c hc)) hzr (fun c hc=>B9 (ht.co k hk) (hzt c hc)) (fun c hc=>cN (ht'.co c hc)) fun b' hx hb'=> ?_
 simp
 refine⟨fun z y hz=> ?_,Dy ?_⟩
 ·rw[aF] at hz
  split at hz
  ·cases hz
  ·exact hx z y hz (by assumption)
 have hS2:SS b' ⟨gT,gR,gB,gC,ids⟩ ⟨i,j,n,zpv Z r k,cpv Z co r k,bs⟩:=(aP0.aDG (cpv Z co r k)).cZ fun x y hx1 hy=>by
  by_cases e:x=gC
  ·subst e
   simp only at hy
   rw[aV] at hy
   cases hy
   rw[hb'];rfl
  ·simp only at hy
   rw[aG _ _ _ _ e] at hy
   exact hx x y hy e
 have dT:b' gT=_:=hS2.hd
 have dB:b' gB=_:=hS2.ba
 simp only at dT dB
 simp
 refine aC ?_
 have hbp:0≤gB:=by
  rcases Int.lt_or_le gB 0 with e | e
  ·have:=hS.pB e;simp only at this;omega
  ·exact e
 have aWU:(iv (lb i bs)).set r [.int .i64 k]=iv (lb i (pvS bs r k)):=Qh bs hr
 simp[dT,dB,hr,hrR,aWU]
 rw[lE]
 refine⟨[],by simp,hK _ (hS2.aUE (pvS bs r k)) fun x y h1 h2=> ?_⟩
 have x1:x≠gB:=fun e=>h2 (by rw[e];simp[SG.all])
 have x2:x≠gC:=fun e=>h2 (by rw[e];simp[SG.all])
 simp only
 rw[aG _ _ _ _ x1]
 exact hx x y (hfb x y h1 h2) x2
end Go.Proofs.YticmgmemnpcbbaaGreat.Vm

namespace Go.Proofs.YticmgmemnpcbbaaGreat.Lp
set_option linter.unusedSimpArgs false
set_option linter.unusedVariables false
theorem vJ {m:Nat} {t:Tab} {C:Nat→Rat} {j:Nat} (hj: ∀i,i<m→t.bs i≠j):rc m (wl C (j+1)) t j= -1:=by
 unfold rc wl
 simp only
 rw[if_pos trivial,jU]
 ·grind
 ·intro i hi;rw[if_neg (hj i hi)];grind
theorem R8 {m:Nat} {t:Tab} {C:Nat→Rat} {j k:Nat} (hjk:j≠k) (hk: ∀i,i<m→t.bs i≠k):rc m (wl C (k+1)) t j=0:=by
 unfold rc wl
 simp only
 rw[if_neg hjk,jU]
 ·grind
 ·intro i hi;rw[if_neg (hk i hi)];grind
theorem Hl {m:Nat} {E:Nat→Nat→Rat} {t:Tab} {C:Nat→Rat} {j i:Nat} (h:TI m E t) (hi:i<m) (hj:j≠t.bs i):rc m (wl C (t.bs i+1)) t j=t.X i j:=by
 unfold rc wl
 simp only
 rw[if_neg hj,eG hi]
 ·rw[if_pos rfl];grind
 ·intro i' hi' hne
  rw[if_neg fun e=>hne (h.inj hi' hi e)];grind
def Deep (m:Nat) (C:Nat→Rat) (t:Tab) (j k:Nat) (s:Int):Prop:=
 (s=0∧ ∀q,q≤k→rc m (wl C q) t j=0)∨(s≠0∧ ∃q,q≤k∧(∀p,p<q→rc m (wl C p) t j=0)∧rc m (wl C q) t j≠0∧s=(rc m (wl C q) t j).num.sign)
theorem Jg {q:Rat} :0<q.num ↔ 0<q:=by
 have h1:=Rat.num_nonneg (q:=q)
 have h2:=Rat.num_eq_zero (q:=q)
 constructor
 ·intro h
  have h3:=h1.1 (by omega)
  have h4:q≠0:=fun e=>by rw[e] at h;exact absurd h (by decide)
  grind
 ·intro h
  have h3:=h1.2 (by grind)
  have h4:q.num≠0:=fun e=>by have:=h2.1 e;grind
  omega
theorem D4 {q:Rat} :0<q.num.sign ↔ 0<q:=by
 rw[←Jg]
 rcases Int.lt_trichotomy q.num 0 with h | h | h
 ·rw[Int.sign_eq_neg_one_of_neg h];omega
 ·rw[h];decide
 ·rw[Int.sign_eq_one_of_pos h];omega
theorem sign_zero {q:Rat} :q.num.sign=0 ↔ q=0:=by
 rw[Int.sign_eq_zero_iff_zero]
 exact Rat.num_eq_zero
theorem Deep.start (m:Nat) (C:Nat→Rat) (t:Tab) (j:Nat):Deep m C t j 0 (rc m C t j).num.sign:=by
 by_cases h:rc m C t j=0
 ·refine .inl ⟨sign_zero.2 h,fun q hq=> ?_⟩
  rw[show q=0 by omega];exact h
 ·exact .inr ⟨fun e=>h (sign_zero.1 e),0,Nat.le_refl _,fun p hp=>by omega,h,rfl⟩
theorem Deep.next {m:Nat} {C:Nat→Rat} {t:Tab} {j k:Nat} (h:Deep m C t j k 0) {s:Int} (hs:s=(rc m (wl C (k+1)) t j).num.sign):Deep m C t j (k+1) s:=by
 rcases h with ⟨_,h⟩| ⟨h,_⟩
 ·by_cases e:rc m (wl C (k+1)) t j=0
  ·refine .inl ⟨by rw[hs];exact sign_zero.2 e,fun q hq=> ?_⟩
   by_cases e2:q=k+1
   ·rw[e2];exact e
   ·exact h q (by omega)
  ·exact .inr ⟨fun e2=>e (sign_zero.1 (hs▸e2)),k+1,Nat.le_refl _,fun p hp=>h p (by omega),e,hs⟩
 ·exact absurd rfl h
theorem Deep.mono {m:Nat} {C:Nat→Rat} {t:Tab} {j k k':Nat} {s:Int} (h:Deep m C t j k s) (hs:s≠0) (hk:k≤k'):Deep m C t j k' s:=by
 rcases h with ⟨h,_⟩| ⟨h,q,h1,h2⟩
 ·exact absurd h hs
 ·exact .inr ⟨h,q,by omega,h2⟩
theorem Deep.end {m n:Nat} {C:Nat→Rat} {t:Tab} {j:Nat} {s:Int} (h:Deep m C t j n s):0<s ↔ iX (n+1) fun q=>rc m (wl C q) t j:=by
 rcases h with ⟨rfl,h⟩| ⟨h,q,h1,h2,h3,h4⟩
 ·constructor
  ·intro h0;omega
  ·rintro⟨q,q1,q2,q3⟩
   simp only at q2
   rw[h q (by omega)] at q2;exact absurd q2 (by decide)
 ·rw[h4]
  constructor
  ·intro h5;exact⟨q,by omega,D4.1 h5,fun p hp=>h2 p hp⟩
  ·rintro⟨p,p1,p2,p3⟩
   rcases Nat.lt_trichotomy p q with g | g | g
   ·simp only at p2;rw[h2 p g] at p2;exact absurd p2 (by decide)
   ·subst g;exact D4.2 p2
   ·exact absurd (p3 q g) h3
theorem Deep.own {m n:Nat} {C:Nat→Rat} {t:Tab} {j:Nat} (h:Deep m C t j j 0) (hj: ∀i,i<m→t.bs i≠j): ¬ iX (n+1) fun q=>rc m (wl C q) t j:=by
 rintro⟨q,q1,q2,q3⟩
 rcases h with ⟨_,h⟩| ⟨h,_⟩
 ·have h5:=vJ (C:=C) hj
  rcases Nat.lt_trichotomy q (j+1) with g | g | g
  ·simp only at q2;rw[h q (by omega)] at q2;exact absurd q2 (by decide)
  ·subst g;simp only at q2;rw[h5] at q2;exact absurd q2 (by decide)
  ·have:=q3 (j+1) g
   simp only at this
   rw[h5] at this;exact absurd this (by decide)
 ·exact h rfl
noncomputable def E0 (m : Nat) (C : Nat → Rat) (t : Tab) (j n : Nat) : Int := match fstP (fun q => rc m (wl C q) t j ≠ 0) (n + 1) with
 | some q => (rc m (wl C q) t j).num.sign
 | none => 0
theorem F8 (m:Nat) (C:Nat→Rat) (t:Tab) (j n:Nat):Deep m C t j n (E0 m C t j n):=by
 unfold E0
 cases h:fstP (fun q=>rc m (wl C q) t j≠0) (n+1) with
 | none =>
   have h1:=fD.1 h
   exact .inl ⟨rfl,fun q hq=>Classical.not_not.1 (h1 q (by omega))⟩
 | some q =>
   obtain⟨h1,h2,h3⟩:=dW.1 h
   exact .inr ⟨fun e=>h2 (sign_zero.1 e),q,by omega,fun p hp=>Classical.not_not.1 (h3 p hp),h2,rfl⟩
theorem Deep.uniq {m:Nat} {C:Nat→Rat} {t:Tab} {j n:Nat} {s s':Int} (h:Deep m C t j n s) (h':Deep m C t j n s'):s=s':=by
 rcases h with ⟨rfl,h⟩| ⟨h,q,h1,h2,h3,h4⟩<;>rcases h' with ⟨rfl,g⟩| ⟨g,p,g1,g2,g3,g4⟩
 ·rfl
 ·exact absurd (h p g1) g3
 ·exact absurd (g q h1) h3
 ·have:p=q:=by
   rcases Nat.lt_trichotomy p q with x | x | x
   ·exact absurd (h2 p x) g3
   ·exact x
   ·exact absurd (g2 q x) h3
  subst this
  rw[h4,g4]
theorem Deep.eq {m:Nat} {C:Nat→Rat} {t:Tab} {j n:Nat} {s:Int} (h:Deep m C t j n s):E0 m C t j n=s:=(F8 m C t j n).uniq h
theorem Ng {m n:Nat} {C:Nat→Rat} {t:Tab} {j:Nat} :0<E0 m C t j n ↔ iX (n+1) fun q=>rc m (wl C q) t j:=(F8 m C t j n).end
theorem Deep.self {m n:Nat} {C:Nat→Rat} {t:Tab} {j:Nat} (h:Deep m C t j j 0) (hj: ∀i,i<m→t.bs i≠j) (hn:j<n):E0 m C t j n= -1:=by
 have h1:=h.next (s:= -1) (by rw[vJ hj];rfl)
 exact(h1.mono (by decide) hn).eq
end Go.Proofs.YticmgmemnpcbbaaGreat.Lp

namespace Go.Proofs.YticmgmemnpcbbaaGreat.Vm
open Go Go.RowKit Go.Proofs
set_option linter.unusedSimpArgs false
set_option linter.unusedVariables false
def basic (r:Nat) (bs:Nat→Nat) (j:Nat):Prop:= ∃p,p<r∧bs p=j
instance (r : Nat) (bs : Nat → Nat) (j : Nat) : Decidable (basic r bs j) := by unfold basic; infer_instance
theorem Du (t:SN) (j:Nat) (hr:t.r≤100):RO Tryz.prog 247 [.ptr t.c,.int .i64 j] (.bool (decide (basic t.r t.bs j))):=by
 obtain⟨R,w,n,Z,co,bs⟩:=t
 simp only at hr
 refine aJ Tryz.func247 rfl rfl (by rw[Tryz.ntmps247];simp) fun bl=> ?_
 rw[Tryz.ntmps247,Tryz.results247]
 refine aC ?_
 simp[SN.c]
 refine aI (fun i:Nat=> [(1,.int .i64 j),(10,.sl (iv (lb R bs))),(11,.int .i64 R),(12,.int .i64 i)]) (fun _=>bl) (fun i=>i≤R∧ ∀p,p<i→bs p≠j) (fun i=>R - i) _ 0 ⟨Nat.zero_le _,fun p hp=>by omega⟩ ⟨rfl,by simp,Sub.refl _⟩ ?_
 rintro i ⟨hi,bH⟩
 have wi:IntKind.i64.wrap ((i:Int)+1)=(i:Int)+1:=i64_in (by omega) (by omega)
 refine aC ?_
 simp
 refine⟨fun hiR=> ?_,fun hiR=> ?_⟩
 ·simp[hiR]
  refine⟨fun hb=> ?_,fun hb=> ?_⟩
  ·have hd:basic R bs j:=⟨i,hiR,by omega⟩
   exact aS (by simp[hd]) rfl rfl
  ·simp[wi,aB]
   refine⟨i+1,⟨by omega,fun p hp=> ?_⟩,by omega,rfl,by simp,Sub.refl _⟩
   by_cases e:p=i
   ·rw[e];omega
   ·exact bH p (by omega)
 ·have: ¬ basic R bs j:=fun⟨p,hp,e⟩=>bH p (by omega) e
  exact aS (by simp[this]) rfl rfl
theorem U0 (t:SN) (j:Nat) (hj:j<t.w) (hf:fits (t.co j)):RO Tryz.prog 248 [.ptr t.c,.int .i64 j,.bool false] (.int .i64 (t.co j).num.sign):=by
 obtain⟨R,w,n,Z,co,bs⟩:=t
 simp only at hj hf
 have hjw:(j:Int)<w:=by omega
 have l3: ∀q:Rat,(rq q).c.length=3:=fun _=>rfl
 have t3: ∀q:Rat,(rq q).c.take 3=(rq q).c:=fun _=>rfl
 refine aJ Tryz.func248 rfl rfl (by rw[Tryz.ntmps248];simp) fun bl=> ?_
 rw[Tryz.ntmps248,Tryz.results248]
 refine aC ?_
 simp[SN.c,hj,hjw,l3,t3]
 refine aD (iG hf) ?_
 simp
 obtain⟨s,hs⟩: ∃s,(co j).num.sign=s:=⟨_,rfl⟩
 rw[hs]
 refine aI (fun _:Unit=> [(0,.ptr [.int .i64 n,.sl (rrs R w Z),.sl (iv (lb R bs)),.sl (rqs w co)]),(1,.int .i64 j),(2,.bool false),(7,.int .i64 s),(8,.int .i64 0)]) (fun _=>bl) (fun _=>True) (fun _=>0) _ () trivial ⟨rfl,by simp,Sub.refl _⟩ ?_
 rintro⟨⟩ -
 refine aO (aO ?_)
 refine bN [(0,.ptr [.int .i64 n,.sl (rrs R w Z),.sl (iv (lb R bs)),.sl (rqs w co)]),(1,.int .i64 j),(2,.bool false),(7,.int .i64 s),(8,.int .i64 0)] _ bl 31 (.bool false) ⟨rfl,by simp,Sub.refl _⟩ rfl ?_ ?_
 ·simp
 simp
 refine aC ?_
 simp
 exact aS (by simp) rfl rfl
structure View (m b : Nat) (E : Nat → Nat → Rat) (T : Lp.Tab) (rows : List Nat) (t : SN) : Prop where
 ti:Lp.TI m E T
 rr:Rows m rows
 len:t.r=rows.length
 bs: ∀p,p<t.r→t.bs p=T.bs (atR rows p)
 nl:t.n≤100
 rl:t.r≤100
 nw:t.w=t.n+1
 wl:t.w≤200
 dead: ∀i,i<m→i∉rows→t.n≤T.bs i
 z: ∀p j,p<t.r→j<t.n→t.Z p j=T.X (atR rows p) j
 zb: ∀p,p<t.r→t.Z p t.n=T.X (atR rows p) b
 tm:Yq t
theorem View.nb {m b:Nat} {E:Nat→Nat→Rat} {T:Lp.Tab} {rows:List Nat} {t:SN} (h:View m b E T rows t) {k:Nat} (hk:k<t.n) (hb: ∀p,p<t.r→t.bs p≠k): ∀i,i<m→T.bs i≠k:=fun i hi e=>by
 rcases Classical.em (i∈rows) with g | g
 ·obtain⟨p,hp,e2⟩:=List.mem_iff_getElem.1 g
  have hp':p<t.r:=by rw[h.len];exact hp
  refine hb p hp' ?_
  rw[h.bs p hp',show atR rows p=i by unfold atR;rw[List.getD_eq_getElem?_getD,List.getElem?_eq_getElem hp,e2];rfl,e]
 ·have:=h.dead i hi g;omega
structure aAZ where
 k:Nat
 s:Int
theorem X2 {m b:Nat} {E:Nat→Nat→Rat} {C:Nat→Rat} {T:Lp.Tab} {rows:List Nat} {t:SN} (h:View m b E T rows t) (j:Nat) (hjn:j<t.n) (hnb: ¬ basic t.r t.bs j) (hco:t.co j=Lp.rc m C T j):
  RO Tryz.prog 248 [.ptr t.c,.int .i64 j,.bool true] (.int .i64 (Lp.E0 m C T j t.n)):=by
 have hjw:j<t.w:=by have:=h.nw;omega
 have hf:fits (t.co j):=cN (h.tm.co j hjw)
 have hfZ: ∀p,p<t.r→fits (t.Z p j):=fun p hp=>cN (h.tm.z p j hp hjw)
 have hnl:=h.nl
 have hrl:=h.rl
 have hTj: ∀i,i<m→T.bs i≠j:=h.nb hjn fun p hp e=>hnb ⟨p,hp,e⟩
 have hbs:=h.bs
 have hz:=h.z
 have aLX:= @View.nb _ _ _ _ _ _ h
 have hlen:=h.len
 have hR:=h.rr
 have hti:=h.ti
 clear h
 obtain⟨R,w,n,Z,co,bs⟩:=t
 simp only at hjn hnb hco hjw hf hfZ hnl hrl hbs hz aLX hlen
 have tY:(j:Int)<w:=by omega
 have l3: ∀q:Rat,(rq q).c.length=3:=fun _=>rfl
 have t3: ∀q:Rat,(rq q).c.take 3=(rq q).c:=fun _=>rfl
 refine aJ Tryz.func248 rfl rfl (by rw[Tryz.ntmps248];simp) fun bl=> ?_
 rw[Tryz.ntmps248,Tryz.results248]
 refine aC ?_
 simp[SN.c,hjw,tY,l3,t3]
 refine aD (iG hf) ?_
 simp
 have hD0:=Lp.Deep.start m C T j
 rw[←hco] at hD0
 refine aI (fun s:aAZ=> [(0,.ptr [.int .i64 n,.sl (rrs R w Z),.sl (iv (lb R bs)),.sl (rqs w co)]),(1,.int .i64 j),(2,.bool true),(7,.int .i64 s.s),(8,.int .i64 s.k)]) (fun _=>bl) (fun s=>s.k≤n∧Lp.Deep m C T j s.k s.s) (fun s=>n - s.k) _ ⟨0,(co j).num.sign⟩ ⟨Nat.zero_le _,hD0⟩ ⟨rfl,by simp,Sub.refl _⟩ ?_
 rintro⟨k,s⟩ ⟨hk,hD⟩
 simp only at hk hD
 have wk:IntKind.i64.wrap ((k:Int)+1)=(k:Int)+1:=i64_in (by omega) (by omega)
 refine aO (aO ?_)
 refine bN [(0,.ptr [.int .i64 n,.sl (rrs R w Z),.sl (iv (lb R bs)),.sl (rqs w co)]),(1,.int .i64 j),(2,.bool true),(7,.int .i64 s),(8,.int .i64 k)] _ bl 31 (.bool (decide (s=0∧k<n))) ⟨rfl,by simp,Sub.refl _⟩ rfl ?_ ?_
 ·simp
  by_cases h0:s=0<;>simp[h0]
 simp
 refine aC ?_
 simp
 refine⟨fun h0 hkn=> ?_,fun hno=> ?_⟩
 ·subst h0
  refine aC ?_
  simp
  refine⟨fun hkj=> ?_,fun hkj=> ?_⟩
  ·have hkj:k=j:=by omega
   subst hkj
   exact aS (by simp[hD.self hTj hkn]) rfl rfl
  have hkj:k≠j:=by omega
  refine aI (fun q:aAZ=> [(0,.ptr [.int .i64 n,.sl (rrs R w Z),.sl (iv (lb R bs)),.sl (rqs w co)]),(1,.int .i64 j),(2,.bool true),(7,.int .i64 q.s),(8,.int .i64 k),(40,.sl (iv (lb R bs))),(41,.int .i64 R),(42,.int .i64 q.k)]) (fun _=>bl) (fun q=>q.k≤R∧((q.s=0∧ ∀p,p<q.k→bs p≠k)∨ ∃p,p<q.k∧bs p=k∧q.s=(Z p j).num.sign)) (fun q=>R - q.k) _ ⟨0,0⟩ ⟨Nat.zero_le _,.inl ⟨rfl,fun p hp=>by simp only at hp;omega⟩⟩ ⟨rfl,by simp,Sub.refl _⟩ ?_
  rintro⟨i,s⟩ ⟨hi,hs⟩
  simp only at hi hs
  have wi:IntKind.i64.wrap ((i:Int)+1)=(i:Int)+1:=i64_in (by omega) (by omega)
  refine aC ?_
  simp
  refine⟨fun hiR=> ?_,fun hiR=> ?_⟩
  ·have Lc:(i:Int)<R:=by omega
   simp[hiR]
   refine⟨fun hb=> ?_,fun hb=> ?_⟩
   ·have hb:bs i=k:=by omega
    simp[hiR,Lc,hjw,tY,l3,t3]
    refine aD (iG (hfZ i hiR)) ?_
    simp[wi,aB]
    refine⟨⟨i+1,(Z i j).num.sign⟩,⟨by simp only;omega,.inr ⟨i,by simp only;omega,hb,rfl⟩⟩,by simp only;omega,rfl,by simp,Sub.refl _⟩
   ·have hb:bs i≠k:=by omega
    simp[wi,aB]
    refine⟨⟨i+1,s⟩,⟨by simp only;omega,?_⟩,by simp only;omega,rfl,by simp,Sub.refl _⟩
    simp only
    rcases hs with ⟨h1,h2⟩| ⟨p,h1,h2,h3⟩
    ·refine .inl ⟨h1,fun p hp=> ?_⟩
     by_cases e:p=i
     ·rw[e];exact hb
     ·exact h2 p (by omega)
    ·exact .inr ⟨p,by omega,h2,h3⟩
  have hie:i=R:=by omega
  subst hie
  have qE:Lp.Deep m C T j (k+1) s:=by
   refine hD.next ?_
   rcases hs with ⟨h1,h2⟩| ⟨p,h1,h2,h3⟩
   ·rw[h1,Lp.R8 (Ne.symm hkj) (aLX hkn h2)];rfl
   ·have e1:=hbs p h1
    have hin:atR rows p<m:=hR.lt (cU (by omega))
    rw[h3,hz p j h1 hjn,←h2,e1,Lp.Hl hti hin (by rw[←e1,h2];exact Ne.symm hkj)]
  simp[wk,aB]
  refine⟨⟨k+1,s⟩,⟨by simp only;omega,qE⟩,by simp only;omega,rfl,by simp,Sub.refl _⟩
 ·have hE:Lp.E0 m C T j n=s:=by
   rcases Classical.em (s=0) with e | e
   ·have:k=n:=by have:=hno e;omega
    subst this;exact hD.eq
   ·exact(hD.mono e hk).eq
  exact aS (by simp[hE]) rfl rfl
end Go.Proofs.YticmgmemnpcbbaaGreat.Vm

namespace Go.Proofs.YticmgmemnpcbbaaGreat.Vm
open Go Go.RowKit Go.Proofs
set_option linter.unusedSimpArgs false
set_option linter.unusedVariables false
def isGC :Oper→Bool
 | ⟨_, .call ⟨.value _, _, _⟩, _, _, _, some _⟩ => true
 | _ => false
section
variable (P : Program) (ds : List (Option Tmp)) (blK : Int → Option Blk)
def HoistG :List Oper→(St→Prop)→St→Prop
 | [], K, σ => K σ
 | o :: rest, K, σ => match o with
   | ⟨d,.call ⟨.value f,args,_⟩,_,_,_,some (j,b)⟩=>match ds[j]? with
     | some (some t)=>match σ.ev (.tmp t) with
       | .bool q=>if q=b then bQ (callV σ f args.toList) fun p=> ∃v,RO P p.1 p.2 v∧HoistG rest K (σ.put d v) else HoistG rest K (σ.put d (.tup []))
       | .tup []=>HoistG rest K (σ.put d (.tup []))
       | _=>False
     | _=>False
   | o=>HoistF P ds blK [o] (HoistG rest K) σ
def gcK (rest:List Oper) (K:St→Prop) (σ:St) (d:Option Tmp) (o:Option (FuncId×List V)):Prop:=bQ o fun p=> ∃v,RO P p.1 p.2 v∧HoistG P ds blK rest K (σ.put d v)
def gcV (rest:List Oper) (K:St→Prop) (σ:St) (d:Option Tmp) (f:Operand) (args:Array Operand) (b:Bool) (x:V):Prop:=match x with
 | .bool q => if q = b then gcK P ds blK rest K σ d (callV σ f args.toList) else HoistG P ds blK rest K (σ.put d (.tup []))
 | .tup [] => HoistG P ds blK rest K (σ.put d (.tup []))
 | _ => False
def gcS (rest:List Oper) (K:St→Prop) (σ:St) (d:Option Tmp) (f:Operand) (args:Array Operand) (b:Bool) (x:Option (Option Tmp)):Prop:=match x with
 | some (some t) => gcV P ds blK rest K σ d f args b (σ.ev (.tmp t))
 | _ => False
variable (rest : List Oper) (K : St → Prop) (σ : St) (d : Option Tmp) (f : Operand) (args : Array Operand) (ats : Array TypeId) (ty : TypeId) (pos : String) (af : Array Edge) (b : Bool)
@[simp] theorem aB7 : HoistG P ds blK [] K σ = K σ := (rfl)
@[simp] theorem yV (j : Nat) : HoistG P ds blK (⟨d, .call ⟨.value f, args, ats⟩, ty, pos, af, some (j, b)⟩ :: rest) K σ = gcS P ds blK rest K σ d f args b (ds[j]?) := (rfl)
@[simp] theorem aNU (t : Tmp) : gcS P ds blK rest K σ d f args b (some (some t)) = gcV P ds blK rest K σ d f args b (σ.ev (.tmp t)) := (rfl)
@[simp] theorem aVF : gcV P ds blK rest K σ d f args false (.bool false) = gcK P ds blK rest K σ d (callV σ f args.toList) := by simp [gcV]
@[simp] theorem aU1 : gcV P ds blK rest K σ d f args false (.bool true) = HoistG P ds blK rest K (σ.put d (.tup [])) := by simp [gcV]
@[simp] theorem aQO : gcV P ds blK rest K σ d f args b (.tup []) = HoistG P ds blK rest K (σ.put d (.tup [])) := (rfl)
theorem dN {o:Oper} (h:isGC o=false):HoistG P ds blK (o::rest) K σ=HoistF P ds blK [o] (HoistG P ds blK rest K) σ:=by
 obtain⟨d,op,ty,pos,af,gd⟩:=o
 unfold HoistG
 split
 ·rename_i heq
  cases heq
  cases h
 ·rfl
end
section
variable (P : Program) (ds : List (Option Tmp)) (blK : Int → Option Blk) (rest : List Oper) (K : St → Prop) (σ : St) (d : Option Tmp) (ty : TypeId) (pos : String) (af : Array Edge) (g : Nat × Bool)
attribute [-simp] C2
@[simp high] theorem Xg : HoistF P ds blK [] K σ = K σ := (rfl)
theorem Mw (op:Op):isGC ⟨d,op,ty,pos,af,none⟩=false:=by
 unfold isGC
 split
 ·rename_i h;cases h
 ·rfl
@[simp] theorem aAP (op : Op) : HoistG P ds blK (⟨d, op, ty, pos, af, none⟩ :: rest) K σ = HoistF P ds blK [⟨d, op, ty, pos, af, none⟩] (HoistG P ds blK rest K) σ := dN _ _ _ _ _ _ (Mw _ _ _ _ _)
@[simp] theorem Zr (x : Operand) : HoistG P ds blK (⟨d, .move x, ty, pos, af, some g⟩ :: rest) K σ = HoistF P ds blK [⟨d, .move x, ty, pos, af, some g⟩] (HoistG P ds blK rest K) σ := dN _ _ _ _ _ _ rfl
@[simp] theorem Zq (c a b : Operand) : HoistG P ds blK (⟨d, .pick c a b, ty, pos, af, some g⟩ :: rest) K σ = HoistF P ds blK [⟨d, .pick c a b, ty, pos, af, some g⟩] (HoistG P ds blK rest K) σ := dN _ _ _ _ _ _ rfl
@[simp] theorem Zj (t : TypeId) (x : Operand) : HoistG P ds blK (⟨d, .load t x, ty, pos, af, some g⟩ :: rest) K σ = HoistF P ds blK [⟨d, .load t x, ty, pos, af, some g⟩] (HoistG P ds blK rest K) σ := dN _ _ _ _ _ _ rfl
@[simp] theorem Ni (x : Operand) : HoistG P ds blK (⟨d, .nilCheck x, ty, pos, af, some g⟩ :: rest) K σ = HoistF P ds blK [⟨d, .nilCheck x, ty, pos, af, some g⟩] (HoistG P ds blK rest K) σ := dN _ _ _ _ _ _ rfl
@[simp] theorem Wi (op : BinOp) (t : TypeId) (x y : Operand) (t2 : TypeId) : HoistG P ds blK (⟨d, .binOp op t x y t2, ty, pos, af, some g⟩ :: rest) K σ = HoistF P ds blK [⟨d, .binOp op t x y t2, ty, pos, af, some g⟩] (HoistG P ds blK rest K) σ := dN _ _ _ _ _ _ rfl
@[simp] theorem Mt (t : TypeId) (x : Operand) (i : Nat) : HoistG P ds blK (⟨d, .fieldAddr t x i, ty, pos, af, some g⟩ :: rest) K σ = HoistF P ds blK [⟨d, .fieldAddr t x i, ty, pos, af, some g⟩] (HoistG P ds blK rest K) σ := dN _ _ _ _ _ _ rfl
@[simp] theorem Ml (t : TypeId) (x i : Operand) : HoistG P ds blK (⟨d, .indexAddr t x i, ty, pos, af, some g⟩ :: rest) K σ = HoistF P ds blK [⟨d, .indexAddr t x i, ty, pos, af, some g⟩] (HoistG P ds blK rest K) σ := dN _ _ _ _ _ _ rfl
end
theorem Aw {P:Program} {ds:List (Option Tmp)} {blK:Int→Option Blk} {rest:List Oper} {K:St→Prop} {σ:St} {d:Option Tmp} {f:FuncId} {xs:List V} {v:V} (h:RO P f xs v) (hK:HoistG P ds blK rest K (σ.put d v)):gcK P ds blK rest K σ d (some (f,xs)):=
 ⟨_,rfl,v,h,hK⟩
theorem O3 {o:Oper} (h:isGC o=true): ∃d f args ats ty pos af j b,o=⟨d,.call ⟨.value f,args,ats⟩,ty,pos,af,some (j,b)⟩:=by
 unfold isGC at h
 split at h
 ·rename_i d f args ats ty pos af jb
  obtain⟨j,b⟩:=jb
  exact⟨_,_,_,_,_,_,_,_,_,rfl⟩
 ·cases h
theorem Gw {P:Program} {ds:List (Option Tmp)} {blK:Int→Option Blk} {K:St→Prop} {σ:St} {ops:Array Oper} {o:Oper} (hd:ds=ops.toList.map (·.dst)) (h:HoistF P ds blK [o] K σ) {k:Nat} (h0:ops[k]? =some o): ∃v,DY P ops blK o σ v∧K (σ.put o.dst v):=by
 have:=iE (P:=P) (ops:=ops) (blK:=blK) (K:=K) [o] [k] σ (by simp[h0]) (by rw[←hd];exact h)
 unfold Hoist at this
 rw[h0] at this
 exact this
theorem Q1 {P:Program} {ops:Array Oper} {blK:Int→Option Blk} {K:St→Prop} : ∀(l:List Oper) (k:Nat) (σ:St),(∀j,l[j]? =ops[k+j]?)→HoistG P (ops.toList.map (·.dst)) blK l K σ→Hoist P ops blK (List.range' k l.length) K σ
 | [], k, σ, _, h => h
 | o :: rest, k, σ, hl, h => by
   have h0:ops[k]? =some o:=by simpa using (hl 0).symm
   have ih:=fun σ' (h':HoistG P (ops.toList.map (·.dst)) blK rest K σ')=>Q1 rest (k+1) σ' (fun j=>by have:=hl (j+1);simpa [Nat.add_assoc,Nat.add_comm 1 j] using this) h'
   have hds: ∀(j:Nat) d,(ops.toList.map (·.dst))[j]? =some (some d)→(ops[j]?).bind (·.dst)=some d:=by
    intro j d hd
    rw[List.getElem?_map,Array.getElem?_toList] at hd
    rcases h:ops[j]? with _ | o
    ·rw[h] at hd;cases hd
    ·rw[h] at hd;simpa using hd
   show Hoist P ops blK (k::List.range' (k+1) rest.length) K σ
   unfold Hoist
   rw[h0]
   simp only
   cases hgc:isGC o with
   | false=>
     rw[dN _ _ _ _ _ _ hgc] at h
     obtain⟨v,h1,h2⟩:=Gw rfl h h0
     exact⟨v,h1,ih _ h2⟩
   | true=>
     obtain⟨d,f,args,ats,ty,pos,af,j,b,rfl⟩:=O3 hgc
     rw[yV] at h
     unfold DY
     simp only
     unfold gcS at h
     split at h
     ·rename_i t hd
      rw[hds j t hd]
      simp only
      unfold gcV at h
      split at h
      ·rename_i q hq
       rw[hq]
       split at h
       ·rename_i hqb
        obtain⟨p,hp,v,h1,h2⟩:=h
        exact⟨v,⟨fun _=> .inr ⟨_,f,p,0,[],rfl,rfl,hp,.inr (Yz h1)⟩,fun hh=>by subst hqb;cases q<;>cases hh⟩,ih _ h2⟩
       ·rename_i hqb
        exact⟨.tup [],⟨fun hh=>absurd hh hqb,fun _=>rfl⟩,ih _ h⟩
      ·rename_i hq
       rw[hq]
       exact⟨.tup [],rfl,ih _ h⟩
      ·exact h.elim
     ·exact h.elim
theorem vN {P:Program} {ds:List (Option Tmp)} {blK:Int→Option Blk} {K:St→Prop} (S:List (Option Tmp)) (σ0:St): ∀(l:List Oper) (σ:St),HoistG P ds blK l K σ→(∀o,o∈l→o.dst∈S)→(σ.n=σ0.n∧ ∀t,some t∉S→σ.sl t=σ0.sl t)→
  HoistG P ds blK l (fun σ'=>K σ'∧σ'.n=σ0.n∧ ∀t,some t∉S→σ'.sl t=σ0.sl t) σ
 | [], σ, h, _, h0 => ⟨h, h0⟩
 | o :: rest, σ, h, hS, h0 => by
   have cZ: ∀v,(σ.put o.dst v).n=σ0.n∧ ∀t,some t∉S→(σ.put o.dst v).sl t=σ0.sl t:=fun v=>by
    have hd:=hS o List.mem_cons_self
    cases hod:o.dst with
    | none => exact h0
    | some d =>
      rw[hod] at hd
      exact⟨h0.1,fun t ht=>by
       show upd σ.sl d v t=_
       rw[aG _ _ _ _ (fun e=>ht (by rw[e];exact hd))];exact h0.2 t ht⟩
   have next: ∀σ',HoistG P ds blK rest K σ'→(σ'.n=σ0.n∧ ∀t,some t∉S→σ'.sl t=σ0.sl t)→HoistG P ds blK rest (fun σ'=>K σ'∧σ'.n=σ0.n∧ ∀t,some t∉S→σ'.sl t=σ0.sl t) σ':=fun σ' hv hk=>
    vN S σ0 rest _ hv (fun o' ho'=>hS o' (List.mem_cons_of_mem _ ho')) hk
   cases hgc:isGC o with
   | false=>
     rw[dN _ _ _ _ _ _ hgc] at h ⊢
     have:=pG S σ0 [o] σ h (fun o' ho'=>hS o' (by rw[List.mem_singleton.1 ho'];exact List.mem_cons_self)) h0
     revert this
     have mono: ∀(K1 K2:St→Prop),(∀σ',K1 σ'→K2 σ')→HoistF P ds blK [o] K1 σ→HoistF P ds blK [o] K2 σ:=by
      intro K1 K2 hK hh
      unfold HoistF at hh ⊢
      cases hg:o.guard with
      | none =>
        simp only[hg] at hh ⊢
        split at hh
        ·obtain⟨p,h1,v,n,ys,h2,h3⟩:=hh
         exact⟨p,h1,v,n,ys,h2,hK _ h3⟩
        ·obtain⟨v,h1,h2⟩:=hh
         exact⟨v,h1,hK _ h2⟩
      | some jb =>
        obtain⟨j,b⟩:=jb
        simp only[hg] at hh ⊢
        split at hh
        ·split at hh
         ·split at hh
          ·rename_i hq
           obtain⟨v,h1,h2⟩:=hh
           rw[if_pos hq]
           exact⟨v,h1,hK _ h2⟩
          ·rename_i hq
           rw[if_neg hq]
           exact hK _ hh
         ·exact hK _ hh
         ·exact hh.elim
        ·exact hh.elim
     exact mono _ _ fun σ' hk=>next σ' hk.1 hk.2
   | true=>
     obtain⟨d,f,args,ats,ty,pos,af,j,b,rfl⟩:=O3 hgc
     rw[yV] at h ⊢
     unfold gcS at h ⊢
     split at h
     ·unfold gcV at h ⊢
      split at h
      ·split at h
       ·rename_i hq
        obtain⟨p,hp,v,h1,h2⟩:=h
        rw[if_pos hq]
        exact⟨p,hp,v,h1,next _ h2 (cZ v)⟩
       ·rename_i hq
        rw[if_neg hq]
        exact next _ h (cZ _)
      ·exact next _ h (cZ _)
      ·exact h.elim
     ·exact h.elim
theorem Uw {P:Program} {id:Nat} {ops:Array Oper} {K:Ex→St→Prop} {σ:St} (hm:P.follows .mixedOrders=true) (hB:C3 ops=true) (l:List (Nat×V)) (n:Nat) (bl:Int→Option Blk) (t:Nat) (v:V) (hf:Fit l n bl σ) (hd:(l.all fun p=> !(ops.toList.map (·.dst)).contains (some p.1))=true)
  (h1:HoistG P (ops.toList.map (·.dst)) bl ops.toList (fun σ'=>σ'.sl t=v∧σ'.bl=bl) ⟨n,hv l,bl⟩) (h2:K .normal ⟨n,hv ((t,v)::l),bl⟩):AW P (.region id ops true) K σ:=by
 refine dJ l n bl hf ?_
 have hq:AW P (.region id ops true) (fun e σ'=>e= .normal∧(σ'.sl t=v∧σ'.bl=bl)∧σ'.n=n∧ ∀u,some u∉ops.toList.map (·.dst)→σ'.sl u=hv l u) ⟨n,hv l,bl⟩:=by
  have hB2:=hB
  simp only[C3,Bool.and_eq_true,List.isEmpty_iff] at hB2
  refine sO hm hB2.1 hB2.2 ?_
  have:=vN (ops.toList.map (·.dst)) ⟨n,hv l,bl⟩ ops.toList ⟨n,hv l,bl⟩ h1 (fun o ho=>List.mem_map_of_mem ho) ⟨rfl,fun _ _=>rfl⟩
  have:=Q1 ops.toList 0 ⟨n,hv l,bl⟩ (fun j=>by simp) this
  rw[List.range_eq_range',←Array.length_toList]
  simpa using this
 intro w0 M F a w hs
 refine wp_mono (hq w0 M F a w hs) fun e a' w' hp=> ?_
 obtain⟨ex,σ',F',e1,e2,e3,rfl,⟨k1,k2⟩,k3,k4⟩:=hp
 refine⟨.normal,⟨n,hv ((t,v)::l),bl⟩,F',e1,e2,e3.le ?_,h2⟩
 refine O0 ⟨k3,fun p hp=> ?_,by rw[k2];exact Sub.refl _⟩
 rcases List.mem_cons.1 hp with rfl | hp
 ·exact k1
 ·have:=List.all_eq_true.1 hd p hp
  have h5:some p.1∉ops.toList.map (·.dst):=by
   intro hc
   rw[Bool.not_eq_true'] at this
   have h6:=List.contains_iff_mem.2 hc
   rw[this] at h6;cases h6
  rw[k4 _ h5,Ib l hf.2.1 p hp,hf.2.1 p hp]
end Go.Proofs.YticmgmemnpcbbaaGreat.Vm
