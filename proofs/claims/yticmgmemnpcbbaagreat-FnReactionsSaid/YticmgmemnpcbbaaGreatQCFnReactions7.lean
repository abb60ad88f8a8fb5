import Derived.Test.YticmgmemnpcbbaaGreatQCFnReactions6

namespace Go.Proofs.YticmgmemnpcbbaaGreat.Vm
open Go Go.RowKit Go.Proofs
set_option linter.unusedSimpArgs false
set_option linter.unusedVariables false
@[simp] theorem Uw (x y : Int) : splice (biC x) 0 (biC y) = biC y := by simp [splice, biC]
@[simp] theorem aC1 (x : Int) : (biC x).take 2 = biC x := rfl
def zv (n:Nat) (f:Nat→Int):List (List V):=(List.range n).map fun c=>biC (f c)
@[simp] theorem Us (n : Nat) (f : Nat → Int) : (zv n f).length = n := by simp [zv]
@[simp] theorem A8 (n : Nat) (f : Nat → Int) (c : Nat) (h : c < (zv n f).length) : (zv n f)[c] = biC (f c) := by simp [zv]
theorem aFT (n:Nat) (f:Nat→Int):(zv n f).all (fun e=>e.all V.cl)=true:=by simp[zv,Fj]
def zzv (r n:Nat) (Z:Nat→Nat→Int):List (List V):=(List.range r).map fun i=> [.sl (zv n (Z i))]
@[simp] theorem Uk (r n : Nat) (Z : Nat → Nat → Int) : (zzv r n Z).length = r := by simp [zzv]
@[simp] theorem Gp (r n : Nat) (Z : Nat → Nat → Int) (i : Nat) (h : i < (zzv r n Z).length) : (zzv r n Z)[i] = [.sl (zv n (Z i))] := by simp [zzv]
def lb (r:Nat) (bs:Nat→Nat):List Int:=(List.range r).map fun i=>(bs i:Int)
@[simp] theorem Az (r : Nat) (bs : Nat → Nat) : (lb r bs).length = r := by simp [lb]
@[simp] theorem tZ (r : Nat) (bs : Nat → Nat) (i : Nat) (h : i < (lb r bs).length) : (lb r bs)[i] = (bs i : Int) := by simp [lb]
def lv (n:Nat) (f:Nat→Bool):List (List V):=(List.range n).map fun c=> [.bool (f c)]
@[simp] theorem Vh (n : Nat) (f : Nat → Bool) : (lv n f).length = n := by simp [lv]
@[simp] theorem Lu (n : Nat) (f : Nat → Bool) (c : Nat) (h : c < (lv n f).length) : (lv n f)[c] = [.bool (f c)] := by simp [lv]
theorem aEC (n:Nat) (f:Nat→Bool):(lv n f).all (fun e=>e.all V.cl)=true:=by simp[lv,V.cl]
def jN (r n:Nat) (Z:Nat→Nat→Int) (d:Int) (bs:Nat→Nat) (fr:Nat→Bool):List V:=
 [.sl (zzv r (n+1) Z),.bool (decide (d<0)),.sl (iv (lim d.natAbs)),.sl (iv (lb r bs)),.int .i64 n,.sl (lv n fr)]
def lz (n:Nat) (f:Nat→Int):List Int:=(List.range n).map f
@[simp] theorem Va (n : Nat) (f : Nat → Int) : (lz n f).length = n := by simp [lz]
@[simp] theorem uA (n : Nat) (f : Nat → Int) (c : Nat) (h : c < (lz n f).length) : (lz n f)[c] = f c := by simp [lz]
@[irreducible] def eX : Nat := 10 ^ 66
@[irreducible] def vL : Nat := 10 ^ 200
theorem V4 :vL<LB^24:=by unfold vL;decide+kernel
theorem Gu :eX*eX≤vL:=by unfold vL eX;decide+kernel
theorem Gq :41*(eX*1000)≤vL:=by unfold vL eX;decide+kernel
theorem Df :eX≤vL:=by unfold vL eX;decide+kernel
theorem yF :1000≤eX:=by unfold eX;decide+kernel
def sD (x:Int):Prop:=x.natAbs≤vL
theorem cN {x:Int} (h:sD x):(lim x.natAbs).length≤24:=aH.2 (Nat.lt_of_le_of_lt h V4)
structure ZB (r n : Nat) (Z : Nat → Nat → Int) (d : Int) : Prop where
 z: ∀i c,i<r→c≤n→(Z i c).natAbs≤eX
 dl:d.natAbs≤eX
 d0:0<d
 rl:r≤40
 nl:n≤100
def gTo (Z:Nat→Nat→Int) (d:Int) (bs:Nat→Nat) (O:Nat→Int) (k:Nat):Nat→Int
 | 0 => d * O k
 | i + 1 => if O (bs i) ≠ 0 ∧ Z i k ≠ 0 then gTo Z d bs O k i - Z i k * O (bs i) else gTo Z d bs O k i
theorem Gz {r n:Nat} {Z:Nat→Nat→Int} {d:Int} {bs:Nat→Nat} {O:Nat→Int} {k:Nat} (h:ZB r n Z d) (hO: ∀c,(O c).natAbs≤1000) (hk:k≤n): ∀i,i≤r→(gTo Z d bs O k i).natAbs≤(i+1)*(eX*1000)
 | 0, _ => by
   have h1:(gTo Z d bs O k 0).natAbs=d.natAbs*(O k).natAbs:=Int.natAbs_mul _ _
   have h2:d.natAbs*(O k).natAbs≤eX*1000:=Nat.mul_le_mul h.dl (hO k)
   have h3:(0+1)*(eX*1000)=eX*1000:=by rw[Nat.zero_add,Nat.one_mul]
   rw[h3,h1]
   exact h2
 | i + 1, hi => by
   have ih:=Gz h hO hk (bs:=bs) i (by omega)
   have h1:(Z i k*O (bs i)).natAbs≤eX*1000:=by rw[Int.natAbs_mul];exact Nat.mul_le_mul (h.z i k (by omega) hk) (hO _)
   have e:(i+1+1)*(eX*1000)=(i+1)*(eX*1000)+eX*1000:=by rw[Nat.add_mul (i+1) 1,Nat.one_mul]
   rw[e,gTo]
   split
   ·exact Nat.le_trans (Int.natAbs_sub_le _ _) (Nat.add_le_add ih h1)
   ·exact Nat.le_trans ih (Nat.le_add_right _ _)
theorem T2 {r n:Nat} {Z:Nat→Nat→Int} {d:Int} {bs:Nat→Nat} {O:Nat→Int} {k:Nat} (h:ZB r n Z d) (hO: ∀c,(O c).natAbs≤1000) (hk:k≤n) (i:Nat) (hi:i≤r):sD (gTo Z d bs O k i):=by
 have h1:=Gz h hO hk (bs:=bs) i hi
 have h2:(i+1)*(eX*1000)≤41*(eX*1000):=Nat.mul_le_mul_right _ (by have:=h.rl;omega)
 exact Nat.le_trans h1 (Nat.le_trans h2 Gq)
theorem gW {a b:Int} (ha:a.natAbs≤eX) (hb:b.natAbs≤eX):sD (a*b):=by
 unfold sD
 rw[Int.natAbs_mul]
 exact Nat.le_trans (Nat.mul_le_mul ha hb) Gu
theorem gU {a:Int} (ha:a.natAbs≤eX):sD a:=Nat.le_trans ha Df
theorem Ch {a:Int} (ha:a.natAbs≤1000):sD a:=gU (Nat.le_trans ha yF)
theorem Jz (r n:Nat) (Z:Nat→Nat→Int) (d:Int) (bs:Nat→Nat) (fr:Nat→Bool) (O:Nat→Int) (k:Nat) (h:ZB r n Z d) (hO: ∀c,(O c).natAbs≤1000) (hk:k<n) (hb: ∀i,i<r→bs i<n):
  RO Tryz.prog 256 [.ptr (jN r n Z d bs fr),.sl (iv (lz n O)),.int .i64 k] (.int .i64 (gTo Z d bs O k r).sign):=by
 have hr:=h.rl
 have hn:=h.nl
 have hint: ∀c,RO Tryz.prog 160 [.int .i64 (O c)] (.agg (biC (O c))):=fun c=>pN _ (by have:=hO c;omega)
 have hOl: ∀c,(lim (O c).natAbs).length≤400000:=fun c=>Nat.le_trans (cN (Ch (hO c))) (by omega)
 have hdl:(lim d.natAbs).length≤400000:=Nat.le_trans (cN (gU h.dl)) (by omega)
 have hgl: ∀i,i≤r→(lim (gTo Z d bs O k i).natAbs).length≤24:=fun i hi=>cN (T2 h hO (by omega) i hi)
 have hT:=jA d (O k) hdl (hOl k)
 rw[show biC d= [.bool (decide (d<0)),.sl (iv (lim d.natAbs))] from rfl] at hT
 refine aK Tryz.func256 rfl rfl (by rw[Tryz.ntmps256];simp) fun bl=> ?_
 rw[Tryz.ntmps256,Tryz.results256]
 refine aC ?_
 simp
 refine bS aN bl (Sub.refl _) [0,1,2,3,4,5,6,7,8,9] 2 (by kernel_rfl) ?_
 simp[jN,hk]
 refine aG (hint k) ?_
 simp
 refine aG hT ?_
 simp
 refine Dz 10 ?_
 simp
 intro g7 hg7 hb7
 refine⟨by simp[hb7],Dz 11 ?_⟩
 simp
 refine⟨by simp[hb7],Dy ?_⟩
 simp
 refine aC ?_
 simp
 refine aP (fun i:Nat=> [(0,.ptr (jN r n Z d bs fr)),(1,.sl (iv (lz n O))),(2,.int .i64 k),(7,.loc g7 2 0 0),(23,.sl (iv (lb r bs))),(24,.int .i64 r),(25,.int .i64 i)]) (fun i=>upd bl g7 (some ⟨2,[biC (gTo Z d bs O k i)]⟩)) (fun i=>i≤r) (fun i=>r - i) _ 0 (Nat.zero_le _) ⟨rfl,by simp[jN],by rw[gTo];exact sub_eq rfl⟩ ?_
 intro i hi
 have wi:IntKind.i64.wrap ((i:Int)+1)=(i:Int)+1:=i64_in (by omega) (by omega)
 refine aE ?_
 simp
 refine aE ?_
 simp
 refine⟨fun hlt=> ?_,fun hlt=> ?_⟩
 ·have hbi:=hb i hlt
  have hS:=iS (Z i k)
  refine cE (cC ?_)
  refine aE ?_
  simp[hlt]
  refine aE ?_
  simp
  refine aV [(0,.ptr (jN r n Z d bs fr)),(1,.sl (iv (lz n O))),(2,.int .i64 k),(7,.loc g7 2 0 0),(8,.int .i64 i),(9,.int .i64 (bs i)),(23,.sl (iv (lb r bs))),(24,.int .i64 r),(25,.int .i64 i)] _ (upd bl g7 (some ⟨2,[biC (gTo Z d bs O k i)]⟩)) 48 (.bool (decide (O (bs i)≠0∧Z i k≠0))) ⟨rfl,by simp,Sub.refl _⟩ rfl ?_ ?_
  ·by_cases h0:O (bs i)=0
   ·simp[hbi,h0]
   ·simp[hbi,jN,hlt,show k<n+1 by omega,h0]
    refine aD hS ?_
    simp[Int.sign_eq_zero_iff_zero]
    by_cases h1:Z i k=0<;>simp[h1]
  have hTi:=jA (Z i k) (O (bs i)) (Nat.le_trans (cN (gU (h.z i k hlt (by omega)))) (by omega)) (hOl _)
  have hP:(lim (Z i k*O (bs i)).natAbs).length≤24:=cN (gW (h.z i k hlt (by omega)) (Nat.le_trans (hO _) yF))
  have hM:=rS (gTo Z d bs O k i) (Z i k*O (bs i)) (Nat.le_trans (hgl i hi) (by omega)) (Nat.le_trans hP (by omega))
  simp
  refine aC ?_
  simp
  refine⟨fun h0 h1=> ?_,fun hno=> ?_⟩
  ·refine cD aN [0,1,2,3,4,5,6,7,8,9,10,11,12,13,14,15,16,17] 1 18 (by kernel_rfl) ?_
   simp[hbi,jN,hlt,show k<n+1 by omega]
   refine aG (hint _) ?_
   simp
   refine aG hTi ?_
   simp
   refine aG hM ?_
   simp
   refine bO (i:=18) (by kernel_rfl) rfl rfl rfl ?_
   simp
   refine Dy ?_
   simp
   refine aC ?_
   simp[wi,aB]
   exact⟨i+1,by omega,by omega,rfl,by simp[jN],sub_eq (by rw[gTo,if_pos ⟨h0,h1⟩])⟩
  ·refine aC ?_
   simp[wi,aB]
   refine⟨i+1,by omega,by omega,rfl,by simp,sub_eq (by rw[gTo,if_neg];simpa using hno)⟩
 ·have hir:i=r:=by omega
  subst hir
  simp
  refine aD (iS _) ?_
  simp
  exact aQ [.int .i64 (gTo Z d bs O k i).sign] 0 (by simp) (by simp[frz]) (by simp[hb7])

def lvZ (Z:Nat→Nat→Int) (n k:Nat) (bs:Nat→Nat):Nat→Option Nat
 | 0 => none
 | i + 1 => if Z i k ≤ 0 then lvZ Z n k bs i else match lvZ Z n k bs i with
   | none=>some i
   | some j=>if Z i n*Z j k<Z j n*Z i k∨Z i n*Z j k=Z j n*Z i k∧bs i<bs j then some i else some j
theorem uW {Z:Nat→Nat→Int} {n k:Nat} {bs:Nat→Nat} : ∀ {i j:Nat},lvZ Z n k bs i=some j→j<i
 | 0, _, h => by cases h
 | i + 1, j, h => by
   rw[lvZ] at h
   split at h
   ·have:=uW h;omega
   ·cases hb:lvZ Z n k bs i with
    | none => rw [hb] at h; cases h; omega
    | some j' =>
      rw[hb] at h
      simp only at h
      split at h
      ·cases h;omega
      ·cases h;have:=uW hb;omega
def oI :Option Nat→Int
 | none => -1
 | some j => j
theorem S3 (r n:Nat) (Z:Nat→Nat→Int) (d:Int) (bs:Nat→Nat) (fr:Nat→Bool) (k:Nat) (h:ZB r n Z d) (hk:k<n):
  RO Tryz.prog 257 [.ptr (jN r n Z d bs fr),.int .i64 k] (.int .i64 (oI (lvZ Z n k bs r))):=by
 have hr:=h.rl
 have hn:=h.nl
 have hl: ∀i c,i<r→c≤n→(lim (Z i c).natAbs).length≤400000:=fun i c hi hc=>Nat.le_trans (cN (gU (h.z i c hi hc))) (by omega)
 have hT: ∀i c j c',i<r→c≤n→j<r→c'≤n→RO Tryz.prog 231 [.agg (biC (Z i c)),.agg (biC (Z j c'))] (.agg (biC (Z i c*Z j c'))):=fun i c j c' h1 h2 h3 h4=>jA _ _ (hl i c h1 h2) (hl j c' h3 h4)
 have hP: ∀i c j c',i<r→c≤n→j<r→c'≤n→(lim (Z i c*Z j c').natAbs).length≤1048576:=fun i c j c' h1 h2 h3 h4=>Nat.le_trans (cN (gW (h.z i c h1 h2) (h.z j c' h3 h4))) (by omega)
 refine aK Tryz.func257 rfl rfl (by rw[Tryz.ntmps257];simp) fun bl=> ?_
 rw[Tryz.ntmps257,Tryz.results257]
 refine aE ?_
 simp
 refine aE ?_
 simp
 refine aE ?_
 simp[jN]
 refine aP (fun i:Nat=> [(0,.ptr (jN r n Z d bs fr)),(1,.int .i64 k),(5,.int .i64 (oI (lvZ Z n k bs i))),(12,.sl (zzv r (n+1) Z)),(13,.int .i64 r),(14,.int .i64 i)]) (fun i=>bl) (fun i=>i≤r) (fun i=>r - i) _ 0 (Nat.zero_le _) ⟨rfl,by simp[jN,lvZ,oI],Sub.refl _⟩ ?_
 intro i hi
 have wi:IntKind.i64.wrap ((i:Int)+1)=(i:Int)+1:=i64_in (by omega) (by omega)
 refine aE ?_
 simp
 refine aE ?_
 simp
 refine⟨fun hlt=> ?_,fun hlt=> ?_⟩
 ·refine cE (cC ?_)
  refine aE ?_
  simp[hlt]
  refine aE ?_
  simp[show k<n+1 by omega]
  refine aD (iS _) ?_
  simp
  refine⟨fun hle=> ?_,fun hgt=> ?_⟩
  ·refine aC ?_
   simp[wi,aB]
   have e:lvZ Z n k bs (i+1)=lvZ Z n k bs i:=by rw[lvZ,if_pos hle]
   exact⟨i+1,by omega,by omega,rfl,by simp[e],Sub.refl _⟩
  ·have hng: ¬ Z i k≤0:=by omega
   cases hb:lvZ Z n k bs i with
   | none =>
     have e:lvZ Z n k bs (i+1)=some i:=by rw[lvZ,if_neg hng,hb]
     refine aC ?_
     simp[oI]
     refine aC ?_
     simp[wi,aB]
     exact⟨i+1,by omega,by omega,rfl,by simp[e,oI],Sub.refl _⟩
   | some j =>
     have hj:=uW hb
     have e:lvZ Z n k bs (i+1)=if Z i n*Z j k<Z j n*Z i k∨Z i n*Z j k=Z j n*Z i k∧bs i<bs j then some i else some j:=by rw[lvZ,if_neg hng,hb]
     have cM: ¬ (j:Int)<0:=by omega
     have hC:=I3 (Z i n*Z j k) (Z j n*Z i k) (hP i n j k hlt (by omega) (by omega) (by omega)) (hP j n i k (by omega) (by omega) hlt (by omega))
     refine aE ?_
     simp[oI,cM]
     refine aE ?_
     simp
     refine bI aN (by kernel_rfl) ?_
     simp[jN,hlt,show j<r by omega,show k<n+1 by omega]
     refine aG (hT i n j k hlt (by omega) (by omega) (by omega)) ?_
     simp[jN,hlt,show j<r by omega,show k<n+1 by omega]
     refine aG (hT j n i k (by omega) (by omega) hlt (by omega)) ?_
     simp
     refine aG hC ?_
     simp
     refine aE ?_
     simp
     generalize Z i n*Z j k=A at *
     generalize Z j n*Z i k=B at *
     have hjr:j<r:=by omega
     refine X0 aN (by kernel_rfl) [(0,.ptr (jN r n Z d bs fr)),(1,.int .i64 k),(5,.int .i64 j),(6,.int .i64 i),(8,.int .i64 (lA A B)),(12,.sl (zzv r (n+1) Z)),(13,.int .i64 r),(14,.int .i64 i)] _ bl 87 (.bool (decide (A<B∨A=B∧bs i<bs j))) ⟨rfl,by simp[jN],Sub.refl _⟩ rfl ?_ ?_
     ·rcases Int.lt_trichotomy A B with g | g | g
      ·have ec:lA A B= -1:=by unfold lA;rw[if_pos g]
       simp[ec,g]
      ·have ec:lA A B=0:=by unfold lA;rw[if_neg (by omega),if_pos g]
       have g2: ¬ A<B:=by omega
       subst g
       simp[ec,jN,hlt,hjr]
      ·have ec:lA A B=1:=by unfold lA;rw[if_neg (by omega),if_neg (by omega)]
       have g2: ¬ A<B:=by omega
       have g3: ¬ A=B:=by omega
       simp[ec,g2,g3]
     refine aC ?_
     simp
     refine⟨fun hc=> ?_,fun hc hc2=> ?_⟩
     ·rw[if_pos hc] at e
      refine aC ?_
      simp[wi,aB]
      exact⟨i+1,by omega,by omega,rfl,by simp[e,oI,jN],Sub.refl _⟩
     ·rw[if_neg (fun h=>h.elim (fun g=>by omega) (fun g=>by have:=hc2 g.1;omega))] at e
      refine aC ?_
      simp[wi,aB]
      exact⟨i+1,by omega,by omega,rfl,by simp[e,oI,jN],Sub.refl _⟩
 ·have hir:i=r:=by omega
  subst hir
  refine aC ?_
  simp
  exact aQ [.int .i64 (oI (lvZ Z n k bs i))] 0 (by simp) (by simp[frz]) (Sub.refl _)
end Go.Proofs.YticmgmemnpcbbaaGreat.Vm

namespace Go.Proofs.YticmgmemnpcbbaaGreat.Vm
open Go Go.Proofs
set_option linter.unusedSimpArgs false
set_option linter.unusedVariables false
structure aNM where
 ids:List Int
 d:Option Rat
 b:Int→Option Blk
structure aLD where
 j:Nat
 b:Int→Option Blk

theorem wA {α β:Type} {f:α→Option β} : ∀(xs:List α) (ys:List β),xs.length=ys.length→(∀(i:Nat) x y,xs[i]? =some x→ys[i]? =some y→f x=some y)→xs.mapM f=some ys
 | [], [], _, _ => rfl
 | [], _ :: _, h, _ => by simp at h
 | _ :: _, [], h, _ => by simp at h
 | x :: xs, y :: ys, h, hf => by
   have h1:=hf 0 x y rfl rfl
   have h2:=wA xs ys (by simpa using h) (fun i a b ha hb=>hf (i+1) a b (by simpa using ha) (by simpa using hb))
   simp[List.mapM_cons,h1,h2]
end Go.Proofs.YticmgmemnpcbbaaGreat.Vm

namespace Go.Proofs.YticmgmemnpcbbaaGreat.Vm
open Go Go.RowKit Go.Proofs
set_option linter.unusedSimpArgs false
set_option linter.unusedVariables false
theorem qX {n:Nat} {f g:Nat→Int} (h: ∀c,c<n→f c=g c):zv n f=zv n g:=List.map_congr_left fun c hc=>by rw[h c (by simpa using hc)]
structure ZG (b : Int → Option Blk) (gR : Int) (ids : List Int) (r n : Nat) (Z : Nat → Nat → Int) : Prop where
 len:ids.length=r
 top:b gR=some ⟨1,ids.map fun g=> [.lsl g 2 0 n]⟩
 row: ∀(i:Nat) (g:Int),ids[i]? =some g→b g=some ⟨2,zv n (Z i)⟩
 pos: ∀g,g∈ids→0≤g
 inj: ∀(i j:Nat) (g:Int),ids[i]? =some g→ids[j]? =some g→i=j
 no0:gR∉ids
theorem ZG.congr {b:Int→Option Blk} {gR:Int} {ids:List Int} {r n:Nat} {Z Z':Nat→Nat→Int} (h:ZG b gR ids r n Z) (hZ: ∀i c,i<r→c<n→Z i c=Z' i c):ZG b gR ids r n Z':=
 ⟨h.len,h.top,fun i g hi=>by
   rw[h.row i g hi,qX fun c hc=>hZ i c (by rw[←h.len];exact(List.getElem?_eq_some_iff.1 hi).1) hc],h.pos,h.inj,h.no0⟩
theorem ZG.put {b:Int→Option Blk} {gR g:Int} {ids:List Int} {r n i:Nat} {Z Z':Nat→Nat→Int} (h:ZG b gR ids r n Z) (hi:ids[i]? =some g) (hZ: ∀a c,a≠i→c<n→Z a c=Z' a c):ZG (upd b g (some ⟨2,zv n (Z' i)⟩)) gR ids r n Z':=by
 have hm:=List.mem_of_getElem? hi
 refine⟨h.len,?_,fun k g' hk=> ?_,h.pos,h.inj,h.no0⟩
 ·rw[aL _ _ _ _ (fun e=>h.no0 (by rw[e];exact hm))];exact h.top
 ·by_cases e:k=i
  ·subst e
   rw[hi] at hk;cases hk
   rw[bP]
  ·have hne:g'≠g:=fun e2=>e (h.inj k i g (by rw[hk,e2]) hi)
   rw[aL _ _ _ _ hne,h.row k g' hk,qX fun c hc=>hZ k c e hc]
theorem ZG.fU {b b':Int→Option Blk} {gR:Int} {ids:List Int} {r n:Nat} {Z:Nat→Nat→Int} (h:ZG b gR ids r n Z) (hk: ∀x y,x=gR∨x∈ids→b x=some y→b' x=some y):ZG b' gR ids r n Z:=
 ⟨h.len,hk _ _ (.inl rfl) h.top,fun i g hi=>hk _ _ (.inr (List.mem_of_getElem? hi)) (h.row i g hi),h.pos,h.inj,h.no0⟩
theorem ZG.at {b:Int→Option Blk} {gR:Int} {ids:List Int} {r n:Nat} {Z:Nat→Nat→Int} (h:ZG b gR ids r n Z) (i:Nat) (hi:i<r): ∃g,ids[i]? =some g∧g∈ids∧0≤g∧b g=some ⟨2,zv n (Z i)⟩:=by
 have hl:=h.len
 have e:ids[i]? =some (ids[i]'(by omega)):=List.getElem?_eq_getElem _
 exact⟨_,e,List.mem_of_getElem? e,h.pos _ (List.mem_of_getElem? e),h.row i _ e⟩
structure TG where
 T:Int
 R:Int
 B:Int
 F:Int
 ids:List Int
structure TN where
 r:Nat
 n:Nat
 Z:Nat→Nat→Int
 d:Int
 bs:Nat→Nat
 fr:Nat→Bool
def TN.c (t:TN):List V:=jN t.r t.n t.Z t.d t.bs t.fr
structure TT (b : Int → Option Blk) (g : TG) (t : TN) : Prop where
 dH:ZG b g.R g.ids t.r (t.n+1) t.Z
 hd:b g.T=some ⟨6,[[.lsl g.R 1 0 t.r,.bool (decide (t.d<0)),.sl (iv (lim t.d.natAbs)),.lsl g.B 1 0 t.r,.int .i64 t.n,.lsl g.F 1 0 t.n]]⟩
 ba:b g.B=some ⟨1,iv (lb t.r t.bs)⟩
 fre:b g.F=some ⟨1,lv t.n t.fr⟩
 pT:0≤g.T
 pR:g.R<0→t.r=0
 pB:g.B<0→t.r=0
 pF:0≤g.F
 nd:(g.T::g.R::g.B::g.F::g.ids).Nodup
def TG.all (g:TG):List Int:=g.T::g.R::g.B::g.F::g.ids
theorem TT.fU {b b':Int→Option Blk} {g:TG} {t:TN} (h:TT b g t) (hk: ∀x y,x∈g.all→b x=some y→b' x=some y):TT b' g t:=
 ⟨h.dH.fU fun x y hx hy=>hk x y (by unfold TG.all;rcases hx with rfl | hx<;>simp[*]) hy,hk _ _ (by simp[TG.all]) h.hd,hk _ _ (by simp[TG.all]) h.ba,hk _ _ (by simp[TG.all]) h.fre,h.pT,h.pR,h.pB,h.pF,h.nd⟩
theorem TT.aBR {b:Int→Option Blk} {g:TG} {t:TN} (h:TT b g t) (m:Nat):frz b (m+1) (.lsl g.B 1 0 t.r)=some (.sl (iv (lb t.r t.bs))):=by
 rcases Int.lt_or_le g.B 0 with cM | hB
 ·have hr:=h.pB cM
  rw[hr]
  have e:lb 0 t.bs= []:=rfl
  rw[e]
  simp[Vm.frz,cM,iv]
 have h1:=fV (n:=m) hB h.ba
 rw[fJ (lR _)] at h1
 rw[show(iv (lb t.r t.bs)).length=t.r by simp] at h1
 rw[h1];rfl
theorem TT.frz {b:Int→Option Blk} {g:TG} {t:TN} (h:TT b g t) (m:Nat):frz b (m+4) (.loc g.T 6 0 0)=some (.ptr t.c):=by
 have hi: ∀m (k:Int),Vm.frz b m (.int .i64 k)=some (.int .i64 k):=fun m k=>by cases m<;>simp[Vm.frz]
 have hb: ∀m (k:Bool),Vm.frz b m (.bool k)=some (.bool k):=fun m k=>by cases m<;>simp[Vm.frz]
 have hs: ∀m (l:List Int),Vm.frz b (m+1) (.sl (iv l))=some (.sl (iv l)):=fun m l=>by simp[Vm.frz,V.cl]
 have h1:Vm.frz b (m+3) (.lsl g.R 1 0 t.r)=some (.sl (zzv t.r (t.n+1) t.Z)):=by
  rcases Int.lt_or_le g.R 0 with cM | hR
  ·have hr:=h.pR cM
   rw[hr]
   have e:zzv 0 (t.n+1) t.Z= []:=rfl
   rw[e]
   simp[Vm.frz,cM]
  have h1:=fV (n:=m+2) hR h.dH.top
  rw[List.length_map,h.dH.len] at h1
  rw[h1]
  have h2:(g.ids.map fun g=> [V.lsl g 2 0 (t.n+1)]).mapM (fun e:List V=>e.mapM (Vm.frz b (m+2)))=some (zzv t.r (t.n+1) t.Z):=by
   refine wA _ _ (by simp[h.dH.len]) fun i x y hx hy=> ?_
   rw[List.getElem?_map] at hx
   cases hi:g.ids[i]? with
   | none => rw [hi] at hx; cases hx
   | some gi =>
     rw[hi] at hx;cases hx
     have hlt:i<t.r:=by rw[←h.dH.len];exact(List.getElem?_eq_some_iff.1 hi).1
     rw[List.getElem?_eq_getElem (by simpa using hlt),Gp] at hy
     cases hy
     have h3:=fV (bl:=b) (n:=m+1) (sz:=2) (els:=zv (t.n+1) (t.Z i)) (h.dH.pos gi (List.mem_of_getElem? hi)) (h.dH.row i gi hi)
     rw[fJ (aFT _ _)] at h3
     simp only[List.mapM_cons,List.mapM_nil]
     rw[show(zv (t.n+1) (t.Z i)).length=t.n+1 by simp] at h3
     rw[h3];rfl
  rw[h2];rfl
 have h2:Vm.frz b (m+3) (.lsl g.B 1 0 t.r)=some (.sl (iv (lb t.r t.bs))):=by
  rcases Int.lt_or_le g.B 0 with cM | hB
  ·have hr:=h.pB cM
   rw[hr]
   have e:lb 0 t.bs= []:=rfl
   rw[e]
   simp[Vm.frz,cM,iv]
  have h1:=fV (n:=m+2) hB h.ba
  rw[fJ (lR _)] at h1
  rw[show(iv (lb t.r t.bs)).length=t.r by simp] at h1
  rw[h1];rfl
 have h3:Vm.frz b (m+3) (.lsl g.F 1 0 t.n)=some (.sl (lv t.n t.fr)):=by
  have h1:=fV (n:=m+2) h.pF h.fre
  rw[fJ (aEC _ _)] at h1
  rw[show(lv t.n t.fr).length=t.n by simp] at h1
  rw[h1];rfl
 rw[kB h.hd]
 simp only[List.mapM_cons,List.mapM_nil,h1,h2,h3,hi,hb,hs]
 rfl

@[simp] theorem Wv (a x y e f g : V) (p : Int) : splice [a, x, y, e, f, g] 1 (biC p) = [a, .bool (decide (p < 0)), .sl (iv (lim p.natAbs)), e, f, g] := by simp [splice, biC]
def cz (Z Y:Nat→Nat→Int) (i j:Nat):Nat→Nat→Int:=fun a c=>if a<i∨a=i∧c<j then Y a c else Z a c
theorem Co (Z Y:Nat→Nat→Int) (i j c:Nat) (h:j≤c):cz Z Y i j i c=Z i c:=by unfold cz;rw[if_neg (by omega)]
theorem Mo (Z Y:Nat→Nat→Int) (i j a c:Nat) (h:Y a c=Z a c):cz Z Y i j a c=Z a c:=by unfold cz;split<;>simp[h]
theorem Hx (Z Y:Nat→Nat→Int) (i n a c:Nat) (hc:c<n):cz Z Y i n a c=cz Z Y (i+1) 0 a c:=by
 unfold cz
 by_cases h:a<i∨a=i∧c<n
 ·rw[if_pos h,if_pos (by omega)]
 ·rw[if_neg h,if_neg (by omega)]
theorem Mi (Z Y:Nat→Nat→Int) (i a c:Nat) (h:Y i c=Z i c):cz Z Y i 0 a c=cz Z Y (i+1) 0 a c:=by
 unfold cz
 by_cases h1:a<i
 ·rw[if_pos (.inl h1),if_pos (by omega)]
 ·rw[if_neg (by omega)]
  by_cases h2:a=i
  ·subst h2;rw[if_pos (by omega),h]
  ·rw[if_neg (by omega)]
theorem Hs (Z Y:Nat→Nat→Int) (r a c:Nat) (h:a<r):cz Z Y r 0 a c=Y a c:=by unfold cz;rw[if_pos (.inl h)]
theorem V7 (Z Y:Nat→Nat→Int):cz Z Y 0 0=Z:=by funext a c;unfold cz;rw[if_neg (by omega)]
theorem Cd {n j:Nat} (Z Y:Nat→Nat→Int) (i:Nat) (hj:j<n):(zv n (cz Z Y i j i)).set j (biC (Y i j))=zv n (cz Z Y i (j+1) i):=by
 apply List.ext_getElem
 ·simp
 ·intro t h1 h2
  simp only[List.getElem_set,A8]
  by_cases h:j=t
  ·subst h
   rw[if_pos rfl];unfold cz;rw[if_pos (by omega)]
  ·rw[if_neg h]
   congr 1
   unfold cz
   by_cases h3:t<j
   ·rw[if_pos (by omega),if_pos (by omega)]
   ·rw[if_neg (by omega),if_neg (by omega)]
structure aE5 (r n rp k : Nat) (Z : Nat → Nat → Int) (d : Int) (Y : Nat → Nat → Int) : Prop where
 other: ∀i c,i<r→c≤n→i≠rp→Y i c*d=Z i c*Z rp k - Z i k*Z rp c
 same: ∀c,c≤n→Y rp c=Z rp c
 ne:Z rp k≠0
theorem Cw {a b c e:Int} (ha:a.natAbs≤eX) (hb:b.natAbs≤eX) (hc:c.natAbs≤eX) (he:e.natAbs≤eX):(lim (a*b - c*e).natAbs).length≤48:=by
 have h1:(a*b).natAbs≤vL:=gW ha hb
 have h2:(c*e).natAbs≤vL:=gW hc he
 have h3:=Int.natAbs_sub_le (a*b) (c*e)
 have h4:=V4
 refine aH.2 ?_
 have h5:LB^24+LB^24<LB^48:=by decide+kernel
 omega
structure J0 where
 j:Nat
 b:Int→Option Blk
def pvF (p:Int) (Y:Nat→Nat→Int):Nat→Nat→Int:=if 0<p then Y else fun a c=> - Y a c
def pvB (bs:Nat→Nat) (rp k:Nat):Nat→Nat:=fun i=>if i=rp then k else bs i
theorem Tg {r rp k:Nat} (bs:Nat→Nat) (h:rp<r):(iv (lb r bs)).set rp [.int .i64 k]=iv (lb r (pvB bs rp k)):=by
 apply List.ext_getElem
 ·simp
 ·intro t h1 h2
  simp only[List.getElem_set,kW,tZ,pvB]
  by_cases e:rp=t
  ·subst e;simp
  ·rw[if_neg e,if_neg (Ne.symm e)]
theorem G4 {bl:Int→Option Blk} {K:V→(Int→Option Blk)→Prop} (g:TG) (t:TN) (rp k:Nat) (Y:Nat→Nat→Int) (h:TT bl g t) (hz:ZB t.r t.n t.Z t.d) (hr:rp<t.r) (hk:k<t.n) (hY:aE5 t.r t.n rp k t.Z t.d Y)
  (hK: ∀b',TT b' g ⟨t.r,t.n,pvF (t.Z rp k) Y,((t.Z rp k).natAbs:Int),pvB t.bs rp k,t.fr⟩→(∀x y,bl x=some y→x∉g.all→b' x=some y)→K (.tup []) b'):
  bN Tryz.prog 258 [.loc g.T 6 0 0,.int .i64 rp,.int .i64 k] bl K:=by
 obtain⟨r,n,Z,d,bs,fr⟩:=t
 obtain⟨gT,gR,gB,gF,ids⟩:=g
 simp only at hz hr hk hY hK ⊢
 obtain⟨hG,hhd,hba,Ly,pT,pR,pB,pF,hnd⟩:=h
 simp only at hG hhd hba Ly pT pR pB pF hnd
 have hrl:=hz.rl
 have hnl:=hz.nl
 have hd0:=hz.d0
 have aAC:=hnd
 simp only[List.nodup_cons,List.mem_cons,not_or] at hnd
 obtain⟨⟨nTR,nTB,nTF,nTi⟩,⟨nRB,nRF,nRi⟩,⟨nBF,nBi⟩,nFi,nds⟩:=hnd
 obtain⟨gp,hgp,aKW,aJ0,aA8⟩:=hG.at rp hr
 have qV:=hG.top
 have hil:=hG.len
 have hk1:k<n+1:=by omega
 have hk2:(k:Int)<(n:Int)+1:=by omega
 have ntT: ∀x,x∈ids→ ¬ x=gT:=fun x hx e=>nTi (e▸hx)
 have ntR: ∀x,x∈ids→ ¬ x=gR:=fun x hx e=>nRi (e▸hx)
 have ntB: ∀x,x∈ids→ ¬ x=gB:=fun x hx e=>nBi (e▸hx)
 have ntF: ∀x,x∈ids→ ¬ x=gF:=fun x hx e=>nFi (e▸hx)
 refine bD Tryz.func258 rfl rfl (by rw[Tryz.ntmps258];simp) ?_
 rw[Tryz.ntmps258,Tryz.results258]
 refine aE ?_
 simp[hhd,qV,hgp,hr]
 refine aE ?_
 simp[aA8,hk1,hk2]
 intro g7 hg7 hb7
 have m7:g7∉ids:=fun hm=>by
  obtain⟨j,hj⟩:=List.mem_iff_getElem?.1 hm
  rw[hG.row j g7 hj] at hb7;cases hb7
 have n7T: ¬ g7=gT:=fun e=>by rw[e,hhd] at hb7;cases hb7
 have n7R: ¬ g7=gR:=fun e=>by rw[e,qV] at hb7;cases hb7
 have n7B: ¬ g7=gB:=fun e=>by rw[e,hba] at hb7;cases hb7
 have n7F: ¬ g7=gF:=fun e=>by rw[e,Ly] at hb7;cases hb7
 obtain⟨p,hp⟩: ∃p,Z rp k=p:=⟨_,rfl⟩
 simp only[hp] at hK ⊢
 have hG7:ZG (upd bl g7 (some ⟨2,[biC p]⟩)) gR ids r (n+1) Z:=hG.fU fun x y hx hy=>by
  rw[aL _ _ _ _ (by rintro rfl;rcases hx with hx | hx;exact n7R hx;exact m7 hx)];exact hy
 have e7:upd bl g7 (some ⟨2,[biC p]⟩) g7=some ⟨2,[biC p]⟩:=by simp
 have eT:upd bl g7 (some ⟨2,[biC p]⟩) gT=bl gT:=by simp[Ne.symm n7T]
 have eB:upd bl g7 (some ⟨2,[biC p]⟩) gB=bl gB:=by simp[Ne.symm n7B]
 have eF:upd bl g7 (some ⟨2,[biC p]⟩) gF=bl gF:=by simp[Ne.symm n7F]
 have aJ2:Sub bl (upd bl g7 (some ⟨2,[biC p]⟩)):=by simp[hb7]
 generalize upd bl g7 (some ⟨2,[biC p]⟩)=b0 at *
 rw[hhd] at eT
 rw[hba] at eB
 rw[Ly] at eF
 clear hG aA8 hhd qV hba Ly
 have aLU:=hG7.top
 refine gG [(0,.loc gT 6 0 0),(1,.int .i64 rp),(2,.int .i64 k),(6,.lsl gp 2 0 (n+1)),(7,.loc g7 2 0 0)] 128 b0 ⟨rfl,by simp,Sub.refl _⟩ ?_
 refine aE ?_
 simp[eT]
 refine aP (fun q:J0=> [(0,.loc gT 6 0 0),(1,.int .i64 rp),(2,.int .i64 k),(6,.lsl gp 2 0 (n+1)),(7,.loc g7 2 0 0),(30,.lsl gR 1 0 r),(31,.int .i64 r),(32,.int .i64 q.j)]) (fun q=>q.b) (fun q=>q.j≤r∧ZG q.b gR ids r (n+1) (cz Z Y q.j 0)∧(∀x y,b0 x=some y→x∉ids→q.b x=some y)) (fun q=>r - q.j) _ ⟨0,b0⟩ ⟨Nat.zero_le _,by simp only;rw[V7];exact hG7,fun _ _ h _=>h⟩ ⟨rfl,by simp,Sub.refl _⟩ ?_
 rintro⟨i,b⟩ ⟨hi,hGb,hfb⟩
 simp only at hi hGb hfb
 have wi:IntKind.i64.wrap ((i:Int)+1)=(i:Int)+1:=i64_in (by omega) (by omega)
 have bT:=hfb _ _ eT nTi
 have b7:=hfb _ _ e7 m7
 have bR:=hGb.top
 refine aE ?_
 simp
 refine aE ?_
 simp
 refine⟨fun hlt=> ?_,fun hlt=> ?_⟩
 ·obtain⟨gi,hgi,Bs,Tc,tO⟩:=hGb.at i hlt
  refine cE (cC ?_)
  refine aE ?_
  simp[hlt,bR,hgi]
  refine aE ?_
  simp
  refine⟨fun hir=> ?_,fun hir=> ?_⟩
  ·
   refine aC ?_
   simp[wi,aB]
   have aJH:i=rp:=by omega
   refine⟨⟨i+1,b⟩,⟨by simp only;omega,hGb.congr fun a c _ hc=>Mi Z Y i a c (by rw[aJH];exact hY.same c (by omega)),hfb⟩,by simp only;omega,rfl,by simp,Sub.refl _⟩
  have aFC:i≠rp:=by omega
  have hZi: ∀c,c≤n→(Z i c).natAbs≤eX:=fun c hc=>hz.z i c hlt hc
  have hZp: ∀c,c≤n→(Z rp c).natAbs≤eX:=fun c hc=>hz.z rp c hr hc
  have hpl:p.natAbs≤eX:=by rw[←hp];exact hZp k (by omega)
  have hl4: ∀ {x:Int},x.natAbs≤eX→(lim x.natAbs).length≤400000:=fun hx=>Nat.le_trans (cN (gU hx)) (by omega)
  refine aE ?_
  simp[tO,hk1,hk2]
  intro g10 aJS tP
  have m10:g10∉ids:=fun hm=>by
   obtain⟨j,hj⟩:=List.mem_iff_getElem?.1 hm
   rw[hGb.row j g10 hj] at tP;cases tP
  have aJG: ¬ g10=gT:=fun e=>by rw[e,bT] at tP;cases tP
  have aJ9: ¬ g10=g7:=fun e=>by rw[e,b7] at tP;cases tP
  have aIX: ¬ g10=gR:=fun e=>by rw[e,bR] at tP;cases tP
  rw[Co Z Y i 0 k (Nat.zero_le _)]
  have aDN:ZG (upd b g10 (some ⟨2,[biC (Z i k)]⟩)) gR ids r (n+1) (cz Z Y i 0):=hGb.fU fun x y hx hy=>by
   rw[aL _ _ _ _ (by rintro rfl;rcases hx with hx | hx;exact aIX hx;exact m10 hx)];exact hy
  have c10:upd b g10 (some ⟨2,[biC (Z i k)]⟩) g10=some ⟨2,[biC (Z i k)]⟩:=by simp
  have cT:upd b g10 (some ⟨2,[biC (Z i k)]⟩) gT=b gT:=by simp[Ne.symm aJG]
  have c7:upd b g10 (some ⟨2,[biC (Z i k)]⟩) g7=b g7:=by simp[Ne.symm aJ9]
  have hbk: ∀x y,b0 x=some y→x∉ids→upd b g10 (some ⟨2,[biC (Z i k)]⟩) x=some y:=fun x y hx hn=>by
   have:=hfb x y hx hn
   rw[aL _ _ _ _ (by rintro rfl;rw[tP] at this;cases this)];exact this
  rw[bT] at cT
  rw[b7] at c7
  generalize upd b g10 (some ⟨2,[biC (Z i k)]⟩)=b1 at *
  refine aC ?_
  simp
  refine aP (fun q:J0=> [(0,.loc gT 6 0 0),(1,.int .i64 rp),(2,.int .i64 k),(6,.lsl gp 2 0 (n+1)),(7,.loc g7 2 0 0),(30,.lsl gR 1 0 r),(31,.int .i64 r),(32,.int .i64 i),(8,.int .i64 i),(9,.lsl gi 2 0 (n+1)),(10,.loc g10 2 0 0),(45,.int .i64 (n+1)),(46,.int .i64 q.j)]) (fun q=>q.b) (fun q=>q.j≤n+1∧ZG q.b gR ids r (n+1) (cz Z Y i q.j)∧(∀x y,b1 x=some y→x∉ids→q.b x=some y)) (fun q=>n+1 - q.j) _ ⟨0,b1⟩ ⟨Nat.zero_le _,aDN,fun _ _ h _=>h⟩ ⟨rfl,by simp,Sub.refl _⟩ ?_
  clear hGb hfb bT b7 bR tO tP aDN
  rintro⟨j,b⟩ ⟨hj,hGb,hfb⟩
  simp only at hj hGb hfb
  have wj:IntKind.i64.wrap ((j:Int)+1)=(j:Int)+1:=i64_in (by omega) (by omega)
  have bT:=hfb _ _ cT nTi
  have b7:=hfb _ _ c7 m7
  have b10:=hfb _ _ c10 m10
  have bR:=hGb.top
  have bgi:=hGb.row i gi hgi
  have bgp:=hGb.row rp gp hgp
  have nip: ¬ gp=gi:=fun e=>aFC (hGb.inj i rp gi hgi (by rw[←e];exact hgp))
  refine aE ?_
  simp
  refine aE ?_
  simp
  refine⟨fun hjn=> ?_,fun hjn=> ?_⟩
  ·have wZ:j<n+1:=by omega
   have E9:j≤n:=by omega
   have hj2:(j:Int)<(n:Int)+1:=by omega
   have ezi:cz Z Y i j i j=Z i j:=Co Z Y i j j (Nat.le_refl _)
   have ezp:cz Z Y i j rp j=Z rp j:=Mo Z Y i j rp j (hY.same j E9)
   have hT1:=jA (Z i j) p (hl4 (hZi j E9)) (hl4 hpl)
   have hT2:=jA (Z i k) (Z rp j) (hl4 (hZi k (by omega))) (hl4 (hZp j E9))
   have hL1:(lim (Z i j*p).natAbs).length≤24:=cN (gW (hZi j E9) hpl)
   have hL2:(lim (Z i k*Z rp j).natAbs).length≤24:=cN (gW (hZi k (by omega)) (hZp j E9))
   have hM:=rS (Z i j*p) (Z i k*Z rp j) (Nat.le_trans hL1 (by omega)) (Nat.le_trans hL2 (by omega))
   have hx:=hY.other i j hlt E9 aFC
   rw[hp] at hx
   have hL3:(lim (Z i j*p - Z i k*Z rp j).natAbs).length≤48:=Cw (hZi j E9) hpl (hZi k (by omega)) (hZp j E9)
   have hE:=O0 (Z i j*p - Z i k*Z rp j) d (Y i j) hx.symm hd0 (by omega) (Nat.le_trans (cN (gU hz.dl)) (by omega))
   rw[show biC d= [.bool (decide (d<0)),.sl (iv (lim d.natAbs))] from rfl] at hE
   refine cE (cC ?_)
   refine aE ?_
   simp
   refine aE ?_
   simp
   refine bS aN b (Sub.refl _) [0,1,2,3,4,5] 2 (by kernel_rfl) ?_
   simp[bgi,wZ,hj2,ezi,b7]
   refine aG hT1 ?_
   simp
   refine Dz 6 ?_
   simp
   intro g12 aMF tU
   have m12:g12∉ids:=fun hm=>by
    obtain⟨u,hu⟩:=List.mem_iff_getElem?.1 hm
    rw[hGb.row u g12 hu] at tU;cases tU
   have aKZ: ¬ g12=gT:=fun e=>by rw[e,bT] at tU;cases tU
   have aNO: ¬ g12=g7:=fun e=>by rw[e,b7] at tU;cases tU
   have Ok: ¬ g12=g10:=fun e=>by rw[e,b10] at tU;cases tU
   have aNA: ¬ g12=gR:=fun e=>by rw[e,bR] at tU;cases tU
   have aEF: ¬ g12=gi:=fun e=>m12 (e▸Bs)
   have aEB: ¬ g12=gp:=fun e=>m12 (e▸aKW)
   refine⟨by simp[tU],Dz 7 ?_⟩
   simp
   refine⟨by simp[tU],Dy ?_⟩
   simp
   refine lW (fun _:Unit=> [(0,.loc gT 6 0 0),(1,.int .i64 rp),(2,.int .i64 k),(6,.lsl gp 2 0 (n+1)),(7,.loc g7 2 0 0),(30,.lsl gR 1 0 r),(31,.int .i64 r),(32,.int .i64 i),(8,.int .i64 i),(9,.lsl gi 2 0 (n+1)),(10,.loc g10 2 0 0),(45,.int .i64 (n+1)),(46,.int .i64 j),(11,.int .i64 j),(12,.loc g12 2 0 0)]) (fun _=>upd b g12 (some ⟨2,[biC (Z i j*p - Z i k*Z rp j)]⟩)) (fun _=>True) 128 ?_ ?_
   ·refine aE ?_
    simp
    refine aV [(0,.loc gT 6 0 0),(1,.int .i64 rp),(2,.int .i64 k),(6,.lsl gp 2 0 (n+1)),(7,.loc g7 2 0 0),(30,.lsl gR 1 0 r),(31,.int .i64 r),(32,.int .i64 i),(8,.int .i64 i),(9,.lsl gi 2 0 (n+1)),(10,.loc g10 2 0 0),(45,.int .i64 (n+1)),(46,.int .i64 j),(11,.int .i64 j),(12,.loc g12 2 0 0)] _ (upd b g12 (some ⟨2,[biC (Z i j*p)]⟩)) 65 (.bool (decide (Z i k≠0∧Z rp j≠0))) ⟨rfl,by simp,Sub.refl _⟩ rfl ?_ ?_
    ·simp[Ne.symm Ok,b10]
     refine aD (iS _) ?_
     simp[Int.sign_eq_zero_iff_zero]
     by_cases h1:Z i k=0
     ·simp[h1]
     ·simp[h1,Ne.symm aEB,bgp,wZ,hj2,ezp]
      refine aD (iS _) ?_
      simp[Int.sign_eq_zero_iff_zero]
      by_cases h2:Z rp j=0<;>simp[h2]
    simp
    refine aC ?_
    simp
    refine⟨fun h1 h2=> ?_,fun hno=> ?_⟩
    ·refine cD aN [0,1,2,3,4,5,6,7] 1 8 (by kernel_rfl) ?_
     simp[Ne.symm Ok,Ne.symm aEB,b10,bgp,wZ,hj2,ezp]
     refine aG hT2 ?_
     simp
     refine aG hM ?_
     simp
     refine bO (i:=8) (by kernel_rfl) rfl rfl rfl ?_
     simp
     refine Dy ?_
     simp[aF]
     exact⟨rfl,by simp,sub_eq rfl⟩
    ·have e0:Z i j*p - Z i k*Z rp j=Z i j*p:=by
      have:Z i k*Z rp j=0:=by
       by_cases g1:Z i k=0
       ·rw[g1,Int.zero_mul]
       ·rw[hno g1,Int.mul_zero]
      omega
     simp[aF]
     exact⟨rfl,by simp,sub_eq (by rw[e0])⟩
   rintro⟨⟩ _
   have M9:=Cd Z Y i wZ
   have hGp:=hGb.put (Z':=cz Z Y i (j+1)) hgi fun a c ha _=>by
    unfold cz
    by_cases h1:a<i
    ·rw[if_pos (.inl h1),if_pos (.inl h1)]
    ·rw[if_neg (by omega),if_neg (by omega)]
   refine aC ?_
   simp
   refine cD aN [0,1,2,3,4,5,6,7,8] 1 9 (by kernel_rfl) ?_
   simp[Ne.symm aKZ,bT]
   refine aG hE ?_
   simp[Ne.symm aEF,bgi,wZ,hj2]
   refine bO (i:=9) (by kernel_rfl) rfl rfl rfl ?_
   simp[Ne.symm aEF,bgi,wZ,hj2,ezi]
   refine Dy ?_
   rw[M9]
   simp
   refine aC ?_
   simp[wj,aB]
   refine⟨⟨j+1,upd b gi (some ⟨2,zv (n+1) (cz Z Y i (j+1) i)⟩)⟩,⟨by simp only;omega,hGp,fun x y hx hn=> ?_⟩,by simp only;omega,rfl,by simp,?_⟩
   ·simp only
    rw[aL _ _ _ _ (by rintro rfl;exact hn Bs)];exact hfb x y hx hn
   ·intro z y hz2
    simp only[aA] at hz2 ⊢
    grind
  ·have Sy:j=n+1:=by omega
   subst Sy
   refine aC ?_
   simp[wi,aB]
   exact⟨⟨i+1,b⟩,⟨by simp only;omega,hGb.congr fun a c _ hc=>Hx Z Y i (n+1) a c hc,fun x y hx hn=>hfb x y (hbk x y hx hn) hn⟩,by simp only;omega,rfl,by simp,Sub.refl _⟩
 have hir:i=r:=by omega
 subst hir
 have hGY:ZG b gR ids i (n+1) Y:=hGb.congr fun a c ha _=>Hs Z Y i a c ha
 have bB:=hfb _ _ eB nBi
 have bF:=hfb _ _ eF nFi
 have hlb:=Tg (r:=i) (k:=k) bs hr
 clear hGb
 refine aE ?_
 simp[b7,bT,n7T,Ne.symm n7T]
 refine aE ?_
 simp[Ne.symm nTB,nTB,bB,hr,hlb]
 refine aE ?_
 simp[n7T,n7B,b7]
 refine aD (iS _) ?_
 simp
 have aMM:p≠0:=by rw[←hp];exact hY.ne
 have hG2:ZG (upd (upd b gT (some ⟨6,[[.lsl gR 1 0 i,.bool (decide (p<0)),.sl (iv (lim p.natAbs)),.lsl gB 1 0 i,.int .i64 n,.lsl gF 1 0 n]]⟩)) gB (some ⟨1,iv (lb i (pvB bs rp k))⟩)) gR ids i (n+1) Y:=hGY.fU fun x y hx hy=>by
  have h1:x≠gB:=by rintro rfl;rcases hx with hx | hx;exact nRB hx.symm;exact nBi hx
  have h2:x≠gT:=by rintro rfl;rcases hx with hx | hx;exact nTR hx;exact nTi hx
  rw[aL _ _ _ _ h1,aL _ _ _ _ h2];exact hy
 have e2T:(upd (upd b gT (some ⟨6,[[.lsl gR 1 0 i,.bool (decide (p<0)),.sl (iv (lim p.natAbs)),.lsl gB 1 0 i,.int .i64 n,.lsl gF 1 0 n]]⟩)) gB (some ⟨1,iv (lb i (pvB bs rp k))⟩)) gT=some ⟨6,[[.lsl gR 1 0 i,.bool (decide (p<0)),.sl (iv (lim p.natAbs)),.lsl gB 1 0 i,.int .i64 n,.lsl gF 1 0 n]]⟩:=by simp[nTB]
 have e2B:(upd (upd b gT (some ⟨6,[[.lsl gR 1 0 i,.bool (decide (p<0)),.sl (iv (lim p.natAbs)),.lsl gB 1 0 i,.int .i64 n,.lsl gF 1 0 n]]⟩)) gB (some ⟨1,iv (lb i (pvB bs rp k))⟩)) gB=some ⟨1,iv (lb i (pvB bs rp k))⟩:=by simp
 have e2F:(upd (upd b gT (some ⟨6,[[.lsl gR 1 0 i,.bool (decide (p<0)),.sl (iv (lim p.natAbs)),.lsl gB 1 0 i,.int .i64 n,.lsl gF 1 0 n]]⟩)) gB (some ⟨1,iv (lb i (pvB bs rp k))⟩)) gF=some ⟨1,lv n fr⟩:=by simp[Ne.symm nBF,Ne.symm nTF,bF]
 have e27:(upd (upd b gT (some ⟨6,[[.lsl gR 1 0 i,.bool (decide (p<0)),.sl (iv (lim p.natAbs)),.lsl gB 1 0 i,.int .i64 n,.lsl gF 1 0 n]]⟩)) gB (some ⟨1,iv (lb i (pvB bs rp k))⟩)) g7=some ⟨2,[biC p]⟩:=by simp[n7T,n7B,b7]
 have e2f: ∀x y,bl x=some y→x∉TG.all ⟨gT,gR,gB,gF,ids⟩→(upd (upd b gT (some ⟨6,[[.lsl gR 1 0 i,.bool (decide (p<0)),.sl (iv (lim p.natAbs)),.lsl gB 1 0 i,.int .i64 n,.lsl gF 1 0 n]]⟩)) gB (some ⟨1,iv (lb i (pvB bs rp k))⟩)) x=some y:=fun x y hx hn=>by
  simp only[TG.all,List.mem_cons,not_or] at hn
  rw[aL _ _ _ _ hn.2.2.1,aL _ _ _ _ hn.1]
  exact hfb x y (aJ2 x y hx) hn.2.2.2.2
 generalize upd (upd b gT (some ⟨6,[[.lsl gR 1 0 i,.bool (decide (p<0)),.sl (iv (lim p.natAbs)),.lsl gB 1 0 i,.int .i64 n,.lsl gF 1 0 n]]⟩)) gB (some ⟨1,iv (lb i (pvB bs rp k))⟩)=b2 at *
 refine⟨fun pH=> ?_,fun cM=> ?_⟩
 ·rw[aW]
  refine⟨[],by simp,hK b2 ⟨?_,?_,e2B,e2F,pT,pR,pB,pF,aAC⟩ e2f⟩
  ·simp only[pvF,if_pos pH];exact hG2
  ·simp only[show((p.natAbs:Nat):Int)=p by omega];exact e2T
 clear hGY hfb bB bF bT b7
 have hO:=jR p
 refine gG [(0,.loc gT 6 0 0),(1,.int .i64 rp),(2,.int .i64 k),(6,.lsl gp 2 0 (n+1)),(7,.loc g7 2 0 0)] 128 b2 ⟨rfl,by simp,Sub.refl _⟩ ?_
 refine aE ?_
 simp[e27]
 refine aD hO ?_
 simp[e2T]
 have hG3:ZG (upd b2 gT (some ⟨6,[[.lsl gR 1 0 i,.bool (decide (0<p)),.sl (iv (lim p.natAbs)),.lsl gB 1 0 i,.int .i64 n,.lsl gF 1 0 n]]⟩)) gR ids i (n+1) (cz Y (fun a c=> - Y a c) 0 0):=by
  rw[V7]
  exact hG2.fU fun x y hx hy=>by
   have h2:x≠gT:=by rintro rfl;rcases hx with hx | hx;exact nTR hx;exact nTi hx
   rw[aL _ _ _ _ h2];exact hy
 have e3T:(upd b2 gT (some ⟨6,[[.lsl gR 1 0 i,.bool (decide (0<p)),.sl (iv (lim p.natAbs)),.lsl gB 1 0 i,.int .i64 n,.lsl gF 1 0 n]]⟩)) gT=some ⟨6,[[.lsl gR 1 0 i,.bool (decide (0<p)),.sl (iv (lim p.natAbs)),.lsl gB 1 0 i,.int .i64 n,.lsl gF 1 0 n]]⟩:=by simp
 have e3B:(upd b2 gT (some ⟨6,[[.lsl gR 1 0 i,.bool (decide (0<p)),.sl (iv (lim p.natAbs)),.lsl gB 1 0 i,.int .i64 n,.lsl gF 1 0 n]]⟩)) gB=some ⟨1,iv (lb i (pvB bs rp k))⟩:=by simp[Ne.symm nTB,e2B]
 have e3F:(upd b2 gT (some ⟨6,[[.lsl gR 1 0 i,.bool (decide (0<p)),.sl (iv (lim p.natAbs)),.lsl gB 1 0 i,.int .i64 n,.lsl gF 1 0 n]]⟩)) gF=some ⟨1,lv n fr⟩:=by simp[Ne.symm nTF,e2F]
 have e3f: ∀x y,bl x=some y→x∉TG.all ⟨gT,gR,gB,gF,ids⟩→(upd b2 gT (some ⟨6,[[.lsl gR 1 0 i,.bool (decide (0<p)),.sl (iv (lim p.natAbs)),.lsl gB 1 0 i,.int .i64 n,.lsl gF 1 0 n]]⟩)) x=some y:=fun x y hx hn=>by
  have hn2:=hn
  simp only[TG.all,List.mem_cons,not_or] at hn2
  rw[aL _ _ _ _ hn2.1]
  exact e2f x y hx hn
 generalize upd b2 gT (some ⟨6,[[.lsl gR 1 0 i,.bool (decide (0<p)),.sl (iv (lim p.natAbs)),.lsl gB 1 0 i,.int .i64 n,.lsl gF 1 0 n]]⟩)=b3 at *
 have e3R:=hG3.top
 refine aC ?_
 simp[e3T]
 refine aP (fun q:J0=> [(0,.loc gT 6 0 0),(107,.lsl gR 1 0 i),(108,.int .i64 i),(109,.int .i64 q.j)]) (fun q=>q.b) (fun q=>q.j≤i∧ZG q.b gR ids i (n+1) (cz Y (fun a c=> - Y a c) q.j 0)∧(∀x y,b3 x=some y→x∉ids→q.b x=some y)) (fun q=>i - q.j) _ ⟨0,b3⟩ ⟨Nat.zero_le _,hG3,fun _ _ h _=>h⟩ ⟨rfl,by simp,Sub.refl _⟩ ?_
 rintro⟨t,b⟩ ⟨ht,hGb,hfb⟩
 simp only at ht hGb hfb
 have wt:IntKind.i64.wrap ((t:Int)+1)=(t:Int)+1:=i64_in (by omega) (by omega)
 have bR:=hGb.top
 refine aE ?_
 simp
 refine aE ?_
 simp
 refine⟨fun hlt=> ?_,fun hlt=> ?_⟩
 ·obtain⟨gt,hgt,aJI,aM0,aKJ⟩:=hGb.at t hlt
  refine cE (cC ?_)
  refine aE ?_
  simp[hlt,bR,hgt]
  refine aC ?_
  simp
  refine aP (fun q:J0=> [(0,.loc gT 6 0 0),(107,.lsl gR 1 0 i),(108,.int .i64 i),(109,.int .i64 t),(14,.lsl gt 2 0 (n+1)),(114,.int .i64 (n+1)),(115,.int .i64 q.j)]) (fun q=>q.b) (fun q=>q.j≤n+1∧ZG q.b gR ids i (n+1) (cz Y (fun a c=> - Y a c) t q.j)∧(∀x y,b3 x=some y→x∉ids→q.b x=some y)) (fun q=>n+1 - q.j) _ ⟨0,b⟩ ⟨Nat.zero_le _,hGb,hfb⟩ ⟨rfl,by simp,Sub.refl _⟩ ?_
  clear hGb hfb bR aKJ
  rintro⟨j,b⟩ ⟨hj,hGb,hfb⟩
  simp only at hj hGb hfb
  have wj:IntKind.i64.wrap ((j:Int)+1)=(j:Int)+1:=i64_in (by omega) (by omega)
  have bgt:=hGb.row t gt hgt
  refine aC ?_
  simp
  refine⟨fun hjn=> ?_,fun hjn=> ?_⟩
  ·have wZ:j<n+1:=by omega
   have hj2:(j:Int)<(n:Int)+1:=by omega
   have ezi:cz Y (fun a c=> - Y a c) t j t j=Y t j:=Co Y _ t j j (Nat.le_refl _)
   have M9:=Cd Y (fun a c=> - Y a c) t wZ
   have hGp:=hGb.put (Z':=cz Y (fun a c=> - Y a c) t (j+1)) hgt fun a c ha _=>by
    unfold cz
    by_cases h1:a<t
    ·rw[if_pos (.inl h1),if_pos (.inl h1)]
    ·rw[if_neg (by omega),if_neg (by omega)]
   simp[bgt,wZ,hj2,ezi]
   refine aD (jR _) ?_
   simp[bgt,wZ,hj2,ezi,M9,wj,aB]
   refine⟨⟨j+1,upd b gt (some ⟨2,zv (n+1) (cz Y (fun a c=> - Y a c) t (j+1) t)⟩)⟩,⟨by simp only;omega,hGp,fun x y hx hn=> ?_⟩,by simp only;omega,rfl,by simp,Sub.refl _⟩
   simp only
   rw[aL _ _ _ _ (by rintro rfl;exact hn aJI)];exact hfb x y hx hn
  ·have Sy:j=n+1:=by omega
   subst Sy
   simp
   refine aC ?_
   simp[wt,aB]
   exact⟨⟨t+1,b⟩,⟨by simp only;omega,hGb.congr fun a c _ hc=>Hx Y _ t (n+1) a c hc,hfb⟩,by simp only;omega,rfl,by simp,Sub.refl _⟩
 have hti:t=i:=by omega
 subst hti
 simp
 rw[lY]
 refine⟨[],by simp,hK b ⟨?_,?_,?_,?_,pT,pR,pB,pF,aAC⟩ fun x y hx hn=> ?_⟩
 ·simp only[pvF,if_neg (show ¬ 0<p by omega)]
  exact hGb.congr fun a c ha _=>Hs Y _ t a c ha
 ·simp only[show decide ((p.natAbs:Int)<0)=decide (0<p) by rw[decide_eq_false (by omega),decide_eq_false (by omega)],Int.natAbs_natCast]
  exact hfb _ _ e3T nTi
 ·exact hfb _ _ e3B nBi
 ·exact hfb _ _ e3F nFi
 ·have hn2:=hn
  simp only[TG.all,List.mem_cons,not_or] at hn2
  exact hfb _ _ (e3f x y hx hn) hn2.2.2.2.2

abbrev pV (n m:Nat) (E:Nat→Nat→Rat) (rows:List Nat) (t:Lp.Tab):Prop:=Lp.Inv n m (n+m) (n+m+1) 1000 E rows t
def atR (rows:List Nat) (p:Nat):Nat:=rows.getD p 0
def aY (n m:Nat) (E:Nat→Nat→Rat) (rows:List Nat) (t:Lp.Tab) (fr:Nat→Bool):TN:=
 ⟨rows.length,n+m,fun p c=>Lp.zt m E t (atR rows p) c,Lp.dz m E t,fun p=>t.bs (atR rows p),fr⟩
def Rows (m:Nat) (rows:List Nat):Prop:= ∃P:Nat→Bool,rows=(List.range m).filter P
theorem Rows.lt {m:Nat} {rows:List Nat} (h:Rows m rows) {i:Nat} (hi:i∈rows):i<m:=by
 obtain⟨P,rfl⟩:=h
 simpa using (List.mem_filter.1 hi).1
theorem Rows.len {m:Nat} {rows:List Nat} (h:Rows m rows):rows.length≤m:=by
 obtain⟨P,rfl⟩:=h
 exact Nat.le_trans (List.length_filter_le _ _) (by simp)
theorem Rows.nodup {m:Nat} {rows:List Nat} (h:Rows m rows):rows.Nodup:=by
 obtain⟨P,rfl⟩:=h
 exact List.Pairwise.filter _ List.nodup_range
theorem cW {rows:List Nat} {p:Nat} (h:p<rows.length):atR rows p∈rows:=by
 unfold atR
 rw[List.getD_eq_getElem?_getD,List.getElem?_eq_getElem h];exact List.getElem_mem h
theorem Rows.inj {m:Nat} {rows:List Nat} (h:Rows m rows) {p q:Nat} (hp:p<rows.length) (hq:q<rows.length) (e:atR rows p=atR rows q):p=q:=by
 have hn:=h.nodup
 unfold atR at e
 rw[List.getD_eq_getElem?_getD,List.getElem?_eq_getElem hp,List.getD_eq_getElem?_getD,List.getElem?_eq_getElem hq] at e
 have hp2:=List.pairwise_iff_getElem.1 hn
 simp only[Option.getD_some] at e
 rcases Nat.lt_trichotomy p q with g | g | g
 ·exact absurd e (hp2 p q hp hq g)
 ·exact g
 ·exact absurd e.symm (hp2 q p hq hp g)
theorem O2 (m:Nat):Rows m (List.range m):=⟨fun _=>true,(List.filter_eq_self.2 fun _ _=>rfl).symm⟩
theorem Ax (n m:Nat) (t:Lp.Tab):Rows m (Lp.bE n t m):=⟨fun i=>decide (t.bs i<n),rfl⟩
theorem Sj (l:List Nat) (x:Nat) (f:Nat→Rat):Lp.S (l++ [x]).length (fun p=>f (atR (l++ [x]) p))=Lp.S l.length (fun p=>f (atR l p))+f x:=by
 rw[List.length_append,List.length_singleton,Lp.S]
 congr 1
 ·exact Lp.aM fun p hp=>by unfold atR;rw[List.getD_eq_getElem?_getD,List.getD_eq_getElem?_getD,List.getElem?_append_left hp]
 ·unfold atR;rw[List.getD_eq_getElem?_getD,List.getElem?_append_right (Nat.le_refl _)];simp
theorem Rows.sum {m:Nat} {rows:List Nat} (h:Rows m rows) (f:Nat→Rat) (hf: ∀i,i<m→i∉rows→f i=0):Lp.S rows.length (fun p=>f (atR rows p))=Lp.S m f:=by
 obtain⟨P,rfl⟩:=h
 induction m with
 | zero => rfl
 | succ m ih =>
   rw[List.range_succ,List.filter_append]
   have hf': ∀i,i<m→i∉(List.range m).filter P→f i=0:=fun i hi hn=>hf i (by omega) fun hm=>hn (by
    rw[List.mem_filter] at hm ⊢
    exact⟨by simpa using hi,hm.2⟩)
   cases hP:P m with
   | true=>
     rw[show List.filter P [m]= [m] by simp[hP],Sj,ih hf',Lp.S]
   | false=>
     rw[show List.filter P [m]= [] by simp[hP],List.append_nil,ih hf',Lp.S,hf m (by omega) (fun hm=>by rw[List.mem_filter,hP] at hm;cases hm.2)]
     grind
theorem Lr :eX=10^66:=by unfold eX;rfl
theorem U8 {n m:Nat} {E:Nat→Nat→Rat} {rows:List Nat} {t:Lp.Tab} (h:pV n m E rows t) (hm:m≤17) (hn:n+m≤100) (hr:Rows m rows):ZB rows.length (n+m) (fun p c=>Lp.zt m E t (atR rows p) c) (Lp.dz m E t):=by
 have hl:=Lp.mW hm
 rw[←Lr] at hl
 refine⟨fun p c hp hc=> ?_,?_,Lp.pK h.z,by have:=hr.len;omega,hn⟩
 ·have:=Lp.Nr h.z (hr.lt (cW hp)) (show c<n+m+1 by omega)
  omega
 ·have:=Lp.Ot h.z
  have:=Lp.pK h.z
  omega
theorem Re {n m:Nat} {E:Nat→Nat→Rat} {rows:List Nat} {t:Lp.Tab} (h:pV n m E rows t) (hr:Rows m rows) (O:Nat→Int) (k:Nat) (hk:k<n+m+1) (hO: ∀i,i<m→i∉rows→O (t.bs i)=0):
  ((gTo (fun p c=>Lp.zt m E t (atR rows p) c) (Lp.dz m E t) (fun p=>t.bs (atR rows p)) O k rows.length:Int):Rat)=Lp.dz m E t*Lp.rc m (fun c=>(O c:Rat)) t k:=by
 have key: ∀i,i≤rows.length→((gTo (fun p c=>Lp.zt m E t (atR rows p) c) (Lp.dz m E t) (fun p=>t.bs (atR rows p)) O k i:Int):Rat)=Lp.dz m E t*((O k:Rat) - Lp.S i fun p=>t.X (atR rows p) k*(O (t.bs (atR rows p)):Rat)):=by
  intro i
  induction i with
  | zero => intro _; rw [gTo, Rat.intCast_mul, Lp.S]; grind
  | succ i ih =>
    intro hi
    have hc:=Lp.eW h.z (hr.lt (cW (show i<rows.length by omega))) hk
    rw[gTo,Lp.S]
    split
    ·rw[Rat.intCast_sub,Rat.intCast_mul,ih (by omega),hc];grind
    ·rename_i hno
     rw[ih (by omega)]
     have hz:t.X (atR rows i) k*(O (t.bs (atR rows i)):Rat)=0:=by
      by_cases g1:O (t.bs (atR rows i))=0
      ·rw[g1];grind
      ·have g2:Lp.zt m E t (atR rows i) k=0:=Classical.not_not.1 fun g2=>hno ⟨g1,g2⟩
       rw[(Lp.nU h.z (hr.lt (cW (show i<rows.length by omega))) hk).2.1 g2];grind
     rw[hz];grind
 rw[key _ (Nat.le_refl _)]
 unfold Lp.rc
 rw[hr.sum (fun i=>t.X i k*(O (t.bs i):Rat)) fun i hi hn=>by rw[hO i hi hn];grind]
theorem Ap {n m:Nat} {E:Nat→Nat→Rat} {rows:List Nat} {t:Lp.Tab} (h:pV n m E rows t) (hr:Rows m rows) (O:Nat→Int) (k:Nat) (hk:k<n+m+1) (hO: ∀i,i<m→i∉rows→O (t.bs i)=0):
  (0<gTo (fun p c=>Lp.zt m E t (atR rows p) c) (Lp.dz m E t) (fun p=>t.bs (atR rows p)) O k rows.length ↔ 0<Lp.rc m (fun c=>(O c:Rat)) t k)∧
  (gTo (fun p c=>Lp.zt m E t (atR rows p) c) (Lp.dz m E t) (fun p=>t.bs (atR rows p)) O k rows.length<0 ↔ Lp.rc m (fun c=>(O c:Rat)) t k<0):=by
 have e:=Re h hr O k hk hO
 have hd:(0:Rat)<Lp.dz m E t:=Rat.intCast_pos.2 (Lp.pK h.z)
 generalize gTo (fun p c=>Lp.zt m E t (atR rows p) c) (Lp.dz m E t) (fun p=>t.bs (atR rows p)) O k rows.length=G at *
 generalize Lp.rc m (fun c=>(O c:Rat)) t k=q at *
 constructor
 ·rw[←Rat.intCast_pos,e]
  constructor
  ·intro hp
   rcases Lp.eD q 0 with g | g
   ·have:=Rat.mul_nonneg (show(0:Rat)≤Lp.dz m E t by grind) (show 0≤ -q by grind);grind
   ·exact g
  ·intro hp;exact Rat.mul_pos hd hp
 ·rw[show G<0 ↔ (G:Rat)<0 from by rw[←Rat.intCast_lt_intCast];rfl,e]
  constructor
  ·intro hp
   rcases Lp.eD 0 q with g | g
   ·have:=Rat.mul_nonneg (show(0:Rat)≤Lp.dz m E t by grind) g;grind
   ·exact g
  ·intro hp
   have:=Rat.mul_pos hd (show 0< -q by grind);grind
theorem D4 {n m:Nat} {E:Nat→Nat→Rat} {rows:List Nat} {t:Lp.Tab} (h:pV n m E rows t) (hr:Rows m rows) (k:Nat) (hk:k<n+m+1): ∀i,i≤rows.length→
  Lp.leave t (n+m) k (rows.take i)=(lvZ (fun p c=>Lp.zt m E t (atR rows p) c) (n+m) k (fun p=>t.bs (atR rows p)) i).map fun p=>atR rows p
 | 0, _ => by simp [lvZ, Lp.leave]
 | i + 1, hi => by
   have hlt:i<rows.length:=by omega
   have ih:=D4 h hr k hk i (by omega)
   have e:rows.take (i+1)=rows.take i++ [atR rows i]:=by
    unfold atR;rw[List.take_add_one,List.getElem?_eq_getElem hlt,List.getD_eq_getElem?_getD,List.getElem?_eq_getElem hlt];rfl
   have hm:=hr.lt (cW hlt)
   have hs:=Lp.nU h.z hm hk
   rw[e,Lp.vS,ih,lvZ]
   unfold Lp.lvStep
   by_cases hp:0<t.X (atR rows i) k
   ·rw[if_pos hp,if_neg (show ¬ Lp.zt m E t (atR rows i) k≤0 by have:=hs.1.2 hp;omega)]
    cases hb:lvZ (fun p c=>Lp.zt m E t (atR rows p) c) (n+m) k (fun p=>t.bs (atR rows p)) i with
    | none => rfl
    | some j =>
      simp only[Option.map_some]
      have hj:=uW hb
      have hjm:=hr.lt (cW (show j<rows.length by omega))
      have hpj:0<t.X (atR rows j) k:=by
       have pJ:atR rows j∈rows.take i∧0<t.X (atR rows j) k:=by
        have:=(Lp.jH t (n+m) k (rows.take i)).2 (atR rows j) (by rw[ih,hb];rfl)
        exact⟨this.1,this.2.1⟩
       exact pJ.2
      have hq:=Lp.sJ (a:=t.X (atR rows i) (n+m)) (b:=t.X (atR rows i) k) (c:=t.X (atR rows j) (n+m)) (d:=t.X (atR rows j) k) hp hpj
      have hd:(0:Rat)<Lp.dz m E t:=Rat.intCast_pos.2 (Lp.pK h.z)
      have c1:=Lp.eW h.z hm (show n+m<n+m+1 by omega)
      have c2:=Lp.eW h.z hm hk
      have c3:=Lp.eW h.z hjm (show n+m<n+m+1 by omega)
      have c4:=Lp.eW h.z hjm hk
      have l1:((Lp.zt m E t (atR rows i) (n+m)*Lp.zt m E t (atR rows j) k:Int):Rat)=t.X (atR rows i) (n+m)*t.X (atR rows j) k*((Lp.dz m E t:Rat)*Lp.dz m E t):=by rw[Rat.intCast_mul,c1,c4];grind
      have l2:((Lp.zt m E t (atR rows j) (n+m)*Lp.zt m E t (atR rows i) k:Int):Rat)=t.X (atR rows j) (n+m)*t.X (atR rows i) k*((Lp.dz m E t:Rat)*Lp.dz m E t):=by rw[Rat.intCast_mul,c2,c3];grind
      have hdd:=Rat.mul_pos hd hd
      have Px:Lp.quo t (n+m) k (atR rows i)<Lp.quo t (n+m) k (atR rows j) ↔ Lp.zt m E t (atR rows i) (n+m)*Lp.zt m E t (atR rows j) k<Lp.zt m E t (atR rows j) (n+m)*Lp.zt m E t (atR rows i) k:=by
       unfold Lp.quo
       rw[hq.1,←Rat.intCast_lt_intCast,l1,l2]
       generalize t.X (atR rows i) (n+m)*t.X (atR rows j) k=A
       generalize t.X (atR rows j) (n+m)*t.X (atR rows i) k=B
       generalize (Lp.dz m E t:Rat)*Lp.dz m E t=D at hdd
       constructor
       ·intro hh;have:=Rat.mul_pos (show 0<B - A by grind) hdd;grind
       ·intro hh
        rcases Lp.eD B A with g | g
        ·have:=Rat.mul_nonneg (show 0≤A - B by grind) (show 0≤D by grind);grind
        ·exact g
      have aDV:Lp.quo t (n+m) k (atR rows i)=Lp.quo t (n+m) k (atR rows j) ↔ Lp.zt m E t (atR rows i) (n+m)*Lp.zt m E t (atR rows j) k=Lp.zt m E t (atR rows j) (n+m)*Lp.zt m E t (atR rows i) k:=by
       unfold Lp.quo
       rw[hq.2,←Rat.intCast_inj,l1,l2]
       generalize t.X (atR rows i) (n+m)*t.X (atR rows j) k=A
       generalize t.X (atR rows j) (n+m)*t.X (atR rows i) k=B
       generalize (Lp.dz m E t:Rat)*Lp.dz m E t=D at hdd
       constructor
       ·intro hh;rw[hh]
       ·intro hh
        have:(A - B)*D=0:=by grind
        rcases Rat.mul_eq_zero.1 this with g | g
        ·grind
        ·grind
      by_cases hc:Lp.quo t (n+m) k (atR rows i)<Lp.quo t (n+m) k (atR rows j)∨Lp.quo t (n+m) k (atR rows i)=Lp.quo t (n+m) k (atR rows j)∧t.bs (atR rows i)<t.bs (atR rows j)
      ·rw[if_pos hc,if_pos (by rw[Px,aDV] at hc;exact hc)];rfl
      ·rw[if_neg hc,if_neg (by rw[Px,aDV] at hc;exact hc)];rfl
   ·rw[if_neg hp,if_pos (show Lp.zt m E t (atR rows i) k≤0 by
     rcases Int.lt_or_le 0 (Lp.zt m E t (atR rows i) k) with g | g
     ·exact absurd (hs.1.1 g) hp
     ·exact g)]
theorem Gg {n m:Nat} {E:Nat→Nat→Rat} {rows:List Nat} {t:Lp.Tab} (h:pV n m E rows t) (hr:Rows m rows) {p k:Nat} (hp:p<rows.length) (hk:k<n+m) (hx:t.X (atR rows p) k≠0) (fr:Nat→Bool):
  ∃Y,aE5 rows.length (n+m) p k (aY n m E rows t fr).Z (Lp.dz m E t) Y∧
   ∀b g,TT b g ⟨rows.length,n+m,pvF ((aY n m E rows t fr).Z p k) Y,(((aY n m E rows t fr).Z p k).natAbs:Int),pvB (aY n m E rows t fr).bs p k,fr⟩→TT b g (aY n m E rows (Lp.piv t (atR rows p) k) fr):=by
 have hm:=hr.lt (cW hp)
 have hs:=Lp.nU h.z hm (show k<n+m+1 by omega)
 have hne:Lp.zt m E t (atR rows p) k≠0:=fun e=>hx (hs.2.1 e)
 have hd:=Lp.pK h.z
 let z':Nat→Nat→Int:=fun a c=>Lp.zt m E (Lp.piv t (atR rows p) k) (atR rows a) c
 have hpz: ∀a c,a<rows.length→c≤n+m→_:=fun a c ha hc=>Lp.Ug h.z hm (show k<n+m+1 by omega) hx (hr.lt (cW ha)) (show c<n+m+1 by omega)
 have Qf: ∀a,a<rows.length→(atR rows a=atR rows p ↔ a=p):=fun a ha=>⟨fun e=>hr.inj ha hp e,fun e=>by rw[e]⟩
 have hbs: ∀a,a<rows.length→(Lp.piv t (atR rows p) k).bs (atR rows a)=pvB (fun q=>t.bs (atR rows q)) p k a:=fun a ha=>by
  unfold pvB
  by_cases e:a=p
  ·rw[e,if_pos rfl,Lp.cX]
  ·rw[if_neg e,Lp.cA _ _ fun e2=>e ((Qf a ha).1 e2)]
 have hTT: ∀(Y:Nat→Nat→Int),(∀a c,a<rows.length→c≤n+m→pvF (Lp.zt m E t (atR rows p) k) Y a c=z' a c)→(Lp.dz m E (Lp.piv t (atR rows p) k)=((Lp.zt m E t (atR rows p) k).natAbs:Int))→ ∀b g,TT b g ⟨rows.length,n+m,pvF ((aY n m E rows t fr).Z p k) Y,(((aY n m E rows t fr).Z p k).natAbs:Int),pvB (aY n m E rows t fr).bs p k,fr⟩→TT b g (aY n m E rows (Lp.piv t (atR rows p) k) fr):=by
  intro Y h1 h2 b g hT
  have e1:iv (lb rows.length (pvB (fun q=>t.bs (atR rows q)) p k))=iv (lb rows.length fun q=>(Lp.piv t (atR rows p) k).bs (atR rows q)):=by
   unfold lb
   congr 1
   exact List.map_congr_left fun q hq=>by simp only[hbs q (by simpa using hq)]
  refine⟨hT.dH.congr fun a c ha hc=>h1 a c ha (by simp only at hc;omega),?_,?_,hT.fre,hT.pT,hT.pR,hT.pB,hT.pF,hT.nd⟩
  ·have:=hT.hd
   simp only[aY,h2] at this ⊢
   exact this
  ·have:=hT.ba
   simp only[aY] at this ⊢
   rw[←e1];exact this
 rcases Int.lt_or_gt_of_ne hne with cM | pH
 ·refine⟨fun a c=> - z' a c,⟨fun a c ha hc hap=> ?_,fun c hc=> ?_,hne⟩,hTT _ (fun a c _ _=> ?_) ?_⟩
  ·have:=((hpz a c ha hc).2 cM).2
   rw[if_neg fun e=>hap ((Qf a ha).1 e)] at this
   simp only[aY,z']
   rw[Int.neg_mul,this];omega
  ·have:=((hpz p c hp hc).2 cM).2
   rw[if_pos rfl,←Int.neg_mul] at this
   have:=Int.eq_of_mul_eq_mul_right (by omega) this
   simp only[aY,z']
   rw[this];omega
  ·simp only[pvF,if_neg (show ¬ 0<Lp.zt m E t (atR rows p) k by omega)]
   omega
  ·rw[((hpz p 0 hp (Nat.zero_le _)).2 cM).1];omega
 ·refine⟨z',⟨fun a c ha hc hap=> ?_,fun c hc=> ?_,hne⟩,hTT _ (fun a c _ _=> ?_) ?_⟩
  ·have:=((hpz a c ha hc).1 pH).2
   rw[if_neg fun e=>hap ((Qf a ha).1 e)] at this
   exact this
  ·have:=((hpz p c hp hc).1 pH).2
   rw[if_pos rfl] at this
   exact Int.eq_of_mul_eq_mul_right (by omega) this
  ·simp only[pvF,if_pos pH]
  ·rw[((hpz p 0 hp (Nat.zero_le _)).1 pH).1];omega

theorem Hu {b:Int→Option Blk} {g:Int} {l:List Int} (h0:0≤g) (h:b g=some ⟨1,iv l⟩) (m:Nat):frz b (m+1) (.lsl g 1 0 l.length)=some (.sl (iv l)):=by
 have h1:=fV (n:=m) h0 h
 rw[fJ (lR _),show(iv l).length=l.length by simp] at h1
 rw[h1];rfl
def wO (O:Nat→Int):Nat→Rat:=fun c=>(O c:Rat)
def fO (N:Nat) (fr:Nat→Bool):Nat→Prop:=fun c=>c<N∧fr c=true
structure aBM where
 j:Nat
 a:Bool
 b:Int→Option Blk
noncomputable def frK (m : Nat) (O : Nat → Int) (t : Lp.Tab) (fr : Nat → Bool) (k : Nat) : Nat → Bool := open Classical in fun c => if c < k then fr c && !decide (Lp.rc m (wO O) t c < 0) else fr c
theorem En (m:Nat) (O:Nat→Int) (t:Lp.Tab) (fr:Nat→Bool):frK m O t fr 0=fr:=by funext c;unfold frK;rw[if_neg (by omega)]
theorem M5 {N k:Nat} (f:Nat→Bool) (v:Bool) (h:k<N):(lv N f).set k [.bool v]=lv N (fun c=>if c=k then v else f c):=by
 apply List.ext_getElem
 ·simp
 ·intro t h1 h2
  simp only[List.getElem_set,Lu]
  by_cases e:k=t
  ·subst e;simp
  ·rw[if_neg e,if_neg (Ne.symm e)]
theorem Qy {r:Nat} {bs:Nat→Nat} {k:Nat} :(k:Int)∈lb r bs ↔ ∃p,p<r∧bs p=k:=by
 unfold lb
 constructor
 ·intro h
  obtain⟨p,hp,e⟩:=List.mem_map.1 h
  exact⟨p,by simpa using hp,by omega⟩
 ·rintro⟨p,hp,e⟩
  exact List.mem_map.2 ⟨p,by simpa using hp,by rw[e]⟩
theorem sU {bl:Int→Option Blk} {K:V→(Int→Option Blk)→Prop} (n m:Nat) (E:Nat→Nat→Rat) (rows:List Nat) (g:TG) (t:Lp.Tab) (fr:Nat→Bool) (O:Nat→Int) (gO:Int) (e:Nat)
  (hm:m≤17) (hn:n+m≤100) (hr:Rows m rows) (hO: ∀c,(O c).natAbs≤1000) (hO0:(∀i,i<m→i∈rows)∨ ∀c,n≤c→O c=0)
  (h1:Lp.nx (n+m) (n+m) rows (Lp.okW m (wO O) (fO (n+m) fr)) (Lp.orb (Lp.nx (n+m) (n+m) rows (Lp.okW m (wO O) (fO (n+m) fr))) t e)=none)
  (h2: ∀e',e'<e→(Lp.nx (n+m) (n+m) rows (Lp.okW m (wO O) (fO (n+m) fr)) (Lp.orb (Lp.nx (n+m) (n+m) rows (Lp.okW m (wO O) (fO (n+m) fr))) t e')).isSome=true)
  (hI: ∀e',e'≤e→pV n m E rows (Lp.orb (Lp.nx (n+m) (n+m) rows (Lp.okW m (wO O) (fO (n+m) fr))) t e'))
  (hTT:TT bl g (aY n m E rows t fr)) (hgO:bl gO=some ⟨1,iv (lz (n+m) O)⟩) (hg0:0≤gO) (hgn:gO∉g.all)
  (hT: ∀b',Lp.fstP (Lp.okW m (wO O) (fO (n+m) fr) (Lp.orb (Lp.nx (n+m) (n+m) rows (Lp.okW m (wO O) (fO (n+m) fr))) t e)) (n+m)=none→
    TT b' g (aY n m E rows (Lp.orb (Lp.nx (n+m) (n+m) rows (Lp.okW m (wO O) (fO (n+m) fr))) t e) (frK m O (Lp.orb (Lp.nx (n+m) (n+m) rows (Lp.okW m (wO O) (fO (n+m) fr))) t e) fr (n+m)))→
    (∀x y,bl x=some y→x∉g.all→b' x=some y)→K (.bool true) b')
  (hF: ∀b' k,Lp.fstP (Lp.okW m (wO O) (fO (n+m) fr) (Lp.orb (Lp.nx (n+m) (n+m) rows (Lp.okW m (wO O) (fO (n+m) fr))) t e)) (n+m)=some k→Lp.leave (Lp.orb (Lp.nx (n+m) (n+m) rows (Lp.okW m (wO O) (fO (n+m) fr))) t e) (n+m) k rows=none→
    TT b' g (aY n m E rows (Lp.orb (Lp.nx (n+m) (n+m) rows (Lp.okW m (wO O) (fO (n+m) fr))) t e) fr)→(∀x y,bl x=some y→x∉g.all→b' x=some y)→K (.bool false) b'):
  bN Tryz.prog 205 [.loc g.T 6 0 0,.lsl gO 1 0 (n+m)] bl K:=by
 obtain⟨nxf,hnx⟩: ∃f,Lp.nx (n+m) (n+m) rows (Lp.okW m (wO O) (fO (n+m) fr))=f:=⟨_,rfl⟩
 rw[hnx] at h1 h2 hI hT hF
 obtain⟨N,hN⟩: ∃N,n+m=N:=⟨_,rfl⟩
 have hlz:(lz N O).length=N:=by simp
 have aE2: ∀t,pV n m E rows t→ ∀i,i<m→i∉rows→O (t.bs i)=0:=fun t h i hi hn=>by
  rcases hO0 with g1 | g1
  ·exact absurd (g1 i hi) hn
  ·exact g1 _ (h.dead i hi hn).1
 have aJK: ∀b t f,TT b g (aY n m E rows t f)→ ∀q,frz b (q+4) (.loc g.T 6 0 0)=some (.ptr (aY n m E rows t f).c):=fun b t f h q=>h.frz q
 have Ou: ∀t f k,pV n m E rows t→k<N→RO Tryz.prog 256 [.ptr (aY n m E rows t f).c,.sl (iv (lz N O)),.int .i64 k] (.int .i64 (gTo (fun p c=>Lp.zt m E t (atR rows p) c) (Lp.dz m E t) (fun p=>t.bs (atR rows p)) O k rows.length).sign):=fun t f k h hk=>by
  have:=Jz rows.length (n+m) (fun p c=>Lp.zt m E t (atR rows p) c) (Lp.dz m E t) (fun p=>t.bs (atR rows p)) f O k (U8 h hm hn hr) hO (by omega) fun p hp=>h.lt _ (hr.lt (cW hp))
  rw[hN] at this
  rw[show(aY n m E rows t f).c=jN rows.length N (fun p c=>Lp.zt m E t (atR rows p) c) (Lp.dz m E t) (fun p=>t.bs (atR rows p)) f by rw[←hN];rfl]
  exact this
 have Zy: ∀t f k,pV n m E rows t→k<N→RO Tryz.prog 257 [.ptr (aY n m E rows t f).c,.int .i64 k] (.int .i64 (oI (lvZ (fun p c=>Lp.zt m E t (atR rows p) c) N k (fun p=>t.bs (atR rows p)) rows.length))):=fun t f k h hk=>by
  have:=S3 rows.length (n+m) (fun p c=>Lp.zt m E t (atR rows p) c) (Lp.dz m E t) (fun p=>t.bs (atR rows p)) f k (U8 h hm hn hr) (by omega)
  rw[hN] at this
  rw[show(aY n m E rows t f).c=jN rows.length N (fun p c=>Lp.zt m E t (atR rows p) c) (Lp.dz m E t) (fun p=>t.bs (atR rows p)) f by rw[←hN];rfl]
  exact this
 have aCW: ∀(t:Lp.Tab) (k:Nat),RO Tryz.prog 255 [.sl (iv (lb rows.length fun p=>t.bs (atR rows p))),.int .i64 k] (.bool (decide ((k:Int)∈lb rows.length fun p=>t.bs (atR rows p)))):=fun t k=>sQ _ k (by rw[Az];have:=hr.len;omega)
 have aA9: ∀(t:Lp.Tab) (k:Nat),pV n m E rows t→((k:Int)∈lb rows.length fun p=>t.bs (atR rows p))→Lp.rc m (wO O) t k=0:=fun t k h hk=>by
  obtain⟨p,hp,e⟩:=Qy.1 hk
  rw[←e];exact Lp.mC h.z.ti _ (hr.lt (cW hp))
 have hsg: ∀t k,pV n m E rows t→k<N→_:=fun t k h hk=>Ap h hr O k (show k<n+m+1 by omega) (aE2 t h)
 rw[hN]
 rw[hN] at hgO
 refine bD Tryz.func205 rfl rfl (by rw[Tryz.ntmps205];simp) ?_
 rw[Tryz.ntmps205,Tryz.results205]
 refine aE ?_
 simp
 refine aE ?_
 simp
 refine aP (fun q:aBM=> [(0,.loc g.T 6 0 0),(1,.lsl gO 1 0 N),(4,.bool false),(5,.bool q.a)]) (fun q=>q.b) (fun q=>q.j≤e∧TT q.b g (aY n m E rows (Lp.orb nxf t q.j) fr)∧(∀x y,bl x=some y→x∉g.all→q.b x=some y)∧(q.a=false→q.j=e∧Lp.fstP (Lp.okW m (wO O) (fO N fr) (Lp.orb nxf t e)) N=none)) (fun q=>2*(e - q.j)+if q.a=true then 1 else 0) _ ⟨0,true,bl⟩ ⟨Nat.zero_le _,hTT,fun _ _ h _=>h,fun h=>by cases h⟩ ⟨rfl,by simp,Sub.refl _⟩ ?_
 rintro⟨j,a,b⟩ ⟨hj,hTb,hfb,hab⟩
 simp only at hj hTb hfb hab
 have hbO:=hfb _ _ hgO hgn
 have Zt: ∀q,frz b (q+1) (.lsl gO 1 0 N)=some (.sl (iv (lz N O))):=fun q=>by have:=Hu hg0 hbO q;rwa [hlz] at this
 obtain⟨tj,htj⟩: ∃tj,Lp.orb nxf t j=tj:=⟨_,rfl⟩
 have hIj:=hI j hj
 rw[htj] at hTb hIj
 have bT:b g.T=_:=hTb.hd
 have bF:b g.F=_:=hTb.fre
 have z4T:frz b 4 (.loc g.T 6 0 0)=some (.ptr (aY n m E rows tj fr).c):=aJK b tj fr hTb 0
 have z4O:frz b 4 (.lsl gO 1 0 N)=some (.sl (iv (lz N O))):=Zt 3
 have z1B:frz b 1 (.lsl g.B 1 0 rows.length)=some (.sl (iv (lb rows.length fun p=>tj.bs (atR rows p)))):=hTb.aBR 0
 simp only[aY,hN] at bT bF
 cases a with
 | true =>
   refine aE ?_
   simp
   refine cC ?_
   refine aC ?_
   simp[bT]
   refine aP (fun k:Nat=> [(0,.loc g.T 6 0 0),(1,.lsl gO 1 0 N),(4,.bool false),(5,.bool false),(13,.int .i64 N),(14,.int .i64 k)]) (fun _=>b) (fun k=>k≤N∧ ∀c,c<k→ ¬ Lp.okW m (wO O) (fO N fr) tj c) (fun k=>N - k) _ 0 ⟨Nat.zero_le _,fun c hc=>absurd hc (Nat.not_lt_zero _)⟩ ⟨rfl,by simp,Sub.refl _⟩ ?_
   rintro k ⟨hk,zI⟩
   have wk:IntKind.i64.wrap ((k:Int)+1)=(k:Int)+1:=i64_in (by omega) (by omega)
   refine aE ?_
   simp
   refine aE ?_
   simp
   refine⟨fun hkN=> ?_,fun hkN=> ?_⟩
   ·refine cE (cC ?_)
    refine aE ?_
    simp
    refine aE ?_
    simp
    have hs:=hsg tj k hIj hkN
    have hG:=Ou tj fr k hIj hkN
    have hC:=aCW tj k
    have hcb:=aA9 tj k hIj
    generalize gTo (fun p c=>Lp.zt m E tj (atR rows p) c) (Lp.dz m E tj) (fun p=>tj.bs (atR rows p)) O k rows.length=G at hs hG
    refine aV [(0,.loc g.T 6 0 0),(1,.lsl gO 1 0 N),(4,.bool false),(5,.bool false),(6,.int .i64 k),(13,.int .i64 N),(14,.int .i64 k)] _ b 39 (.bool (open Classical in decide (¬ Lp.okW m (wO O) (fO N fr) tj k))) ⟨rfl,by simp,Sub.refl _⟩ rfl ?_ ?_
    ·cases hfk:fr k with
     | false =>
       have hno: ¬ Lp.okW m (wO O) (fO N fr) tj k:=fun h=>by have:=h.1.2;rw[hfk] at this;cases this
       simp[bT,bF,hkN,hfk,hno]
     | true =>
       simp[bT,bF,hkN,hfk]
       refine bV 1 (ys:= [.sl (iv (lb rows.length fun p=>tj.bs (atR rows p))),.int .i64 k]) (by simp[z1B];simp[frz]) hC rfl ?_
       simp
       refine⟨fun hin hok=> ?_,fun hnin=> ?_⟩
       ·have:=hok.2
        rw[hcb hin] at this;exact absurd this (by decide)
       ·refine bV 4 (ys:= [.ptr (aY n m E rows tj fr).c,.sl (iv (lz N O)),.int .i64 k]) (by simp[z4T,z4O];simp[frz]) hG rfl ?_
        simp
        have:Lp.okW m (wO O) (fO N fr) tj k ↔ 0<G:=by
         unfold Lp.okW fO
         rw[hs.1]
         exact⟨fun h=>h.2,fun h=>⟨⟨hkN,hfk⟩,h⟩⟩
        rw[this]
        by_cases hg:0<G
        ·simp[hg]
        ·simp[hg];omega
    simp
    refine⟨fun hno=> ?_,fun hok=> ?_⟩
    ·refine aC ?_
     simp[wk,aB]
     refine⟨k+1,⟨by omega,fun c hc=> ?_⟩,by omega,rfl,by simp,Sub.refl _⟩
     by_cases ec:c=k
     ·rw[ec];exact hno
     ·exact zI c (by omega)
    have A6:Lp.fstP (Lp.okW m (wO O) (fO N fr) tj) N=some k:=Lp.dM.2 ⟨hkN,hok,zI⟩
    have hLv:=Zy tj fr k hIj hkN
    have hll:=D4 hIj hr k (by omega) rows.length (Nat.le_refl _)
    rw[List.take_length,hN] at hll
    refine aE ?_
    simp
    refine bV 4 (ys:= [.ptr (aY n m E rows tj fr).c,.int .i64 k]) (by simp[z4T];simp[frz]) hLv rfl ?_
    simp
    cases hlv:lvZ (fun p c=>Lp.zt m E tj (atR rows p) c) N k (fun p=>tj.bs (atR rows p)) rows.length with
    | none =>
      rw[hlv] at hll
      have hnn:nxf tj=none:=by
       rw[←hnx]
       cases hs2:Lp.nx (n+m) (n+m) rows (Lp.okW m (wO O) (fO (n+m) fr)) tj with
       | none => rfl
       | some q =>
         obtain⟨q1,q2⟩:=Lp.nO.1 hs2
         rw[hN,A6] at q1
         cases q1
         rw[hN,hll] at q2;cases q2
      have hje:j=e:=by
       by_cases hlt:j<e
       ·have:=h2 j hlt
        rw[htj,hnn] at this;cases this
       ·omega
      subst hje
      rw[htj] at hF
      rw[hN] at hF
      refine aC ?_
      simp[oI]
      rw[aW]
      exact⟨[.bool false],by simp,hF b k A6 hll hTb hfb⟩
    | some p =>
      rw[hlv] at hll
      have hp:=uW hlv
      have cM: ¬ (p:Int)<0:=by omega
      have hnn:nxf tj=some (atR rows p,k):=by
       rw[←hnx]
       exact Lp.nO.2 ⟨by rw[hN];exact A6,by rw[hN];exact hll⟩
      have hje:j<e:=by
       by_cases hlt:j<e
       ·exact hlt
       ·have:j=e:=by omega
        rw[this] at htj
        rw[htj,hnn] at h1;cases h1
      have aJ3:Lp.orb nxf t (j+1)=Lp.piv tj (atR rows p) k:=by
       rw[Lp.orb,htj,hnn]
      have hx:tj.X (atR rows p) k≠0:=by
       have:=((Lp.jH tj N k rows).2 _ hll).2.1
       grind
      obtain⟨Y,hY,hYT⟩:=Gg hIj hr hp (show k<n+m by omega) hx fr
      refine aE ?_
      simp[oI,cM]
      refine aE ?_
      simp
      refine G4 g (aY n m E rows tj fr) p k Y hTb (U8 hIj hm hn hr) hp (show k<n+m by omega) hY fun b' hT' hf'=> ?_
      simp
      refine aC ?_
      simp[aB]
      refine⟨⟨j+1,true,b'⟩,⟨by simp only;omega,?_,fun x y hx hn=>hf' x y (hfb x y hx hn) hn,fun h=>by cases h⟩,by simp only[if_true];omega,rfl,by simp,Sub.refl _⟩
      simp only
      rw[aJ3]
      exact hYT b' g hT'
   ·have Tr:k=N:=by omega
    subst Tr
    have A6:Lp.fstP (Lp.okW m (wO O) (fO k fr) tj) k=none:=Lp.dW.2 zI
    have hnn:nxf tj=none:=by
     rw[←hnx,hN]
     unfold Lp.nx
     rw[A6]
    have hje:j=e:=by
     by_cases hlt:j<e
     ·have:=h2 j hlt
      rw[htj,hnn] at this;cases this
     ·omega
    subst hje
    simp[aB]
    exact⟨⟨j,false,b⟩,⟨Nat.le_refl _,by simp only;rw[htj];exact hTb,hfb,fun _=>⟨rfl,by rw[htj];exact A6⟩⟩,by simp,rfl,by simp,Sub.refl _⟩
 | false =>
   obtain⟨hje,A6⟩:=hab rfl
   subst hje
   rw[htj] at hT A6
   rw[hN] at hT
   clear hF h1 h2
   have aIP:=hgO
   refine aE ?_
   simp
   refine aE ?_
   simp[bT]
   refine aP (fun q:J0=> [(0,.loc g.T 6 0 0),(1,.lsl gO 1 0 N),(53,.int .i64 N),(54,.int .i64 q.j)]) (fun q=>q.b) (fun q=>q.j≤N∧TT q.b g (aY n m E rows tj (frK m O tj fr q.j))∧(∀x y,bl x=some y→x∉g.all→q.b x=some y)) (fun q=>N - q.j) _ ⟨0,b⟩ ⟨Nat.zero_le _,by simp only;rw[En];exact hTb,hfb⟩ ⟨rfl,by simp,Sub.refl _⟩ ?_
   clear hbO Zt bT bF z4T z4O z1B hTb hfb hgO
   rintro⟨k,b⟩ ⟨hk,hTb,hfb⟩
   simp only at hk hTb hfb
   have wk:IntKind.i64.wrap ((k:Int)+1)=(k:Int)+1:=i64_in (by omega) (by omega)
   have hbO:=hfb _ _ aIP hgn
   have z4O:frz b 4 (.lsl gO 1 0 N)=some (.sl (iv (lz N O))):=by have:=Hu hg0 hbO 3;rwa [hlz] at this
   have z4T:frz b 4 (.loc g.T 6 0 0)=some (.ptr (aY n m E rows tj (frK m O tj fr k)).c):=hTb.frz 0
   have z1B:frz b 1 (.lsl g.B 1 0 rows.length)=some (.sl (iv (lb rows.length fun p=>tj.bs (atR rows p)))):=hTb.aBR 0
   have bT:b g.T=_:=hTb.hd
   have bF:b g.F=_:=hTb.fre
   simp only[aY,hN] at bT bF
   refine aE ?_
   simp
   refine aE ?_
   simp
   refine⟨fun hkN=> ?_,fun hkN=> ?_⟩
   ·refine cE (cC ?_)
    refine aE ?_
    simp
    refine aE ?_
    simp
    have hs:=hsg tj k hIj hkN
    have hG:=Ou tj (frK m O tj fr k) k hIj hkN
    have hC:=aCW tj k
    have hcb:=aA9 tj k hIj
    have hfk:frK m O tj fr k k=fr k:=by unfold frK;rw[if_neg (by omega)]
    generalize gTo (fun p c=>Lp.zt m E tj (atR rows p) c) (Lp.dz m E tj) (fun p=>tj.bs (atR rows p)) O k rows.length=G at hs hG
    refine aV [(0,.loc g.T 6 0 0),(1,.lsl gO 1 0 N),(8,.int .i64 k),(53,.int .i64 N),(54,.int .i64 k)] _ b 79 (.bool (open Classical in fr k && decide (Lp.rc m (wO O) tj k<0))) ⟨rfl,by simp,Sub.refl _⟩ rfl ?_ ?_
    ·cases hfk2:fr k with
     | false =>
       rw[hfk2] at hfk
       simp[bT,bF,hkN,hfk]
     | true =>
       rw[hfk2] at hfk
       simp[bT,bF,hkN,hfk]
       refine bV 1 (ys:= [.sl (iv (lb rows.length fun p=>tj.bs (atR rows p))),.int .i64 k]) (by simp[z1B];simp[frz]) hC rfl ?_
       simp
       have e2:Lp.rc m (wO O) tj k<0 ↔ G<0:=hs.2.symm
       by_cases hin:(k:Int)∈lb rows.length fun p=>tj.bs (atR rows p)
       ·have: ¬ Lp.rc m (wO O) tj k<0:=by rw[hcb hin];decide
        simp[hin,this]
       ·simp[hin]
        refine bV 4 (ys:= [.ptr (aY n m E rows tj (frK m O tj fr k)).c,.sl (iv (lz N O)),.int .i64 k]) (by simp[z4T,z4O];simp[frz]) hG rfl ?_
        simp
        rw[e2]
    have Om: ∀c,frK m O tj fr (k+1) c=if c=k then(open Classical in fr k && !decide (Lp.rc m (wO O) tj k<0)) else frK m O tj fr k c:=fun c=>by
     unfold frK
     by_cases e1:c=k
     ·subst e1;rw[if_pos (by omega),if_pos rfl]
     ·rw[if_neg e1]
      by_cases e2:c<k
      ·rw[if_pos (by omega),if_pos e2]
      ·rw[if_neg (by omega),if_neg e2]
    have nds:=hTb.nd
    simp
    refine aC ?_
    simp
    refine⟨fun h1 h2=> ?_,fun hno=> ?_⟩
    ·simp[bT,bF,hkN]
     refine aC ?_
     simp[wk,aB]
     have e1:(lv N (frK m O tj fr k)).set k [.bool false]=lv N (frK m O tj fr (k+1)):=by
      rw[M5 _ _ hkN]
      unfold lv
      refine List.map_congr_left fun c _=> ?_
      rw[Om c]
      show [V.bool (if c=k then false else frK m O tj fr k c)]=_
      by_cases e:c=k
      ·rw[if_pos e,if_pos e];simp[h1,h2]
      ·rw[if_neg e,if_neg e]
     rw[e1]
     refine⟨⟨k+1,upd b g.F (some ⟨1,lv N (frK m O tj fr (k+1))⟩)⟩,⟨by simp only;omega,?_,fun x y hx hn=> ?_⟩,by simp only;omega,rfl,by simp,Sub.refl _⟩
     ·simp only[List.nodup_cons,List.mem_cons,not_or] at nds
      obtain⟨⟨nTR,nTB,nTF,nTi⟩,⟨nRB,nRF,nRi⟩,⟨nBF,nBi⟩,nFi,_⟩:=nds
      show TT (upd b g.F (some ⟨1,lv N (frK m O tj fr (k+1))⟩)) g (aY n m E rows tj (frK m O tj fr (k+1)))
      refine⟨hTb.dH.fU fun x y hx hy=> ?_,?_,?_,?_,hTb.pT,hTb.pR,hTb.pB,hTb.pF,hTb.nd⟩
      ·rw[aL _ _ _ _ (by rintro rfl;rcases hx with hx | hx;exact nRF hx.symm;exact nFi hx)];exact hy
      ·rw[aL _ _ _ _ nTF];exact hTb.hd
      ·rw[aL _ _ _ _ nBF];exact hTb.ba
      ·simp[aY,hN]
     ·simp only
      rw[aL _ _ _ _ (by rintro rfl;exact hn (by simp[TG.all]))];exact hfb x y hx hn
    ·refine aC ?_
     simp[wk,aB]
     refine⟨⟨k+1,b⟩,⟨by simp only;omega,?_,hfb⟩,by simp only;omega,rfl,by simp,Sub.refl _⟩
     have e1:frK m O tj fr (k+1)=frK m O tj fr k:=by
      funext c
      rw[Om c]
      by_cases e:c=k
      ·subst e
       rw[if_pos rfl,hfk]
       cases hfc:fr c with
       | false => rfl
       | true => have := hno hfc; simp; grind
      ·rw[if_neg e]
     simp only
     rw[e1];exact hTb
   ·have Tr:k=N:=by omega
    subst Tr
    refine aC ?_
    simp
    rw[aW]
    exact⟨[.bool true],by simp,hT b A6 hTb hfb⟩

def dQ (n m:Nat) (t:Lp.Tab) (j:Nat):List Nat:=Lp.bE n t j++(List.range (m - j)).map (j+ ·)
theorem pZ {n m j:Nat} (t:Lp.Tab) (hj:j≤m):dQ n m t j=(List.range m).filter fun x=>decide (j≤x)|| decide (t.bs x<n):=by
 obtain⟨d,rfl⟩: ∃d,m=j+d:=⟨m - j,by omega⟩
 rw[List.range_add,List.filter_append]
 unfold dQ Lp.bE
 rw[show j+d - j=d by omega]
 congr 1
 ·refine List.filter_congr fun x hx=> ?_
  have:x<j:=by simpa using hx
  rw[decide_eq_false (show ¬ j≤x by omega),Bool.false_or]
 ·symm
  rw[List.filter_eq_self]
  intro x hx
  obtain⟨y,_,rfl⟩:=List.mem_map.1 hx
  simp
theorem P4 {n m j:Nat} (t:Lp.Tab) (hj:j≤m):Rows m (dQ n m t j):=⟨_,pZ t hj⟩
theorem yT {n m j x:Nat} {t:Lp.Tab} (hj:j≤m):x∈dQ n m t j ↔ x<m∧(j≤x∨t.bs x<n):=by
 rw[pZ t hj,List.mem_filter]
 simp
theorem Bw (n m j:Nat) (t:Lp.Tab):(dQ n m t j).length=(Lp.bE n t j).length+(m - j):=by simp[dQ]
theorem Eo {n m j:Nat} {t:Lp.Tab} (hj:j<m):atR (dQ n m t j) (Lp.bE n t j).length=j:=by
 unfold atR dQ
 rw[List.getD_eq_getElem?_getD,List.getElem?_append_right (Nat.le_refl _),Nat.sub_self,List.getElem?_eq_getElem (by simp;omega)]
 simp
theorem P6 (n m:Nat) (t:Lp.Tab):dQ n m t 0=List.range m:=by
 have e:(fun x=>0+x)=(id:Nat→Nat):=by funext x;simp
 unfold dQ Lp.bE
 simp only[Nat.sub_zero,List.range_zero,List.filter_nil,List.nil_append]
 rw[show(List.range m).map (0+ ·)=(List.range m).map id from congrArg (fun f=>(List.range m).map f) e,List.map_id]
theorem Am (n m:Nat) (t:Lp.Tab):dQ n m t m=Lp.bE n t m:=by simp[dQ]
theorem yG (n j:Nat) (t:Lp.Tab):Lp.bE n t (j+1)=if t.bs j<n then Lp.bE n t j++ [j] else Lp.bE n t j:=by
 unfold Lp.bE
 rw[List.range_succ,List.filter_append]
 by_cases h:t.bs j<n<;>simp[h]
theorem R3 {n j:Nat} {t t':Lp.Tab} (h: ∀x,x<j→t.bs x=t'.bs x):Lp.bE n t j=Lp.bE n t' j:=by
 unfold Lp.bE
 exact List.filter_congr fun x hx=>by rw[h x (by simpa using hx)]
theorem uY {n m j:Nat} {t t':Lp.Tab} (hj:j<m) (h: ∀x,x<j→t.bs x=t'.bs x) (hb:t'.bs j<n):dQ n m t' (j+1)=dQ n m t j∧(Lp.bE n t' (j+1)).length=(Lp.bE n t j).length+1:=by
 have e:(List.range (m - j)).map (j+ ·)=j::(List.range (m - (j+1))).map (j+1+ ·):=by
  rw[show m - j=(m - (j+1))+1 by omega,List.range_succ_eq_map,List.map_cons,List.map_map]
  congr 1
  exact List.map_congr_left fun x _=>by simp;omega
 have e2:Lp.bE n t' (j+1)=Lp.bE n t j++ [j]:=by rw[yG,if_pos hb,R3 h]
 unfold dQ
 rw[e2,e]
 simp
theorem N3 {n m j:Nat} {t:Lp.Tab} (hj:j<m) (hb: ¬ t.bs j<n):dQ n m t (j+1)=(dQ n m t j).take (Lp.bE n t j).length++(dQ n m t j).drop ((Lp.bE n t j).length+1)∧Lp.bE n t (j+1)=Lp.bE n t j:=by
 have e:(List.range (m - j)).map (j+ ·)=j::(List.range (m - (j+1))).map (j+1+ ·):=by
  rw[show m - j=(m - (j+1))+1 by omega,List.range_succ_eq_map,List.map_cons,List.map_map]
  congr 1
  exact List.map_congr_left fun x _=>by simp;omega
 have e2:Lp.bE n t (j+1)=Lp.bE n t j:=by rw[yG,if_neg hb]
 refine⟨?_,e2⟩
 unfold dQ
 rw[e2,e,List.take_append_of_le_length (Nat.le_refl _),List.take_length,List.drop_append,List.drop_eq_nil_of_le (by omega),Nat.add_sub_cancel_left]
 rfl
theorem Bc {n m j:Nat} {E:Nat→Nat→Rat} {t:Lp.Tab} (h:Lp.xW n m (n+m+1) 1000 E j t) (hj:j≤m):pV n m E (dQ n m t j) t:=
 ⟨h.z,h.nn,fun i hi=>((yT hj).1 hi).1,fun i hi hn=>by
   have: ¬ (j≤i∨t.bs i<n):=fun h=>hn ((yT hj).2 ⟨hi,h⟩)
   have hb: ¬ t.bs i<n:=fun h=>this (.inr h)
   exact⟨by omega,h.zero i hi hb,h.done i (by omega) hb⟩,h.lt⟩
theorem Y2 (rows:List Nat) (i p:Nat) (hi:i<rows.length) (hp:p<rows.length - 1):atR (rows.take i++rows.drop (i+1)) p=atR rows (if p<i then p else p+1):=by
 unfold atR
 rw[List.getD_eq_getElem?_getD,List.getD_eq_getElem?_getD]
 congr 1
 by_cases h:p<i
 ·rw[if_pos h,List.getElem?_append_left (by simp;omega),List.getElem?_take,if_pos h]
 ·rw[if_neg h,List.getElem?_append_right (by simp;omega),List.length_take,Nat.min_eq_left (by omega),List.getElem?_drop,show i+1+(p - i)=p+1 by omega]
theorem C9 {α:Type} (l:List α) (i p:Nat) (hi:i<l.length):(l.take i++l.drop (i+1))[p]? =if p<i then l[p]? else l[p+1]? :=by
 by_cases h:p<i
 ·rw[if_pos h,List.getElem?_append_left (by simp;omega),List.getElem?_take,if_pos h]
 ·rw[if_neg h,List.getElem?_append_right (by simp;omega),List.length_take,Nat.min_eq_left (by omega),List.getElem?_drop,show i+1+(p - i)=p+1 by omega]
theorem TT.cut {b b':Int→Option Blk} {g:TG} {n m:Nat} {E:Nat→Nat→Rat} {rows:List Nat} {t:Lp.Tab} {fr:Nat→Bool} (h:TT b g (aY n m E rows t fr)) {i:Nat} (hi:i<rows.length) (gR gB:Int)
  (hR:b' gR=some ⟨1,(g.ids.take i++g.ids.drop (i+1)).map fun g=> [.lsl g 2 0 (n+m+1)]⟩) (hB:b' gB=some ⟨1,(iv (lb rows.length fun p=>t.bs (atR rows p))).take i++(iv (lb rows.length fun p=>t.bs (atR rows p))).drop (i+1)⟩)
  (hT:b' g.T=some ⟨6,[[.lsl gR 1 0 (rows.length - 1),.bool (decide (Lp.dz m E t<0)),.sl (iv (lim (Lp.dz m E t).natAbs)),.lsl gB 1 0 (rows.length - 1),.int .i64 (n+m:Nat),.lsl g.F 1 0 (n+m)]]⟩)
  (hF:b' g.F=b g.F) (hid: ∀x,x∈g.ids→b' x=b x) (nR:gR<0→rows.length - 1=0) (nB:gB<0→rows.length - 1=0) (hd:(g.T::gR::gB::g.F::g.ids).Nodup):
  TT b' ⟨g.T,gR,gB,g.F,g.ids.take i++g.ids.drop (i+1)⟩ (aY n m E (rows.take i++rows.drop (i+1)) t fr):=by
 have hl:=h.dH.len
 simp only[aY] at hl
 have kZ: ∀x,x∈g.ids.take i++g.ids.drop (i+1)→x∈g.ids:=fun x hx=>by
  rcases List.mem_append.1 hx with hx | hx
  ·exact List.mem_of_mem_take hx
  ·exact List.mem_of_mem_drop hx
 have hrl:(rows.take i++rows.drop (i+1)).length=rows.length - 1:=by simp;omega
 have hil:(g.ids.take i++g.ids.drop (i+1)).length=rows.length - 1:=by simp;omega
 have hsl:(g.ids.take i++g.ids.drop (i+1)).Sublist g.ids:=by
  conv=>rhs;rw[←List.take_append_drop i g.ids]
  refine List.Sublist.append (List.Sublist.refl _) ?_
  rw[←List.drop_drop]
  exact List.drop_sublist _ _
 refine⟨⟨by simp only[aY];rw[hil,hrl],hR,fun p x hp=> ?_,fun x hx=>h.dH.pos x (kZ x hx),fun p q x hp hq=> ?_,fun hm=> ?_⟩,?_,?_,?_,h.pT,?_,?_,h.pF,?_⟩
 ·have hlt:p<rows.length - 1:=by rw[←hil];exact(List.getElem?_eq_some_iff.1 hp).1
  rw[hid x (kZ x (List.mem_of_getElem? hp))]
  rw[C9 _ _ _ (by omega)] at hp
  simp only[aY]
  rw[Y2 _ _ _ hi hlt]
  split at hp
  ·rename_i h1;rw[if_pos h1];exact h.dH.row p x hp
  ·rename_i h1;rw[if_neg h1];exact h.dH.row (p+1) x hp
 ·rw[C9 _ _ _ (by omega)] at hp hq
  split at hp<;>split at hq
  ·exact h.dH.inj p q x hp hq
  ·have:=h.dH.inj p (q+1) x hp hq;omega
  ·have:=h.dH.inj (p+1) q x hp hq;omega
  ·have:=h.dH.inj (p+1) (q+1) x hp hq;omega
 ·simp only[List.nodup_cons,List.mem_cons,not_or] at hd
  exact hd.2.1.2.2 (kZ _ hm)
 ·simp only[aY];rw[hrl];exact hT
 ·simp only[aY];rw[hB]
  congr 2
  apply List.ext_getElem?
  intro p
  rw[C9 _ _ _ (by simpa using hi),hrl]
  by_cases hp:p<rows.length - 1
  ·have e1:=Y2 rows i p hi hp
   rw[List.getElem?_eq_getElem (show p<(iv (lb (rows.length - 1) fun p=>t.bs (atR (rows.take i++rows.drop (i+1)) p))).length by simpa using hp),kW,tZ,e1]
   split
   ·rename_i h1
    rw[List.getElem?_eq_getElem (by simp;omega),kW,tZ]
   ·rename_i h1
    rw[List.getElem?_eq_getElem (by simp;omega),kW,tZ]
  ·rw[if_neg (by omega),List.getElem?_eq_none (by simp;omega),List.getElem?_eq_none (by simp;omega)]
 ·simp only[aY];rw[hF];exact h.fre
 ·simp only[aY];rw[hrl];exact nR
 ·simp only[aY];rw[hrl];exact nB
 ·simp only[List.nodup_cons,List.mem_cons,not_or] at hd ⊢
  obtain⟨⟨a1,a2,a3,a4⟩,⟨b1,b2,b3⟩,⟨c1,c2⟩,d1,d2⟩:=hd
  exact⟨⟨a1,a2,a3,fun h=>a4 (kZ _ h)⟩,⟨b1,b2,fun h=>b3 (kZ _ h)⟩,⟨c1,fun h=>c2 (kZ _ h)⟩,fun h=>d1 (kZ _ h),List.Pairwise.sublist hsl d2⟩

theorem X3 {b:Int→Option Blk} {g:Int} {els:List (List V)} {L i:Nat} (h0:0≤g) (hb:b g=some ⟨1,els⟩) (hl:els.length=L) (hi:i+1≤L):
  ∃x,(if(i:Int)+1=0 then some (V.lsl g 1 0 L) else if(i:Int)+1=(L:Int) then some (V.sl []) else some (V.lsl g 1 (i+1) (L - (i+1))))=some x∧elsV b 1 x=some (els.drop (i+1)):=by
 rw[if_neg (by omega)]
 by_cases h:i+1=L
 ·rw[if_pos (by omega)]
  refine⟨_,rfl,?_⟩
  rw[List.drop_eq_nil_of_le (by omega)]
  simp[elsV]
 ·rw[if_neg (by omega)]
  refine⟨_,rfl,?_⟩
  simp only[elsV]
  rw[if_neg (by omega),hb]
  simp only
  rw[if_pos (by simp;omega),List.take_of_length_le (by simp;omega)]
structure aCG where
 j:Nat
 g:TG
 b:Int→Option Blk
set_option maxHeartbeats 1000000 in
theorem Cq {bl:Int→Option Blk} {K:V→(Int→Option Blk)→Prop} (n m:Nat) (E:Nat→Nat→Rat) (g:TG) (t:Lp.Tab) (fr:Nat→Bool) (hm:m≤17) (hn:n+m≤100) (hk0:Lp.xW n m (n+m+1) 1000 E 0 t) (hTT:TT bl g (aY n m E (List.range m) t fr))
  (hK: ∀b' g',g'.T=g.T→g'.F=g.F→TT b' g' (aY n m E (Lp.bE n (Lp.kicks n t m) m) (Lp.kicks n t m) fr)→(∀x,x∈g'.all→x∈g.all∨bl x=none)→(∀x y,bl x=some y→x∉g.all→b' x=some y)→K (.tup []) b'):
  bN Tryz.prog 206 [.loc g.T 6 0 0,.int .i64 n] bl K:=by
 have hkk:=Lp.kS hk0 (show n≤n+m+1 by omega)
 refine bD Tryz.func206 rfl rfl (by rw[Tryz.ntmps206];simp) ?_
 rw[Tryz.ntmps206,Tryz.results206]
 refine aC ?_
 simp
 refine aP (fun q:aCG=> [(0,.loc g.T 6 0 0),(1,.int .i64 n),(4,.int .i64 (Lp.bE n (Lp.kicks n t q.j) q.j).length)]) (fun q=>q.b) (fun q=>q.j≤m∧TT q.b q.g (aY n m E (dQ n m (Lp.kicks n t q.j) q.j) (Lp.kicks n t q.j) fr)∧q.g.T=g.T∧q.g.F=g.F∧(∀x,x∈q.g.all→x∈g.all∨bl x=none)∧(∀x y,bl x=some y→x∉g.all→q.b x=some y)) (fun q=>m - q.j) _ ⟨0,g,bl⟩ ⟨Nat.zero_le _,by simp only[Lp.kicks];rw[P6];exact hTT,rfl,rfl,fun x hx=> .inl hx,fun _ _ h _=>h⟩ ⟨rfl,by simp[Lp.bE],Sub.refl _⟩ ?_
 rintro⟨j,⟨gT,gR,gB,gF,ids⟩,b⟩ ⟨hj,hTb,rfl,rfl,hal,hfb⟩
 simp only at hj hTb hal hfb
 obtain⟨tj,htj⟩: ∃tj,Lp.kicks n t j=tj:=⟨_,rfl⟩
 have hkj:=hkk j hj
 rw[htj] at hTb hkj
 have hI:=Bc hkj hj
 have hR:=P4 (n:=n) tj hj
 have hlen:=Bw n m j tj
 have hrl:=hR.len
 have bT:b g.T=_:=hTb.hd
 have bB:b gB=_:=hTb.ba
 have bG:b gR=_:=hTb.dH.top
 simp only[aY] at bT bB bG
 have Cm: ∀(q:Nat),Lp.kicks n t (j+1)=Lp.uP n tj j:=fun _=>by rw[Lp.kicks,htj]
 obtain⟨i,hi⟩: ∃i,(Lp.bE n tj j).length=i:=⟨_,rfl⟩
 rw[hi] at hlen
 have wi:IntKind.i64.wrap ((i:Int)+1)=(i:Int)+1:=i64_in (by omega) (by omega)
 refine aE ?_
 simp[bT,htj,hi]
 refine⟨fun hlt=> ?_,fun hlt=> ?_⟩
 ·have hjm:j<m:=by omega
  have hat:=Eo (n:=n) (t:=tj) hjm
  rw[hi] at hat
  have hiR:i<(dQ n m tj j).length:=by omega
  obtain⟨gi,hgi,Bs,Tc,tO⟩:=hTb.dH.at i (by simp only[aY];exact hiR)
  simp only[aY] at tO
  refine cC ?_
  refine aE ?_
  simp[bT,bB,hiR,hat]
  refine⟨fun hbj=> ?_,fun hbj=> ?_⟩
  ·have ek:Lp.kicks n t (j+1)=tj:=by
    rw[Cm 0];unfold Lp.uP;rw[if_pos hbj]
   obtain⟨e1,e2⟩:=uY (n:=n) (t:=tj) (t':=tj) hjm (fun _ _=>rfl) hbj
   simp[wi,aB]
   refine⟨⟨j+1,⟨g.T,gR,gB,g.F,ids⟩,b⟩,⟨by simp only;omega,by simp only;rw[ek,e1];exact hTb,rfl,rfl,hal,hfb⟩,by simp only;omega,rfl,?_,Sub.refl _⟩
   simp[ek,e2,hi]
  have hnb: ¬ tj.bs j<n:=by omega
  have hzs: ∀c,c<n+m+1→_:=fun c hc=>Lp.nU hkj.z hjm hc
  refine aE ?_
  simp
  refine aC ?_
  simp
  refine aP (fun k:Nat=> [(0,.loc g.T 6 0 0),(1,.int .i64 n),(4,.int .i64 i),(5,.int .i64 k)]) (fun _=>b) (fun k=>k≤n∧ ∀c,c<k→ ¬ tj.X j c≠0) (fun k=>n - k) _ 0 ⟨Nat.zero_le _,fun c hc=>absurd hc (Nat.not_lt_zero _)⟩ ⟨rfl,by simp,Sub.refl _⟩ ?_
  rintro k ⟨hk,dI⟩
  have wk:IntKind.i64.wrap ((k:Int)+1)=(k:Int)+1:=i64_in (by omega) (by omega)
  refine aC ?_
  simp
  refine aV [(0,.loc g.T 6 0 0),(1,.int .i64 n),(4,.int .i64 i),(5,.int .i64 k)] _ b 40 (.bool (decide (k<n∧Lp.zt m E tj j k=0))) ⟨rfl,by simp,Sub.refl _⟩ rfl ?_ ?_
  ·by_cases hkn:k<n
   ·have e3:(k:Int)<(n:Int)+m+1:=by omega
    simp[hkn,bT,bG,hiR,hgi,tO,hat,show k<n+m+1 by omega,e3]
    refine aD (iS _) ?_
    simp[Int.sign_eq_zero_iff_zero]
    by_cases h0:Lp.zt m E tj j k=0<;>simp[h0]
   ·simp[hkn]
  simp
  refine⟨fun hkn h0=> ?_,fun hno=> ?_⟩
  ·simp[wk,aB]
   refine⟨k+1,⟨by omega,fun c hc=> ?_⟩,by omega,rfl,by simp,Sub.refl _⟩
   by_cases ec:c=k
   ·rw[ec];exact(hzs k (by omega)).2.1 h0
   ·have:=dI c (by omega);grind
  ·refine⟨fun hkn=> ?_,fun hkn=> ?_⟩
   ·have hx:tj.X j k≠0:=fun h0=>hno hkn ((hzs k (by omega)).2.2 h0)
    have ek:Lp.kicks n t (j+1)=Lp.piv tj j k:=by
     rw[Cm 0];unfold Lp.uP;rw[if_neg hnb,Lp.dM.2 ⟨hkn,hx,dI⟩]
    obtain⟨Y,hY,hYT⟩:=Gg hI hR hiR (show k<n+m by omega) (by rw[hat];exact hx) fr
    rw[hat] at hYT
    obtain⟨e1,e2⟩:=uY (n:=n) (t:=tj) (t':=Lp.piv tj j k) hjm (fun x hx=>(Lp.cA tj k (show x≠j by omega)).symm) (by rw[Lp.cX];exact hkn)
    refine G4 ⟨g.T,gR,gB,g.F,ids⟩ (aY n m E (dQ n m tj j) tj fr) i k Y hTb (U8 hI hm hn hR) hiR (show k<n+m by omega) hY fun b' hT' hf'=> ?_
    simp[wi,aB]
    refine⟨⟨j+1,⟨g.T,gR,gB,g.F,ids⟩,b'⟩,⟨by simp only;omega,by simp only;rw[ek,e1];exact hYT b' _ hT',rfl,rfl,hal,fun x y hx hn=> ?_⟩,by simp only;omega,rfl,?_,Sub.refl _⟩
    ·have h1:=hfb x y hx hn
     refine hf' x y h1 fun hm2=> ?_
     rcases hal x hm2 with h2 | h2
     ·exact hn h2
     ·rw[h2] at hx;cases hx
    ·simp[ek,e2,hi]
   ·have ek:Lp.kicks n t (j+1)=tj:=by
     rw[Cm 0];unfold Lp.uP;rw[if_neg hnb,Lp.dW.2 fun c hc=>dI c (by omega)]
    obtain⟨e1,e2⟩:=N3 (n:=n) (t:=tj) hjm hnb
    rw[hi] at e1
    have nds:=hTb.nd
    simp only[List.nodup_cons,List.mem_cons,not_or] at nds
    obtain⟨⟨nTR,nTB,nTF,nTi⟩,⟨nRB,nRF,nRi⟩,⟨nBF,nBi⟩,nFi,Md⟩:=nds
    have hil:=hTb.dH.len
    simp only[aY] at hil
    generalize hL:(dQ n m tj j).length=L at *
    refine rV aN (rem b gR) (wP b gR) [0,1,2,3,4,5,6,7,8,9,10,11,12,13] 4 17 (by kernel_rfl) ?_
    have q1:i≤L:=by omega
    have q2:i+1≤L:=by omega
    have q3:(i:Int)≤L:=by omega
    have q4:(i:Int)+1≤L:=by omega
    have q5:0≤(i:Int)+1:=by omega
    have q6:((i:Int)+1).toNat=i+1:=by omega
    have aBV:0≤gR:=by
     rcases Int.lt_or_le gR 0 with h9 | h9
     ·have:=hTb.pR h9;simp only[aY] at this;omega
     ·exact h9
    obtain⟨x1,hx1,hx2⟩:=X3 (b:=b) (g:=gR) (els:=ids.map fun g=> [V.lsl g 2 0 (n+m+1)]) (L:=L) (i:=i) aBV bG (by simp[hil]) q2
    simp[nTR,bT,wi,sliV,q1,q2,q3,q4,q5,q6,aBV,hx1]
    refine Dq 14 false ?_
    simp[appV,hx2,bG,hil]
    rw[if_pos q1,←List.map_take,←List.map_drop,←List.map_append]
    have hcl:(ids.take i++ids.drop (i+1)).length=L - 1:=by simp;omega
    generalize H4:ids.take i++ids.drop (i+1)=nids at hcl
    simp[hcl]
    refine⟨by omega,fun gN hgN hbN=> ?_⟩
    have Hi: ∀X,Sub (rem b gR) (upd (rem b gR) gN X):=fun X z y hz=>by
     rw[aJ] at hz
     rw[aA,aJ]
     grind
    have nNT: ¬ gN=g.T:=fun e=>by have:=hbN (by rw[e];exact nTR);rw[e,bT] at this;cases this
    have nNB: ¬ gN=gB:=fun e=>by have:=hbN (by rw[e];exact Ne.symm nRB);rw[e,bB] at this;cases this
    have bF:b g.F=_:=hTb.fre
    have nNF: ¬ gN=g.F:=fun e=>by have:=hbN (by rw[e];exact Ne.symm nRF);rw[e,bF] at this;cases this
    have nNi:gN∉ids:=fun hm2=>by
     obtain⟨q,hq⟩:=List.mem_iff_getElem?.1 hm2
     have:=hbN fun e=>nRi (e▸hm2)
     rw[hTb.dH.row q gN hq] at this;cases this
    refine⟨Hi _,Dq 15 false ?_⟩
    simp
    refine⟨Hi _,Dq 16 false ?_⟩
    simp
    refine⟨Hi _,Dq 17 true ?_⟩
    simp[Ne.symm nNT,nTR,bT]
    refine Dd ?_
    obtain⟨b1,hb1⟩: ∃b1,b1=upd (upd (rem b gR) gN (some ⟨1,nids.map fun g=> [.lsl g 2 0 (n+m+1)]⟩)) g.T (some ⟨6,[[.lsl gN 1 0 (L - 1),.bool (decide (Lp.dz m E tj<0)),.sl (iv (lim (Lp.dz m E tj).natAbs)),.lsl gB 1 0 L,.int .i64 (n+m:Nat),.lsl g.F 1 0 (n+m)]]⟩):=⟨_,rfl⟩
    have c1T:b1 g.T=some ⟨6,[[.lsl gN 1 0 (L - 1),.bool (decide (Lp.dz m E tj<0)),.sl (iv (lim (Lp.dz m E tj).natAbs)),.lsl gB 1 0 L,.int .i64 (n+m:Nat),.lsl g.F 1 0 (n+m)]]⟩:=by rw[hb1];simp
    have c1N:b1 gN=some ⟨1,nids.map fun g=> [.lsl g 2 0 (n+m+1)]⟩:=by rw[hb1];simp[nNT]
    have c1: ∀x,x≠g.T→x≠gN→x≠gR→b1 x=b x:=fun x x1 x2 x3=>by rw[hb1,aL _ _ _ _ x1,aL _ _ _ _ x2,aJ,if_neg x3]
    have c1B:b1 gB=b gB:=c1 gB (Ne.symm nTB) (Ne.symm nNB) (Ne.symm nRB)
    rw[bB] at c1B
    refine gG [(0,.loc g.T 6 0 0),(1,.int .i64 n),(4,.int .i64 i),(5,.int .i64 k)] 86 b1 ⟨rfl,by simp,by rw[hb1];exact sub_eq rfl⟩ ?_
    clear hb1
    have aCB:0≤gB:=by
     rcases Int.lt_or_le gB 0 with h9 | h9
     ·have:=hTb.pB h9;simp only[aY] at this;omega
     ·exact h9
    obtain⟨bas,Ik⟩: ∃x,iv (lb L fun p=>tj.bs (atR (dQ n m tj j) p))=x:=⟨_,rfl⟩
    have hbl:bas.length=L:=by rw[←Ik];simp
    rw[Ik] at c1B
    refine rV aN (rem b1 gB) (wP b1 gB) [0,1,2,3,4,5,6,7,8,9,10,11,12,13] 4 17 (by kernel_rfl) ?_
    obtain⟨x2,hx3,hx4⟩:=X3 (b:=b1) (g:=gB) (els:=bas) (L:=L) (i:=i) aCB c1B hbl q2
    simp[nTB,c1T,wi,sliV,q1,q2,q3,q4,q5,q6,aCB,hx3]
    refine Dq 14 false ?_
    simp[appV,hx4,c1B,hbl]
    rw[if_pos q1]
    have Hh:(bas.take i++bas.drop (i+1)).length=L - 1:=by simp;omega
    generalize hnb2:bas.take i++bas.drop (i+1)=nbas at Hh
    simp[Hh]
    refine⟨by omega,fun gM hgM hbM=> ?_⟩
    have wW: ∀X,Sub (rem b1 gB) (upd (rem b1 gB) gM X):=fun X z y hz=>by
     rw[aJ] at hz
     rw[aA,aJ]
     grind
    have mMT: ¬ gM=g.T:=fun e=>by have:=hbM (by rw[e];exact nTB);rw[e,c1T] at this;cases this
    have mMN: ¬ gM=gN:=fun e=>by have:=hbM (by rw[e];exact nNB);rw[e,c1N] at this;cases this
    have c1F:b1 g.F=b g.F:=c1 g.F (Ne.symm nTF) (Ne.symm nNF) (Ne.symm nRF)
    have mMF: ¬ gM=g.F:=fun e=>by have:=hbM (by rw[e];exact Ne.symm nBF);rw[e,c1F,bF] at this;cases this
    have c1i: ∀x,x∈ids→b1 x=b x:=fun x hx=>c1 x (fun e=>nTi (e▸hx)) (fun e=>nNi (e▸hx)) (fun e=>nRi (e▸hx))
    have mMi:gM∉ids:=fun hm2=>by
     obtain⟨q,hq⟩:=List.mem_iff_getElem?.1 hm2
     have:=hbM fun e=>nBi (e▸hm2)
     rw[c1i gM hm2,hTb.dH.row q gM hq] at this;cases this
    refine⟨wW _,Dq 15 false ?_⟩
    simp
    refine⟨wW _,Dq 16 false ?_⟩
    simp
    refine⟨wW _,Dq 17 true ?_⟩
    simp[Ne.symm mMT,nTB,c1T]
    refine Dd ?_
    simp[aB]
    obtain⟨b2,hb2⟩: ∃b2,b2=(upd (upd (rem b1 gB) gM (some ⟨1,nbas⟩)) g.T (some ⟨6,[[.lsl gN 1 0 (L - 1),.bool (decide (Lp.dz m E tj<0)),.sl (iv (lim (Lp.dz m E tj).natAbs)),.lsl gM 1 0 (L - 1),.int .i64 (n+m:Nat),.lsl g.F 1 0 (n+m)]]⟩)):=⟨_,rfl⟩
    have hbF:b2 g.F=b g.F:=by rw[hb2];simp[Ne.symm nTF,Ne.symm mMF,Ne.symm nBF,c1F]
    have aK0:b2 gN=some ⟨1,nids.map fun g=> [.lsl g 2 0 (n+m+1)]⟩:=by rw[hb2];simp[nNT,Ne.symm mMN,nNB,c1N]
    have aKI:b2 gM=some ⟨1,nbas⟩:=by rw[hb2];simp[mMT]
    have aJT:b2 g.T=some ⟨6,[[.lsl gN 1 0 (L - 1),.bool (decide (Lp.dz m E tj<0)),.sl (iv (lim (Lp.dz m E tj).natAbs)),.lsl gM 1 0 (L - 1),.int .i64 (n+m:Nat),.lsl g.F 1 0 (n+m)]]⟩:=by rw[hb2];simp
    have aKL: ∀x,x∈ids→b2 x=b x:=fun x hx=>by
     have x1:x≠g.T:=fun e=>nTi (e▸hx)
     have x2:x≠gM:=fun e=>mMi (e▸hx)
     have x3:x≠gB:=fun e=>nBi (e▸hx)
     rw[hb2,aL _ _ _ _ x1,aL _ _ _ _ x2,aJ,if_neg x3];exact c1i x hx
    have aI5: ∀x,x≠g.T→x≠gM→x≠gB→b2 x=b1 x:=fun x x1 x2 x3=>by rw[hb2,aL _ _ _ _ x1,aL _ _ _ _ x2,aJ,if_neg x3]
    have aAY:=hTb.cut (b':=b2) (i:=i) (by rw[hL];exact q2) gN gM (by rw[aK0,H4]) (by rw[aKI];simp only[hL,Ik,hnb2]) (by rw[aJT,hL]) hbF aKL
     (fun h9=>by rcases hgN with h8 | h8;omega;rw[hL,←hcl,h8];rfl) (fun h9=>by rcases hgM with h8 | h8;omega;rw[hL,←Hh,h8];rfl)
     (by simp only[List.nodup_cons,List.mem_cons,not_or];exact⟨⟨Ne.symm nNT,Ne.symm mMT,nTF,nTi⟩,⟨Ne.symm mMN,nNF,nNi⟩,⟨mMF,mMi⟩,nFi,Md⟩)
    rw[←e1] at aAY
    refine⟨⟨j+1,⟨g.T,gN,gM,g.F,ids.take i++ids.drop (i+1)⟩,b2⟩,⟨by simp only;omega,by simp only;rw[ek];exact aAY,rfl,rfl,fun x hx=> ?_,fun x y hx hn=> ?_⟩,by simp only;omega,rfl,by simp[ek,e2,hi],by rw[hb2];exact sub_eq rfl⟩
    ·have hT2:=hal g.T (by simp[TG.all])
     have hF2:=hal g.F (by simp[TG.all])
     have aII:bl gN=none∨gN∈g.all:=by
      by_cases e:gN=gR
      ·rcases hal gR (by simp[TG.all]) with h9 | h9
       ·exact .inr (e▸h9)
       ·exact .inl (e▸h9)
      ·cases hv:bl gN with
       | none => exact .inl rfl
       | some y =>
         by_cases pJ:gN∈g.all
         ·exact .inr pJ
         ·have:=hfb gN y hv pJ
          rw[hbN e] at this;cases this
     have aI1:bl gM=none∨gM∈g.all:=by
      by_cases e:gM=gB
      ·rcases hal gB (by simp[TG.all]) with h9 | h9
       ·exact .inr (e▸h9)
       ·exact .inl (e▸h9)
      ·by_cases e3:gM=gR
       ·rcases hal gR (by simp[TG.all]) with h9 | h9
        ·exact .inr (e3▸h9)
        ·exact .inl (e3▸h9)
       ·cases hv:bl gM with
        | none => exact .inl rfl
        | some y =>
          by_cases pJ:gM∈g.all
          ·exact .inr pJ
          ·have h8:=hfb gM y hv pJ
           have h7:=hbM e
           rw[c1 gM mMT mMN e3,h8] at h7;cases h7
     simp only[TG.all,List.mem_cons] at hx
     rcases hx with rfl | rfl | rfl | rfl | hx
     ·exact hT2
     ·exact aII.symm
     ·exact aI1.symm
     ·exact hF2
     ·exact hal x (by
       simp only[TG.all,List.mem_cons]
       refine .inr (.inr (.inr (.inr ?_)))
       rcases List.mem_append.1 hx with hx | hx
       ·exact List.mem_of_mem_take hx
       ·exact List.mem_of_mem_drop hx)
    ·have h9:=hfb x y hx hn
     have hne: ∀z,z∈TG.all ⟨g.T,gR,gB,g.F,ids⟩→x≠z:=fun z hz e=>by
      rcases hal z hz with h8 | h8
      ·exact hn (e▸h8)
      ·rw[e,h8] at hx;cases hx
     have xT:=hne g.T (by simp[TG.all])
     have xR:=hne gR (by simp[TG.all])
     have xB:=hne gB (by simp[TG.all])
     have xN:x≠gN:=fun e=>by
      have:=hbN fun e2=>xR (e.trans e2)
      rw[←e,h9] at this;cases this
     have xM:x≠gM:=fun e=>by
      have:=hbM fun e2=>xB (e.trans e2)
      rw[←e,c1 x xT xN xR,h9] at this;cases this
     simp only
     rw[aI5 x xT xM xB,c1 x xT xN xR]
     exact h9
 ·have hjm:j=m:=by omega
  subst hjm
  rw[Am] at hTb
  rw[htj] at hK
  rw[lY]
  exact⟨[],by simp,hK b ⟨g.T,gR,gB,g.F,ids⟩ rfl rfl hTb hal hfb⟩

structure PgN (p : Pg) (n m : Nat) : Prop where
 rows:p.rows=m
 aZ:p.aZ=n
 al:p.a.length=m*n
 bl:p.b.length=m
 cl:p.c.length=n
 am: ∀x,x∈p.a→x.natAbs≤1000
 bm: ∀x,x∈p.b→x.natAbs≤1000
 cm: ∀x,x∈p.c→x.natAbs≤1000
 ml:m≤17
 nl:n+m≤100
def pA (p:Pg) (n i j:Nat):Int:=p.a.getD (i*n+j) 0
def pB (p:Pg) (i:Nat):Int:=p.b.getD i 0
def pC (p:Pg) (j:Nat):Int:=p.c.getD j 0
theorem kQ {l:List Int} (h: ∀x,x∈l→x.natAbs≤1000) (i:Nat):(l.getD i 0).natAbs≤1000:=by
 rw[List.getD_eq_getElem?_getD]
 cases hx:l[i]? with
 | none => simp
 | some x => exact h x (List.mem_of_getElem? hx)
theorem uL (l:List Int):l=lz l.length fun i=>l.getD i 0:=by
 apply List.ext_getElem
 ·simp
 ·intro i h1 h2
  simp[lz,List.getD_eq_getElem?_getD,h1]
theorem PgN.b {p:Pg} {n m:Nat} (h:PgN p n m):p.b=lz m (pB p):=by rw[←h.bl];exact uL p.b
theorem PgN.c {p:Pg} {n m:Nat} (h:PgN p n m):p.c=lz n (pC p):=by rw[←h.cl];exact uL p.c
theorem PgN.row {p:Pg} {n m i:Nat} (h:PgN p n m) (hi:i<m):((iv p.a).take (i*n+n)).drop (i*n)=iv (lz n (pA p n i)):=by
 have hl:i*n+n≤p.a.length:=by
  rw[h.al]
  have:=Nat.mul_le_mul_right n (show i+1≤m by omega)
  rwa [Nat.add_mul,Nat.one_mul] at this
 apply List.ext_getElem
 ·simp;omega
 ·intro j h1 h2
  have hj:j<n:=by simpa using h2
  simp only[List.getElem_drop,List.getElem_take,kW,uA,pA]
  rw[List.getD_eq_getElem?_getD,List.getElem?_eq_getElem (by omega)]
  rfl
theorem Su (p:Pg) (n m i:Nat) (h:PgN p n m) (hi:i<m):RO Tryz.prog 204 [.ptr p.v,.int .i64 i] (.sl (iv (lz n (pA p n i)))):=by
 have hr:=h.row hi
 have hml:=h.ml
 have hnl:=h.nl
 have hal:=h.al
 have hin:i*n≤17*100:=Nat.mul_le_mul (by omega) (by omega)
 have hmn:i*n+n≤m*n:=by
  have:=Nat.mul_le_mul_right n (show i+1≤m by omega)
  rwa [Nat.add_mul,Nat.one_mul] at this
 have e1:(i:Int)*(n:Int)=((i*n:Nat):Int):=(Int.natCast_mul i n).symm
 have e2:((i:Int)+1)*(n:Int)=((i*n+n:Nat):Int):=by rw[Int.add_mul,Int.one_mul,e1];omega
 have w0:IntKind.i64.wrap ((i:Int)+1)=(i:Int)+1:=i64_in (by omega) (by omega)
 have w1:IntKind.i64.wrap ((i:Int)*(n:Int))=(i:Int)*n:=by rw[e1];exact i64_in (by omega) (by omega)
 have w2:IntKind.i64.wrap (((i:Int)+1)*(n:Int))=(i:Int)*n+n:=by rw[e2,i64_in (by omega) (by omega)];simp
 have hc:=h.aZ
 have k1:(0:Int)≤(i:Int)*n:=by rw[e1];omega
 have k2:(i:Int)*n≤(i:Int)*n+n:=by omega
 have k3:(i:Int)*n+n≤(p.a.length:Int):=by rw[hal,e1];omega
 have k4:((i:Int)*n).toNat=i*n:=by rw[e1];omega
 have k5:((i:Int)*n+n).toNat=i*n+n:=by rw[e1];omega
 refine aK Tryz.func204 rfl rfl (by rw[Tryz.ntmps204];simp) fun bl=> ?_
 rw[Tryz.ntmps204,Tryz.results204]
 refine aC ?_
 simp
 refine bI aN (by kernel_rfl) ?_
 simp[Pg.v,hc,w0,w1,w2,k1,k2,k3,sliV,k4,k5,hr]
 refine⟨fun x hx=>(Y1 _ x hx).symm,?_⟩
 exact aQ [.sl (iv (lz n (pA p n i)))] 0 (by simp) (by simp[frz,V.cl]) (Sub.refl _)
def sgB (p:Pg) (i:Nat):Int:=if pB p i<0 then -1 else 1
def eZ (p:Pg) (n m i c:Nat):Int:=if c<n then sgB p i*pA p n i c else if c=n+m then sgB p i*pB p i else if c=n+i then 1 else 0
def eQ (p:Pg) (n m:Nat):Nat→Nat→Rat:=fun i c=>(eZ p n m i c:Rat)
theorem aB8 {p:Pg} {n m:Nat} (h:PgN p n m) (i c:Nat):(eZ p n m i c).natAbs≤1000:=by
 have hs:(sgB p i).natAbs=1:=by unfold sgB;split<;>rfl
 unfold eZ
 split
 ·rw[Int.natAbs_mul,hs,Nat.one_mul];exact kQ h.am _
 ·split
  ·rw[Int.natAbs_mul,hs,Nat.one_mul];exact kQ h.bm _
  ·split<;>decide
theorem PgN.init {p:Pg} {n m:Nat} (h:PgN p n m):Lp.Init n m 1000 (eQ p n m):=by
 refine⟨⟨fun i c _ _=>⟨_,rfl⟩,fun i c _ _=> ?_⟩,fun i j hi hj=> ?_,fun i hi=> ?_⟩
 ·have:=aB8 h i c
  constructor
  ·rw[show -((1000:Nat):Rat)=((-1000:Int):Rat) from rfl]
   exact Rat.intCast_le_intCast.2 (by omega)
  ·rw[show((1000:Nat):Rat)=((1000:Int):Rat) from rfl]
   exact Rat.intCast_le_intCast.2 (by omega)
 ·unfold eQ eZ
  rw[if_neg (by omega),if_neg (by omega)]
  by_cases e:i=j
  ·rw[if_pos (by omega),if_pos e];rfl
  ·rw[if_neg (by omega),if_neg e];rfl
 ·have:0≤eZ p n m i (n+m):=by
   unfold eZ sgB
   rw[if_neg (by omega),if_pos rfl]
   split
   ·omega
   ·omega
  exact Rat.intCast_le_intCast.2 this
theorem aCL {p:Pg} {n m:Nat} (h:PgN p n m):Lp.vol m (eQ p n m) (Lp.lP n (eQ p n m))=1:=by
 show Lp.det m (fun j i=>eQ p n m i (n+j))=1
 exact Lp.R9 m _ fun j i hj hi=>by
  rw[h.init.art i j hi hj]
  by_cases e:j=i
  ·rw[if_pos e,if_pos e.symm]
  ·rw[if_neg e,if_neg (Ne.symm e)]
theorem Ni :Lp.iP 1=1:=by unfold Lp.iP;decide
theorem dz0 {p:Pg} {n m:Nat} (h:PgN p n m):Lp.dz m (eQ p n m) (Lp.lP n (eQ p n m))=1:=by
 unfold Lp.dz;rw[aCL h,Ni];rfl
theorem zt0 {p:Pg} {n m:Nat} (h:PgN p n m) (i c:Nat):Lp.zt m (eQ p n m) (Lp.lP n (eQ p n m)) i c=eZ p n m i c:=by
 unfold Lp.zt
 rw[aCL h,Ni,Rat.mul_one]
 show(eQ p n m i c).num=_
 unfold eQ
 simp

def rqs (w:Nat) (f:Nat→Rat):List (List V):=(List.range w).map fun c=>(ro (some (f c))).c
@[simp] theorem Um (w : Nat) (f : Nat → Rat) : (rqs w f).length = w := by simp [rqs]
theorem sE {w:Nat} {f g:Nat→Rat} (h: ∀c,c<w→f c=g c):rqs w f=rqs w g:=List.map_congr_left fun c hc=>by rw[h c (by simpa using hc)]
theorem Dk (w:Nat) (f:Nat→Rat):(rqs w f).all (fun r=>r.all V.cl)=true:=by simp[rqs,RT.c,V.cl]
@[irreducible] def jM : Nat := 10 ^ 72
theorem M0 :jM*jM<LB^24:=by unfold jM;decide+kernel
theorem K3 {m:Nat} (h:m≤17):Lp.lid 1000 m≤jM:=Nat.le_trans (Lp.mW h) (by unfold jM;decide+kernel)
def Tf (q:Rat):Prop:=Lp.sm jM q
theorem Jm {q:Rat} (h:Lp.sm (jM*jM) q):fits q:=by
 obtain⟨h1,h2⟩:=Lp.wS h
 exact⟨aH.2 (Nat.lt_of_le_of_lt h1 M0),aH.2 (Nat.lt_of_le_of_lt h2 M0)⟩
theorem Gm :1≤jM:=by unfold jM;decide+kernel
theorem Bk {q:Rat} (h:Tf q):fits q:=Jm (Lp.nL h (by have:=Nat.mul_le_mul_left jM Gm;omega))
theorem iE {f:Rat→Rat→Rat} {p q:Rat} (h:fits (f p q)):op2 f (some p) (some q)=some (f p q):=by unfold op2;simp[fit,h]
theorem okS {q:Rat} (h:fits q):okQ (some q):=fun p hp=>by cases hp;exact h

structure SG where
 T:Int
 R:Int
 B:Int
 C:Int
 ids:List Int
structure SN where
 r:Nat
 w:Nat
 n:Nat
 Z:Nat→Nat→Rat
 co:Nat→Rat
 bs:Nat→Nat
def rrs (r w:Nat) (Z:Nat→Nat→Rat):List (List V):=(List.range r).map fun i=> [.sl (rqs w (Z i))]
@[simp] theorem Pt (r w : Nat) (Z : Nat → Nat → Rat) : (rrs r w Z).length = r := by simp [rrs]
@[simp] theorem Dg (r w : Nat) (Z : Nat → Nat → Rat) (i : Nat) (h : i < (rrs r w Z).length) : (rrs r w Z)[i] = [.sl (rqs w (Z i))] := by simp [rrs]
def SN.c (t:SN):List V:= [.int .i64 t.n,.sl (rrs t.r t.w t.Z),.sl (iv (lb t.r t.bs)),.sl (rqs t.w t.co)]
def SG.all (g:SG):List Int:=g.T::g.R::g.B::g.C::g.ids
structure SS (b : Int → Option Blk) (g : SG) (t : SN) : Prop where
 len:g.ids.length=t.r
 top:b g.R=some ⟨1,g.ids.map fun x=> [.lsl x 3 0 t.w]⟩
 row: ∀(i:Nat) (x:Int),g.ids[i]? =some x→b x=some ⟨3,rqs t.w (t.Z i)⟩
 pos: ∀x,x∈g.ids→0≤x
 hd:b g.T=some ⟨4,[[.int .i64 t.n,.lsl g.R 1 0 t.r,.lsl g.B 1 0 t.r,.lsl g.C 3 0 t.w]]⟩
 ba:b g.B=some ⟨1,iv (lb t.r t.bs)⟩
 cst:b g.C=some ⟨3,rqs t.w t.co⟩
 pT:0≤g.T
 pR:g.R<0→t.r=0
 pB:g.B<0→t.r=0
 pC:0≤g.C
 nd:g.all.Nodup
theorem SS.fU {b b':Int→Option Blk} {g:SG} {t:SN} (h:SS b g t) (hk: ∀x y,x∈g.all→b x=some y→b' x=some y):SS b' g t:=
 ⟨h.len,hk _ _ (by simp[SG.all]) h.top,fun i x hi=>hk _ _ (by simp[SG.all,List.mem_of_getElem? hi]) (h.row i x hi),h.pos,hk _ _ (by simp[SG.all]) h.hd,hk _ _ (by simp[SG.all]) h.ba,hk _ _ (by simp[SG.all]) h.cst,h.pT,h.pR,h.pB,h.pC,h.nd⟩
theorem SS.at {b:Int→Option Blk} {g:SG} {t:SN} (h:SS b g t) (i:Nat) (hi:i<t.r): ∃x,g.ids[i]? =some x∧x∈g.ids∧0≤x∧b x=some ⟨3,rqs t.w (t.Z i)⟩:=by
 have hl:=h.len
 have e:g.ids[i]? =some (g.ids[i]'(by omega)):=List.getElem?_eq_getElem _
 exact⟨_,e,List.mem_of_getElem? e,h.pos _ (List.mem_of_getElem? e),h.row i _ e⟩
theorem SS.inj {b:Int→Option Blk} {g:SG} {t:SN} (h:SS b g t) {i j:Nat} {x:Int} (hi:g.ids[i]? =some x) (hj:g.ids[j]? =some x):i=j:=by
 have nd:=h.nd
 unfold SG.all at nd
 simp only[List.nodup_cons] at nd
 obtain⟨-, -, -, -,nd⟩:=nd
 obtain⟨i1,e1⟩:=List.getElem?_eq_some_iff.1 hi
 obtain⟨j1,e2⟩:=List.getElem?_eq_some_iff.1 hj
 have hp:=List.pairwise_iff_getElem.1 nd
 rcases Nat.lt_trichotomy i j with q | q | q
 ·exact absurd (e1.trans e2.symm) (hp i j i1 j1 q)
 ·exact q
 ·exact absurd (e2.trans e1.symm) (hp j i j1 i1 q)
theorem SS.frz {b:Int→Option Blk} {g:SG} {t:SN} (h:SS b g t) (m:Nat):frz b (m+4) (.loc g.T 4 0 0)=some (.ptr t.c):=by
 have hi: ∀m (k:Int),Vm.frz b m (.int .i64 k)=some (.int .i64 k):=fun m k=>by cases m<;>simp[Vm.frz]
 have h1:Vm.frz b (m+3) (.lsl g.R 1 0 t.r)=some (.sl (rrs t.r t.w t.Z)):=by
  rcases Int.lt_or_le g.R 0 with cM | hR
  ·have hr:=h.pR cM
   rw[hr]
   have e:rrs 0 t.w t.Z= []:=rfl
   rw[e]
   simp[Vm.frz,cM]
  have h1:=fV (n:=m+2) hR h.top
  rw[List.length_map,h.len] at h1
  rw[h1]
  have h2:(g.ids.map fun x=> [V.lsl x 3 0 t.w]).mapM (fun e:List V=>e.mapM (Vm.frz b (m+2)))=some (rrs t.r t.w t.Z):=by
   refine wA _ _ (by simp[h.len]) fun i x y hx hy=> ?_
   rw[List.getElem?_map] at hx
   cases hi:g.ids[i]? with
   | none => rw [hi] at hx; cases hx
   | some gi =>
     rw[hi] at hx;cases hx
     have hlt:i<t.r:=by rw[←h.len];exact(List.getElem?_eq_some_iff.1 hi).1
     rw[List.getElem?_eq_getElem (by simpa using hlt),Dg] at hy
     cases hy
     have h3:=fV (bl:=b) (n:=m+1) (sz:=3) (els:=rqs t.w (t.Z i)) (h.pos gi (List.mem_of_getElem? hi)) (h.row i gi hi)
     rw[fJ (Dk _ _)] at h3
     simp only[List.mapM_cons,List.mapM_nil]
     rw[show(rqs t.w (t.Z i)).length=t.w by simp] at h3
     rw[h3];rfl
  rw[h2];rfl
 have h2:Vm.frz b (m+3) (.lsl g.B 1 0 t.r)=some (.sl (iv (lb t.r t.bs))):=by
  rcases Int.lt_or_le g.B 0 with cM | hB
  ·have hr:=h.pB cM
   rw[hr]
   have e:lb 0 t.bs= []:=rfl
   rw[e]
   simp[Vm.frz,cM,iv]
  have h1:=fV (n:=m+2) hB h.ba
  rw[fJ (lR _)] at h1
  rw[show(iv (lb t.r t.bs)).length=t.r by simp] at h1
  rw[h1];rfl
 have h3:Vm.frz b (m+3) (.lsl g.C 3 0 t.w)=some (.sl (rqs t.w t.co)):=by
  have h1:=fV (n:=m+2) h.pC h.cst
  rw[fJ (Dk _ _)] at h1
  rw[show(rqs t.w t.co).length=t.w by simp] at h1
  rw[h1];rfl
 rw[kB h.hd]
 simp only[List.mapM_cons,List.mapM_nil,h1,h2,h3,hi]
 rfl
theorem SS.put {b:Int→Option Blk} {g:SG} {t:SN} {i:Nat} {x:Int} (h:SS b g t) (hi:g.ids[i]? =some x) (Z':Nat→Nat→Rat) (hZ: ∀a c,a≠i→c<t.w→t.Z a c=Z' a c):SS (upd b x (some ⟨3,rqs t.w (Z' i)⟩)) g ⟨t.r,t.w,t.n,Z',t.co,t.bs⟩:=by
 have hm:=List.mem_of_getElem? hi
 have nd:=h.nd
 unfold SG.all at nd
 simp only[List.nodup_cons,List.mem_cons,not_or] at nd
 obtain⟨⟨-, -, -,n1⟩,⟨-, -,n2⟩,⟨-,n3⟩,n4, -⟩:=nd
 have e: ∀y,y∉g.ids→y≠x:=fun y hy e=>hy (e▸hm)
 refine⟨h.len,by rw[aL _ _ _ _ (e _ n2)];exact h.top,fun k y hk=> ?_,h.pos,by rw[aL _ _ _ _ (e _ n1)];exact h.hd,by rw[aL _ _ _ _ (e _ n3)];exact h.ba,by rw[aL _ _ _ _ (e _ n4)];exact h.cst,h.pT,h.pR,h.pB,h.pC,h.nd⟩
 by_cases e2:k=i
 ·subst e2
  rw[hi] at hk;cases hk
  rw[bP]
 ·have hne:y≠x:=fun e3=>e2 (h.inj (i:=k) (j:=i) (by rw[hk,e3]) hi)
  rw[aL _ _ _ _ hne,h.row k y hk]
  simp only
  rw[sE fun c hc=>hZ k c e2 hc]

end Go.Proofs.YticmgmemnpcbbaaGreat.Vm

namespace Go.Proofs.YticmgmemnpcbbaaGreat.Vm
open Go Go.RowKit Go.Proofs
set_option linter.unusedSimpArgs false
set_option linter.unusedVariables false
def zpv (Z:Nat→Nat→Rat) (r k:Nat):Nat→Nat→Rat:=fun i c=>if i=r then Z r c / Z r k else Z i c - Z i k*(Z r c / Z r k)
def cpv (Z:Nat→Nat→Rat) (co:Nat→Rat) (r k:Nat):Nat→Rat:=fun c=>co c - co k*(Z r c / Z r k)
def pvS (bs:Nat→Nat) (r k:Nat):Nat→Nat:=fun i=>if i=r then k else bs i
def zAt (Z:Nat→Nat→Rat) (r k i:Nat):Nat→Nat→Rat:=fun a c=>if a=r then Z r c / Z r k else if a<i then zpv Z r k a c else Z a c
structure aIT (t : SN) : Prop where
 z: ∀i c,i<t.r→c<t.w→Tf (t.Z i c)
 co: ∀c,c<t.w→Tf (t.co c)
 w:t.w≤200
 r:t.r≤100
structure aK7 where
 i:Nat
 b:Int→Option Blk
end Go.Proofs.YticmgmemnpcbbaaGreat.Vm

namespace Go.Proofs.YticmgmemnpcbbaaGreat.Lp
set_option linter.unusedSimpArgs false
set_option linter.unusedVariables false
theorem zX {m:Nat} {t:Tab} {C:Nat→Rat} {j:Nat} (hj: ∀i,i<m→t.bs i≠j):rc m (wl C (j+1)) t j= -1:=by
 unfold rc wl
 simp only
 rw[if_pos trivial,eN]
 ·grind
 ·intro i hi;rw[if_neg (hj i hi)];grind
def Deep (m:Nat) (C:Nat→Rat) (t:Tab) (j k:Nat) (s:Int):Prop:=
 (s=0∧ ∀q,q≤k→rc m (wl C q) t j=0)∨(s≠0∧ ∃q,q≤k∧(∀p,p<q→rc m (wl C p) t j=0)∧rc m (wl C q) t j≠0∧s=(rc m (wl C q) t j).num.sign)
theorem sign_zero {q:Rat} :q.num.sign=0 ↔ q=0:=by
 rw[Int.sign_eq_zero_iff_zero]
 exact Rat.num_eq_zero
theorem Deep.start (m:Nat) (C:Nat→Rat) (t:Tab) (j:Nat):Deep m C t j 0 (rc m C t j).num.sign:=by
 by_cases h:rc m C t j=0
 ·refine .inl ⟨sign_zero.2 h,fun q hq=> ?_⟩
  rw[show q=0 by omega];exact h
 ·exact .inr ⟨fun e=>h (sign_zero.1 e),0,Nat.le_refl _,fun p hp=>by omega,h,rfl⟩
theorem Deep.next {m:Nat} {C:Nat→Rat} {t:Tab} {j k:Nat} (h:Deep m C t j k 0) {s:Int} (hs:s=(rc m (wl C (k+1)) t j).num.sign):Deep m C t j (k+1) s:=by
 rcases h with ⟨_,h⟩| ⟨h,_⟩
 ·by_cases e:rc m (wl C (k+1)) t j=0
  ·refine .inl ⟨by rw[hs];exact sign_zero.2 e,fun q hq=> ?_⟩
   by_cases e2:q=k+1
   ·rw[e2];exact e
   ·exact h q (by omega)
  ·exact .inr ⟨fun e2=>e (sign_zero.1 (hs▸e2)),k+1,Nat.le_refl _,fun p hp=>h p (by omega),e,hs⟩
 ·exact absurd rfl h
theorem Deep.mono {m:Nat} {C:Nat→Rat} {t:Tab} {j k k':Nat} {s:Int} (h:Deep m C t j k s) (hs:s≠0) (hk:k≤k'):Deep m C t j k' s:=by
 rcases h with ⟨h,_⟩| ⟨h,q,h1,h2⟩
 ·exact absurd h hs
 ·exact .inr ⟨h,q,by omega,h2⟩
theorem Deep.own {m n:Nat} {C:Nat→Rat} {t:Tab} {j:Nat} (h:Deep m C t j j 0) (hj: ∀i,i<m→t.bs i≠j): ¬ fM (n+1) fun q=>rc m (wl C q) t j:=by
 rintro⟨q,q1,q2,q3⟩
 rcases h with ⟨_,h⟩| ⟨h,_⟩
 ·have h5:=zX (C:=C) hj
  rcases Nat.lt_trichotomy q (j+1) with g | g | g
  ·simp only at q2;rw[h q (by omega)] at q2;exact absurd q2 (by decide)
  ·subst g;simp only at q2;rw[h5] at q2;exact absurd q2 (by decide)
  ·have:=q3 (j+1) g
   simp only at this
   rw[h5] at this;exact absurd this (by decide)
 ·exact h rfl
noncomputable def Gn (m : Nat) (C : Nat → Rat) (t : Tab) (j n : Nat) : Int := match fstP (fun q => rc m (wl C q) t j ≠ 0) (n + 1) with
 | some q => (rc m (wl C q) t j).num.sign
 | none => 0
theorem M3 (m:Nat) (C:Nat→Rat) (t:Tab) (j n:Nat):Deep m C t j n (Gn m C t j n):=by
 unfold Gn
 cases h:fstP (fun q=>rc m (wl C q) t j≠0) (n+1) with
 | none =>
   have h1:=dW.1 h
   exact .inl ⟨rfl,fun q hq=>Classical.not_not.1 (h1 q (by omega))⟩
 | some q =>
   obtain⟨h1,h2,h3⟩:=dM.1 h
   exact .inr ⟨fun e=>h2 (sign_zero.1 e),q,by omega,fun p hp=>Classical.not_not.1 (h3 p hp),h2,rfl⟩
theorem Deep.uniq {m:Nat} {C:Nat→Rat} {t:Tab} {j n:Nat} {s s':Int} (h:Deep m C t j n s) (h':Deep m C t j n s'):s=s':=by
 rcases h with ⟨rfl,h⟩| ⟨h,q,h1,h2,h3,h4⟩<;>rcases h' with ⟨rfl,g⟩| ⟨g,p,g1,g2,g3,g4⟩
 ·rfl
 ·exact absurd (h p g1) g3
 ·exact absurd (g q h1) h3
 ·have:p=q:=by
   rcases Nat.lt_trichotomy p q with x | x | x
   ·exact absurd (h2 p x) g3
   ·exact x
   ·exact absurd (g2 q x) h3
  subst this
  rw[h4,g4]
theorem Deep.eq {m:Nat} {C:Nat→Rat} {t:Tab} {j n:Nat} {s:Int} (h:Deep m C t j n s):Gn m C t j n=s:=(M3 m C t j n).uniq h
end Go.Proofs.YticmgmemnpcbbaaGreat.Lp

namespace Go.Proofs.YticmgmemnpcbbaaGreat.Vm
open Go Go.RowKit Go.Proofs
set_option linter.unusedSimpArgs false
set_option linter.unusedVariables false
def basic (r:Nat) (bs:Nat→Nat) (j:Nat):Prop:= ∃p,p<r∧bs p=j
instance (r : Nat) (bs : Nat → Nat) (j : Nat) : Decidable (basic r bs j) := by unfold basic; infer_instance
structure View (m b : Nat) (E : Nat → Nat → Rat) (T : Lp.Tab) (rows : List Nat) (t : SN) : Prop where
 ti:Lp.TI m E T
 rr:Rows m rows
 len:t.r=rows.length
 bs: ∀p,p<t.r→t.bs p=T.bs (atR rows p)
 nl:t.n≤100
 rl:t.r≤100
 nw:t.w=t.n+1
 wl:t.w≤200
 dead: ∀i,i<m→i∉rows→t.n≤T.bs i
 z: ∀p j,p<t.r→j<t.n→t.Z p j=T.X (atR rows p) j
 zb: ∀p,p<t.r→t.Z p t.n=T.X (atR rows p) b
 tm:aIT t
structure aLA where
 k:Nat
 s:Int
end Go.Proofs.YticmgmemnpcbbaaGreat.Vm

namespace Go.Proofs.YticmgmemnpcbbaaGreat.Vm
open Go Go.RowKit Go.Proofs
set_option linter.unusedSimpArgs false
set_option linter.unusedVariables false
def isGC :Oper→Bool
 | ⟨_, .call ⟨.value _, _, _⟩, _, _, _, some _⟩ => true
 | _ => false
section
variable (P : Program) (ds : List (Option Tmp)) (blK : Int → Option Blk)
def HoistG :List Oper→(St→Prop)→St→Prop
 | [], K, σ => K σ
 | o :: rest, K, σ => match o with
   | ⟨d,.call ⟨.value f,args,_⟩,_,_,_,some (j,b)⟩=>match ds[j]? with
     | some (some t)=>match σ.ev (.tmp t) with
       | .bool q=>if q=b then aU (callV σ f args.toList) fun p=> ∃v,RO P p.1 p.2 v∧HoistG rest K (σ.put d v) else HoistG rest K (σ.put d (.tup []))
       | .tup []=>HoistG rest K (σ.put d (.tup []))
       | _=>False
     | _=>False
   | o=>HoistF P ds blK [o] (HoistG rest K) σ
def gcK (rest:List Oper) (K:St→Prop) (σ:St) (d:Option Tmp) (o:Option (FuncId×List V)):Prop:=aU o fun p=> ∃v,RO P p.1 p.2 v∧HoistG P ds blK rest K (σ.put d v)
def gcV (rest:List Oper) (K:St→Prop) (σ:St) (d:Option Tmp) (f:Operand) (args:Array Operand) (b:Bool) (x:V):Prop:=match x with
 | .bool q => if q = b then gcK P ds blK rest K σ d (callV σ f args.toList) else HoistG P ds blK rest K (σ.put d (.tup []))
 | .tup [] => HoistG P ds blK rest K (σ.put d (.tup []))
 | _ => False
def gcS (rest:List Oper) (K:St→Prop) (σ:St) (d:Option Tmp) (f:Operand) (args:Array Operand) (b:Bool) (x:Option (Option Tmp)):Prop:=match x with
 | some (some t) => gcV P ds blK rest K σ d f args b (σ.ev (.tmp t))
 | _ => False
variable (rest : List Oper) (K : St → Prop) (σ : St) (d : Option Tmp) (f : Operand) (args : Array Operand) (ats : Array TypeId) (ty : TypeId) (pos : String) (af : Array Edge) (b : Bool)
@[simp] theorem Ul : HoistG P ds blK [] K σ = K σ := (rfl)
@[simp] theorem Ow (j : Nat) : HoistG P ds blK (⟨d, .call ⟨.value f, args, ats⟩, ty, pos, af, some (j, b)⟩ :: rest) K σ = gcS P ds blK rest K σ d f args b (ds[j]?) := (rfl)
@[simp] theorem aCN (t : Tmp) : gcS P ds blK rest K σ d f args b (some (some t)) = gcV P ds blK rest K σ d f args b (σ.ev (.tmp t)) := (rfl)
@[simp] theorem aCI : gcV P ds blK rest K σ d f args b (.tup []) = HoistG P ds blK rest K (σ.put d (.tup [])) := (rfl)
end
section
variable (P : Program) (ds : List (Option Tmp)) (blK : Int → Option Blk) (rest : List Oper) (K : St → Prop) (σ : St) (d : Option Tmp) (ty : TypeId) (pos : String) (af : Array Edge) (g : Nat × Bool)
attribute [-simp] uU
@[simp high] theorem Ks : HoistF P ds blK [] K σ = K σ := (rfl)
end
end Go.Proofs.YticmgmemnpcbbaaGreat.Vm

namespace Go.Proofs.YticmgmemnpcbbaaGreat.Vm
open Go Go.RowKit Go.Proofs
set_option linter.unusedSimpArgs false
set_option linter.unusedVariables false
attribute [-simp] uU
def Cb (Z:Nat→Nat→Rat) (n j i:Nat):Rat:=Z i n / Z i j
def lvQ (Z:Nat→Nat→Rat) (n j:Nat) (bs:Nat→Nat):Nat→Option Nat
 | 0 => none
 | i + 1 => if 0 < Z i j then match lvQ Z n j bs i with
   | none=>some i
   | some b=>if Cb Z n j i<Cb Z n j b∨Cb Z n j i=Cb Z n j b∧bs i<bs b then some i else some b
   else lvQ Z n j bs i
def aNF (Z:Nat→Nat→Rat) (n j:Nat):Option Nat→List V
 | none => [.bool false, .nils, .nils]
 | some b => (ro (some (Cb Z n j b))).c
end Go.Proofs.YticmgmemnpcbbaaGreat.Vm

namespace Go.Proofs.YticmgmemnpcbbaaGreat.Vm
open Go Go.RowKit Go.Proofs
set_option linter.unusedSimpArgs false
set_option linter.unusedVariables false
def snV (rows:List Nat) (n b m:Nat) (w0:Nat→Rat) (T:Lp.Tab):SN:=⟨rows.length,n+1,n,fun p c=>T.X (atR rows p) (if c<n then c else b),fun c=>Lp.rc m w0 T (if c<n then c else b),fun p=>T.bs (atR rows p)⟩
theorem SS.congr {b:Int→Option Blk} {g:SG} {r w n:Nat} {Z Z':Nat→Nat→Rat} {co co':Nat→Rat} {bs bs':Nat→Nat} (h:SS b g ⟨r,w,n,Z,co,bs⟩) (hZ: ∀p c,p<r→c<w→Z p c=Z' p c) (hc: ∀c,c<w→co c=co' c) (hb: ∀p,p<r→bs p=bs' p):SS b g ⟨r,w,n,Z',co',bs'⟩:=by
 have hlb:lb r bs=lb r bs':=List.map_congr_left fun p hp=>by rw[hb p (by simpa using hp)]
 refine⟨h.len,h.top,fun i x hi=> ?_,h.pos,h.hd,?_,?_,h.pT,h.pR,h.pB,h.pC,h.nd⟩
 ·have hlt:i<r:=by have:=h.len;simp only at this;rw[←this];exact(List.getElem?_eq_some_iff.1 hi).1
  rw[h.row i x hi]
  simp only
  rw[sE fun c hc2=>hZ i c hlt hc2]
 ·have:=h.ba
  simp only at this ⊢
  rw[this,hlb]
 ·have:=h.cst
  simp only at this ⊢
  rw[this,sE hc]
structure aL2 (n0 m n : Nat) (E : Nat → Nat → Rat) (rows : List Nat) (deep : Bool) (w0 : Nat → Rat) (ok : Lp.Tab → Nat → Prop) : Prop where
 ml:m≤17
 nl:n0+m≤100
 nn:n≤n0+m
 rr:Rows m rows
 dead: ∀T,pV n0 m E rows T→ ∀i,i<m→i∉rows→n≤T.bs i
 wt: ∀c,c<n0+m+1→Lp.isInt (w0 c)∧ -((1000:Nat):Rat)≤w0 c∧w0 c≤((1000:Nat):Rat)
 bas: ∀T,pV n0 m E rows T→ ∀j,j<n→basic rows.length (fun p=>T.bs (atR rows p)) j→ ¬ ok T j
structure aLP where
 e:Nat
 b:Int→Option Blk
structure aK4 where
 j:Nat
 en:Int

def wk :V→V
 | .nils => .sl []
 | x => x
theorem Tz {x:V} (h:x.one=true):(wk x).one=true:=by
 cases x<;>first | exact h | rfl
theorem Sx {F:Nat→Prop} {w:World} {x:V} {v:Value} (h:Rep F w x v):Rep F w (wk x) v:=by
 cases x with
 | nils => cases h; exact .sl0 none 0 (fun _ => rfl)
 | _ => exact h
theorem aC4 {P:Program} {c:Code} {K:Ex→St→Prop} {σ:St} {g:Int} {s:Nat} {els:List (List V)} (hb:σ.bl g=some ⟨s,els⟩)
  (h:AW P c K ⟨σ.n,σ.sl,upd σ.bl g (some ⟨s,els.map fun e=>e.map wk⟩)⟩):AW P c K σ:=by
 intro w0 M F a w hs
 have hm:=hs.mem
 refine h w0 M F a w ⟨⟨hm.os,hm.tape,hm.output,hm.size,hm.frame,hm.gK,hm.fr,?_,fun x b hx h0=> ?_,fun x b hx=> ?_⟩,hs.size,hs.sl,hs.defers⟩
 ·obtain⟨n,hn⟩:=hm.fin
  refine⟨n,fun x hx=> ?_⟩
  have:=hn x hx
  show upd _ _ _ x=none
  by_cases hxg:x=g
  ·subst hxg;rw[hb] at this;cases this
  ·rw[aL _ _ _ _ hxg];exact this
 ·by_cases hxg:x=g
  ·subst hxg;exact hm.own x _ hb h0
  ·simp only at hx
   rw[aL _ _ _ _ hxg] at hx
   exact hm.own x b hx h0
 ·by_cases hxg:x=g
  ·subst hxg
   simp only at hx
   rw[bP] at hx
   cases hx
   have hB:=hm.blk x _ hb
   unfold bU at hB ⊢
   split at hB
   ·rename_i cM
    rw[if_pos cM];simp only at hB ⊢;rw[hB];rfl
   ·rename_i cM
    rw[if_neg cM]
    obtain⟨h1,cs,t,h2,h3,h4⟩:=hB
    refine⟨h1,cs,t,h2,by simpa using h3,fun k e he=> ?_⟩
    simp only[List.getElem?_map] at he
    cases he0:els[k]? with
    | none => rw [he0] at he; cases he
    | some e0 =>
      rw[he0] at he;cases he
      obtain⟨h5,h6⟩:=h4 k e0 he0
      refine⟨by simpa using h5,fun j y hy=> ?_⟩
      rw[List.getElem?_map] at hy
      cases hy0:e0[j]? with
      | none=>rw[hy0] at hy;cases hy
      | some y0=>
        rw[hy0] at hy;cases hy
        obtain⟨h7,v,h8,h9⟩:=h6 j y0 hy0
        exact⟨Tz h7,v,h8,Sx h9⟩
  ·simp only at hx
   rw[aL _ _ _ _ hxg] at hx
   exact hm.blk x b hx
theorem aKC :biC 0= [.bool false,.sl []]:=by
 simp[dP,aX,iv]
theorem Mc (n:Nat):(List.replicate n [V.bool false,.nils]).map (fun e=>e.map wk)=zv n fun _=>0:=by
 rw[List.map_replicate]
 apply List.ext_getElem
 ·simp
 ·intro i h1 h2
  simp[zv,aKC,wk]
theorem Ga {N i:Nat} (f:Nat→Int) (v:Int) (h:i<N):(zv N f).set i (biC v)=zv N fun c=>if c=i then v else f c:=by
 apply List.ext_getElem
 ·simp
 ·intro j h1 h2
  rw[List.getElem_set,A8,A8]
  by_cases e:i=j
  ·rw[if_pos e,if_pos e.symm]
  ·rw[if_neg e,if_neg (Ne.symm e)]
theorem Lh (r:Nat) (bs:Nat→Nat):lb (r+1) bs=lb r bs++ [(bs r:Int)]:=by simp[lb,List.range_succ]
theorem TT.start {b:Int→Option Blk} {T R B F:Int} {t:TN} (hr:t.r=0) (hR:b R=some ⟨1,[]⟩) (hB:b B=some ⟨1,[]⟩) (hT:b T=some ⟨6,[[.lsl R 1 0 0,.bool (decide (t.d<0)),.sl (iv (lim t.d.natAbs)),.lsl B 1 0 0,.int .i64 t.n,.lsl F 1 0 t.n]]⟩)
  (hF:b F=some ⟨1,lv t.n t.fr⟩) (pT:0≤T) (pF:0≤F) (nd: [T,R,B,F].Nodup):TT b ⟨T,R,B,F,[]⟩ t:=
 ⟨⟨hr.symm,hR,fun i g h=>(by cases h),fun g h=>(by cases h),fun i j g h=>(by cases h),fun h=>(by cases h)⟩,by simp only[hr];exact hT,by simp only[hr];exact hB,hF,pT,fun _=>hr,fun _=>hr,pF,nd⟩
theorem TT.snoc {b b':Int→Option Blk} {g:TG} {t:TN} (h:TT b g t) (gN gM gr:Int) (hR:b' gN=some ⟨1,(g.ids++ [gr]).map fun g=> [.lsl g 2 0 (t.n+1)]⟩) (hB:b' gM=some ⟨1,iv (lb (t.r+1) t.bs)⟩)
  (hT:b' g.T=some ⟨6,[[.lsl gN 1 0 (t.r+1),.bool (decide (t.d<0)),.sl (iv (lim t.d.natAbs)),.lsl gM 1 0 (t.r+1),.int .i64 t.n,.lsl g.F 1 0 t.n]]⟩) (hF:b' g.F=b g.F) (hi: ∀x,x∈g.ids→b' x=b x)
  (hr:b' gr=some ⟨2,zv (t.n+1) (t.Z t.r)⟩) (h0:0≤gr) (hN:0≤gN) (hM:0≤gM) (nd:(g.T::gN::gM::g.F::(g.ids++ [gr])).Nodup):
  TT b' ⟨g.T,gN,gM,g.F,g.ids++ [gr]⟩ ⟨t.r+1,t.n,t.Z,t.d,t.bs,t.fr⟩:=by
 have hl:=h.dH.len
 have key: ∀(i:Nat) (x:Int),(g.ids++ [gr])[i]? =some x→(i<t.r∧g.ids[i]? =some x)∨(i=t.r∧x=gr):=fun i x hx=>by
  by_cases e:i<t.r
  ·rw[List.getElem?_append_left (by omega)] at hx;exact .inl ⟨e,hx⟩
  ·rw[List.getElem?_append_right (by omega)] at hx
   have:i - g.ids.length=0:=by
    rcases Nat.eq_zero_or_pos (i - g.ids.length) with h | h
    ·exact h
    ·rw[List.getElem?_eq_none (by simp;omega)] at hx;cases hx
   rw[this] at hx;cases hx
   exact .inr ⟨by omega,rfl⟩
 have nd2:=nd
 simp only[List.nodup_cons,List.mem_cons,not_or] at nd2
 obtain⟨-,⟨-, -,nNi⟩, -, -,ndi⟩:=nd2
 have hgr:gr∉g.ids:=fun hm=>by
  rw[List.nodup_append] at ndi
  exact ndi.2.2 gr hm gr (by simp) rfl
 refine⟨⟨by simp[hl],hR,fun i x hx=> ?_,fun x hx=> ?_,fun i j x hx hy=> ?_,nNi⟩,hT,hB,?_,h.pT,fun hn=>absurd hn (by simp only;omega),fun hn=>absurd hn (by simp only;omega),h.pF,nd⟩
 ·rcases key i x hx with ⟨hlt,hx⟩| ⟨rfl,rfl⟩
  ·rw[hi x (List.mem_of_getElem? hx)];exact h.dH.row i x hx
  ·exact hr
 ·rcases List.mem_append.1 hx with hx | hx
  ·exact h.dH.pos x hx
  ·rw[List.mem_singleton.1 hx];exact h0
 ·rcases key i x hx with ⟨hlt,hx⟩| ⟨e1,e2⟩<;>rcases key j x hy with ⟨Px,hy⟩| ⟨e3,e4⟩
  ·exact h.dH.inj i j x hx hy
  ·exact absurd (List.mem_of_getElem? hx) (by rw[e4];exact hgr)
  ·exact absurd (List.mem_of_getElem? hy) (by rw[e2];exact hgr)
  ·rw[e1,e3]
 ·simp only;rw[hF];exact h.fre
theorem TT.aEP {b b':Int→Option Blk} {g:TG} {t:TN} (h:TT b g t) (fr:Nat→Bool) (hF:b' g.F=some ⟨1,lv t.n fr⟩) (hk: ∀x y,x∈g.all→x≠g.F→b x=some y→b' x=some y):TT b' g ⟨t.r,t.n,t.Z,t.d,t.bs,fr⟩:=by
 have nd:=h.nd
 simp only[List.nodup_cons,List.mem_cons,not_or] at nd
 obtain⟨⟨n1,n2,n3,n4⟩,⟨n5,n6,n7⟩,⟨n8,n9⟩,n10,n11⟩:=nd
 refine⟨h.dH.fU fun x y hx hy=> ?_,hk _ _ (by simp[TG.all]) n3 h.hd,hk _ _ (by simp[TG.all]) n8 h.ba,hF,h.pT,h.pR,h.pB,h.pF,h.nd⟩
 rcases hx with rfl | hx
 ·exact hk _ _ (by simp[TG.all]) n6 hy
 ·exact hk _ _ (by simp[TG.all,hx]) (fun e=>n10 (e▸hx)) hy
theorem nD {m q:Nat} (h:q<m):atR (List.range m) q=q:=by
 unfold atR
 rw[List.getD_eq_getElem?_getD,List.getElem?_eq_getElem (by simpa using h)];simp

theorem SS.snoc {b b':Int→Option Blk} {g:SG} {r w n:Nat} {Z:Nat→Nat→Rat} {co:Nat→Rat} {bs:Nat→Nat} (h:SS b g ⟨r,w,n,Z,co,bs⟩) (gN gM gr:Int) (hR:b' gN=some ⟨1,(g.ids++ [gr]).map fun x=> [.lsl x 3 0 w]⟩) (hB:b' gM=some ⟨1,iv (lb (r+1) bs)⟩)
  (hT:b' g.T=some ⟨4,[[.int .i64 n,.lsl gN 1 0 (r+1),.lsl gM 1 0 (r+1),.lsl g.C 3 0 w]]⟩) (hC:b' g.C=b g.C) (hi: ∀x,x∈g.ids→b' x=b x)
  (hr:b' gr=some ⟨3,rqs w (Z r)⟩) (h0:0≤gr) (hN:0≤gN) (hM:0≤gM) (nd:(SG.all ⟨g.T,gN,gM,g.C,g.ids++ [gr]⟩).Nodup):
  SS b' ⟨g.T,gN,gM,g.C,g.ids++ [gr]⟩ ⟨r+1,w,n,Z,co,bs⟩:=by
 have hl:=h.len
 simp only at hl
 refine⟨by simp[hl],hR,fun i x hx=> ?_,fun x hx=> ?_,hT,hB,by simp only;rw[hC];exact h.cst,h.pT,fun e=>by simp only at e;omega,fun e=>by simp only at e;omega,h.pC,nd⟩
 ·simp only at hx ⊢
  by_cases e:i<r
  ·rw[List.getElem?_append_left (by omega)] at hx
   rw[hi x (List.mem_of_getElem? hx)];exact h.row i x hx
  ·rw[List.getElem?_append_right (by omega)] at hx
   have e0:i - g.ids.length=0:=by
    rcases Nat.eq_zero_or_pos (i - g.ids.length) with q | q
    ·exact q
    ·rw[List.getElem?_eq_none (by simp;omega)] at hx;cases hx
   rw[e0] at hx;cases hx
   rw[show i=r by omega];exact hr
 ·rcases List.mem_append.1 hx with hx | hx
  ·exact h.pos x hx
  ·rw[List.mem_singleton.1 hx];exact h0
noncomputable def aMD (p : Pg) (n m i : Nat) : Nat → Rat := fun c => if c < n ∨ c = n + m then Lp.S i fun r => eQ p n m r c else 0
structure aJ8 where
 j:Nat
 gC:Int
 b:Int→Option Blk
structure aAZ where
 k:Nat
 gw:Int
 b:Int→Option Blk
structure aJM where
 i:Nat
 g:SG
 b:Int→Option Blk
structure WOk (b : Int → Option Blk) (f : Nat → Rat) (W : aAZ) : Prop where
 blk:W.b W.gw=some ⟨3,rqs W.k f⟩
 new:b W.gw=none
 nn:0≤W.gw
 sub:Sub b W.b
theorem WOk.snoc {b:Int→Option Blk} {f:Nat→Rat} {k:Nat} {gw g4 gN:Int} {bw:Int→Option Blk} (h:WOk b f ⟨k,gw,bw⟩) (h4:bw g4=none) (hN:0≤gN) (hn: ¬ gN=gw→ ¬ gN=g4∧bw gN=none):
  WOk b f ⟨k+1,gN,upd (rem bw gw) gN (some ⟨3,rqs (k+1) f⟩)⟩:=by
 have hbN:b gN=none:=by
  by_cases e:gN=gw
  ·rw[e];exact h.new
  ·cases hv:b gN with
   | none => rfl
   | some y => have := h.sub gN y hv; simp only at this; rw [(hn e).2] at this; cases this
 refine⟨bP _ _ _,hbN,hN,fun x y hx=> ?_⟩
 have x1:x≠gN:=fun e=>by rw[e,hbN] at hx;cases hx
 have x2:x≠gw:=fun e=>by have:=h.new;simp only at this;rw[e,this] at hx;cases hx
 simp only
 rw[aL _ _ _ _ x1,aJ,if_neg x2]
 exact h.sub x y hx
end Go.Proofs.YticmgmemnpcbbaaGreat.Vm

namespace Go.Proofs.YticmgmemnpcbbaaGreat.Lp
set_option linter.unusedSimpArgs false
set_option linter.unusedVariables false
noncomputable def opt (n m : Nat) (E : Nat → Nat → Rat) (b : Nat) (C : Nat → Rat) : Option (Option (Nat → Rat)) :=
 open Classical in
 if h: ∃x,rH n m E b C x then some (some fun c=>if c<n then h.choose c else 0)
 else if∃x,gP n m E b x then some none else none
theorem wM {n m b:Nat} {E:Nat→Nat→Rat} {C x:Nat→Rat} (h:rH n m E b C x):opt n m E b C=some (some fun c=>if c<n then x c else 0):=by
 have he: ∃x,rH n m E b C x:=⟨x,h⟩
 unfold opt
 rw[dif_pos he]
 congr 2
 funext c
 split
 ·exact Bx he.choose_spec h c (by assumption)
 ·rfl
theorem J7 {n m b:Nat} {E:Nat→Nat→Rat} {C:Nat→Rat} (h:Unb n m E b C) {x:Nat→Rat} (hx:gP n m E b x):opt n m E b C=some none:=by
 have he: ¬ ∃x,rH n m E b C x:=fun⟨x,hb⟩=>C1 h hb
 unfold opt
 rw[dif_neg he,if_pos ⟨x,hx⟩]
theorem G1 {n m b:Nat} {E:Nat→Nat→Rat} {C:Nat→Rat} (h: ∀x, ¬ gP n m E b x):opt n m E b C=none:=by
 have he: ¬ ∃x,rH n m E b C x:=fun⟨x,hb⟩=>h x hb.1
 unfold opt
 rw[dif_neg he,if_neg fun⟨x,hx⟩=>h x hx]
theorem O9 {n m b:Nat} {E:Nat→Nat→Rat} {x y:Nat→Rat} (h:gP n m E b x) (e: ∀c,c<n→x c=y c):gP n m E b y:=
 ⟨fun c hc=>by rw[←e c hc];exact h.nn c hc,fun i hi=>by
   have:=h.sol i hi
   rw[←this]
   exact aM fun c hc=>by rw[e c hc]⟩
theorem yH {n:Nat} {C x y:Nat→Rat} (e: ∀c,c<n→x c=y c):dot n C x=dot n C y:=aM fun c hc=>by rw[e c hc]
theorem H9 {n m b:Nat} {E:Nat→Nat→Rat} {C x:Nat→Rat} (h:opt n m E b C=some (some x)):rH n m E b C x:=by
 unfold opt at h
 split at h
 ·rename_i he
  cases h
  have hb:=he.choose_spec
  have e: ∀c,c<n→he.choose c=if c<n then he.choose c else 0:=fun c hc=>by rw[if_pos hc]
  refine⟨O9 hb.1 e,fun y hy hp=>hb.2 y hy ?_⟩
  refine cP hp fun q hq=> ?_
  rw[yH (C:=wl C q) e]
 ·split at h<;>cases h

def Den (L n:Nat) (x:Nat→Rat):Prop:= ∃v:Int,v≠0∧v.natAbs≤L∧ ∀c,c<n→ ∃a:Int,x c*v=a∧a.natAbs≤L
theorem Den.congr {L n:Nat} {x y:Nat→Rat} (h:Den L n x) (e: ∀c,c<n→x c=y c):Den L n y:=by
 obtain⟨v,h1,h2,h3⟩:=h
 exact⟨v,h1,h2,fun c hc=>by rw[←e c hc];exact h3 c hc⟩
theorem Den.sm {L n:Nat} {x:Nat→Rat} (h:Den L n x) {c:Nat} (hc:c<n):Lp.sm L (x c):=by
 obtain⟨v,h1,h2,h3⟩:=h
 obtain⟨a,ha,hal⟩:=h3 c hc
 exact⟨a,v,h1,ha,hal,h2⟩
theorem Du {n m N K b:Nat} {E:Nat→Nat→Rat} {t:Tab} (h:TZ m N K E t) (hb:b<N):Den (lid K m) n (xb m b t):=by
 obtain⟨⟨v,hv⟩,hvl⟩:=h.nH
 have hne:=h.vol
 refine⟨v,fun e=>hne (by rw[hv,e];rfl),nK hv hvl,fun c _=> ?_⟩
 by_cases e: ∃i,i<m∧t.bs i=c
 ·obtain⟨i,hi,rfl⟩:=e
  rw[aED h.ti hi]
  obtain⟨⟨a,ha⟩,hal⟩:=h.entry hi hb
  exact⟨a,by rw[←hv,ha],nK ha hal⟩
 ·rw[Qu fun i hi e2=>e ⟨i,hi,e2⟩]
  exact⟨0,by grind,by simp⟩
theorem Den.sum {L n W:Nat} {x:Nat→Rat} (h:Den L n x) {C:Nat→Int} (hC: ∀c,c<n→(C c).natAbs≤W) (hW:1≤W): ∀k,k≤n→Lp.sm ((n+1)*(W*L)) (S k fun c=>(C c:Rat)*x c):=by
 obtain⟨v,h1,h2,h3⟩:=h
 have key: ∀k,k≤n→ ∃a:Int,(S k fun c=>(C c:Rat)*x c)*v=a∧a.natAbs≤k*(W*L):=by
  intro k
  induction k with
  | zero => intro _; exact ⟨0, by rw [S]; grind, by simp⟩
  | succ k ih =>
    intro hk
    obtain⟨a,ha,hal⟩:=ih (by omega)
    obtain⟨z,hz,hzl⟩:=h3 k (by omega)
    refine⟨a+C k*z,?_,?_⟩
    ·rw[S,Rat.intCast_add,Rat.intCast_mul,←ha,←hz];grind
    ·have e1:=Int.natAbs_add_le a (C k*z)
     have e2:(C k*z).natAbs≤W*L:=by rw[Int.natAbs_mul];exact Nat.mul_le_mul (hC k (by omega)) hzl
     rw[Nat.add_mul,Nat.one_mul];omega
 intro k hk
 obtain⟨a,ha,hal⟩:=key k hk
 refine⟨a,v,h1,ha,Nat.le_trans hal (Nat.mul_le_mul_right _ (by omega)),Nat.le_trans h2 ?_⟩
 have e1:1*L≤W*L:=Nat.mul_le_mul_right _ hW
 have e2:1*(W*L)≤(n+1)*(W*L):=Nat.mul_le_mul_right _ (by omega)
 omega
theorem runs {n m K:Nat} {E:Nat→Nat→Rat} (C:Nat→Rat) (h:Init n m K E):(∀x, ¬ gP n m E (n+m) x)∨
  ∃t rows,Inv n m (n+m) (n+m+1) K E rows t∧(∀i,i∈rows→t.bs i<n)∧nx n (n+m) rows (okL m n C) t=none:=by
 obtain⟨e,h1,h2,h3,h4⟩:=vR (N':=n+m) (F:=fun c=>c<n) h (fun c hc=>by omega) (Nat.le_refl _) (fun c hc=>⟨by omega,hc⟩)
 generalize orb (nx (n+m) (n+m) (List.range m) (okW m (cL n m) fun c=>c<n)) (lP n E) e=t at *
 by_cases hp:rc m (cL n m) t (n+m)=0
 ·right
  have hk:=(kS (h4.uP hp) (by omega) m (Nat.le_refl _)).inv
  have R:sM n m (n+m) (n+1) n (n+m+1) (wl C) (fun c=>c<n) (bE n (kicks n t m) m) (okL m n C):=aA1 (by omega) (by omega)
  obtain⟨e2,g1,g2,g3⟩:=R.ends hk
  exact⟨_,_,g3 e2 (Nat.le_refl _),R.low (fun c hc=>hc) g3 (fun i hi=>(rG.1 hi).2) e2 (Nat.le_refl _),g1⟩
 ·exact .inl fun x=>h4.no hp x
theorem answers {n m K:Nat} {E:Nat→Nat→Rat} (C:Nat→Rat) (h:Init n m K E):(opt n m E (n+m) C=none∧ ∀x, ¬ gP n m E (n+m) x)∨(opt n m E (n+m) C=some none∧Unb n m E (n+m) C∧ ∃x,gP n m E (n+m) x)∨
  ∃x,opt n m E (n+m) C=some (some x)∧rH n m E (n+m) C x∧Den (lid K m) n x∧ ∀c,n≤c→x c=0:=by
 rcases runs C h with g | ⟨t,rows,h1,h2,h3⟩
 ·exact .inl ⟨G1 g,g⟩
 ·have hf:gP n m E (n+m) (xb m (n+m) t):=uG h1.z.ti h1.nn (h1.zero h2)
  rcases Q9 h1 h2 h3 with ⟨_,hb⟩| ⟨_,hu⟩
  ·refine .inr (.inr ⟨_,wM hb,H9 (wM hb),(Du (b:=n+m) h1.z (by omega)).congr fun c hc=>by rw[if_pos hc],fun c hc=>if_neg (by omega)⟩)
  ·exact .inr (.inl ⟨J7 hu hf,hu,_,hf⟩)
end Go.Proofs.YticmgmemnpcbbaaGreat.Lp

namespace Go.Proofs.YticmgmemnpcbbaaGreat.Vm
open Go Go.RowKit Go.Proofs
set_option linter.unusedSimpArgs false
set_option linter.unusedVariables false
structure aLI (p : Pg) (n m : Nat) : Prop where
 a: ∀x,x∈p.a→x.natAbs≤100
 b: ∀x,x∈p.b→x.natAbs≤100
 c: ∀x,x∈p.c→x.natAbs≤100
 m:m≤20
 n:n≤40
noncomputable def D0 (n m : Nat) (E : Nat → Nat → Rat) : Bool := open Classical in decide (∃ x, Lp.gP n m E (n + m) x)
theorem wX {n m:Nat} {E:Nat→Nat→Rat} :D0 n m E=true ↔ ∃x,Lp.gP n m E (n+m) x:=by unfold D0;simp
theorem lV.has {p:Pg} {n m:Nat} {T:Lp.Tab} (h:Lp.lV n m (n+m+1) 1000 (eQ p n m) T):(Lp.rc m (Lp.cL n m) T (n+m)=0) ↔ D0 n m (eQ p n m)=true:=by
 rw[wX]
 constructor
 ·intro h0;exact⟨_,h.Fc h0⟩
 ·rintro⟨x,hx⟩
  exact Classical.byContradiction fun h0=>h.no h0 x hx
end Go.Proofs.YticmgmemnpcbbaaGreat.Vm

namespace Go.Proofs.YticmgmemnpcbbaaGreat.Lp
set_option linter.unusedSimpArgs false
set_option linter.unusedVariables false
def part (w:Nat→Rat) (t:Tab) (rw_:Nat→Nat) (i c:Nat):Rat:=w c - S i fun p=>t.X (rw_ p) c*w (t.bs (rw_ p))
end Go.Proofs.YticmgmemnpcbbaaGreat.Lp

namespace Go.Proofs.YticmgmemnpcbbaaGreat.Vm
open Go Go.RowKit Go.Proofs
set_option linter.unusedSimpArgs false
set_option linter.unusedVariables false
structure aK3 where
 i:Nat
 b:Int→Option Blk
structure aIY where
 j:Nat
 d:Bool
 b:Int→Option Blk
end Go.Proofs.YticmgmemnpcbbaaGreat.Vm
