import Derived.Test.YticmgmemnpcbbaaGreatQCFnExactRangeOf3

namespace Go.Proofs.YticmgmemnpcbbaaGreat.Vm
open Go Go.RowKit
set_option linter.unusedSimpArgs false
set_option linter.unusedVariables false
inductive D where
 | c (x : V)
 | s (sz : Nat) (rows : List (List D))
 | p (row : List D)
 | a (cs : List D)
 | t (cs : List D)
 deriving Inhabited
mutual
def OwnD (bl:Int→Option Blk):D→V→List Int→Prop
 | .c x, v, gs => v = x ∧ x.cl = true ∧ gs = []
 | .s sz rows, v, gs => (rows = [] ∧ v = .nils ∧ gs = []) ∨ ∃ g els gs', v = .lsl g sz 0 rows.length ∧ gs = g :: gs' ∧ g ∉ gs' ∧ bl g = some ⟨sz, els⟩ ∧ (g < 0 → els = []) ∧ OwnR bl sz rows els gs'
 | .p row, v, gs => ∃ g e gs', v = .loc g row.length 0 0 ∧ gs = g :: gs' ∧ g ∉ gs' ∧ 0 ≤ g ∧ bl g = some ⟨row.length, [e]⟩ ∧ OwnL bl row e gs'
 | .a cs, v, gs => ∃ vs, v = .agg vs ∧ OwnL bl cs vs gs
 | .t cs, v, gs => ∃ vs, v = .tup vs ∧ OwnL bl cs vs gs
def OwnL (bl:Int→Option Blk):List D→List V→List Int→Prop
 | [], vs, gs => vs = [] ∧ gs = []
 | d :: ds, vs, gs => ∃ v vs' g1 g2, vs = v :: vs' ∧ gs = g1 ++ g2 ∧ (∀ g, g ∈ g1 → g ∉ g2) ∧ OwnD bl d v g1 ∧ OwnL bl ds vs' g2
def OwnR (bl:Int→Option Blk) (sz:Nat):List (List D)→List (List V)→List Int→Prop
 | [], els, gs => els = [] ∧ gs = []
 | r :: rs, els, gs => ∃ e lO g1 g2, els = e :: lO ∧ gs = g1 ++ g2 ∧ (∀ g, g ∈ g1 → g ∉ g2) ∧ e.length = sz ∧ (e.all V.one = true) ∧ OwnL bl r e g1 ∧ OwnR bl sz rs lO g2
end
mutual
def D.fz :D→V
 | .c x => x
 | .s _ rows => .sl (D.fzR rows)
 | .p row => .ptr (D.fzL row)
 | .a cs => .agg (D.fzL cs)
 | .t cs => .tup (D.fzL cs)
def D.fzL :List D→List V
 | [] => []
 | d :: ds => d.fz :: D.fzL ds
def D.fzR :List (List D)→List (List V)
 | [] => []
 | r :: rs => D.fzL r :: D.fzR rs
end
theorem xY : ∀(ds:List D),D.fzL ds=ds.map D.fz
 | [] => by simp [D.fzL]
 | d :: ds => by simp [D.fzL, xY ds]
theorem P8 : ∀(rs:List (List D)),D.fzR rs=rs.map fun r=>r.map D.fz
 | [] => by simp [D.fzR]
 | r :: rs => by simp [D.fzR, P8 rs, xY]
mutual
theorem OwnD.frame {bl bl':Int→Option Blk} : ∀ {d:D} {v:V} {gs:List Int},OwnD bl d v gs→(∀g,g∈gs→bl' g=bl g)→OwnD bl' d v gs
 | .c x, v, gs, h, _ => by rw [OwnD] at h ⊢; exact h
 | .s sz rows, v, gs, h, hg => by
   rw[OwnD] at h ⊢
   rcases h with h | ⟨g,els,gs',h1,h2,h3,h4,h5,h6⟩
   ·exact .inl h
   ·subst h2
    exact .inr ⟨g,els,gs',h1,rfl,h3,by rw[hg g (by simp)];exact h4,h5,OwnR.frame h6 fun g' hg'=>hg g' (by simp[hg'])⟩
 | .p row, v, gs, h, hg => by
   rw[OwnD] at h ⊢
   obtain⟨g,e,gs',h1,h2,h3,h0,h4,h5⟩:=h
   subst h2
   exact⟨g,e,gs',h1,rfl,h3,h0,by rw[hg g (by simp)];exact h4,OwnL.frame h5 fun g' hg'=>hg g' (by simp[hg'])⟩
 | .a cs, v, gs, h, hg => by
   rw[OwnD] at h ⊢
   obtain⟨vs,h1,h2⟩:=h
   exact⟨vs,h1,OwnL.frame h2 hg⟩
 | .t cs, v, gs, h, hg => by
   rw[OwnD] at h ⊢
   obtain⟨vs,h1,h2⟩:=h
   exact⟨vs,h1,OwnL.frame h2 hg⟩
theorem OwnL.frame {bl bl':Int→Option Blk} : ∀ {ds:List D} {vs:List V} {gs:List Int},OwnL bl ds vs gs→(∀g,g∈gs→bl' g=bl g)→OwnL bl' ds vs gs
 | [], vs, gs, h, _ => by rw [OwnL] at h ⊢; exact h
 | d :: ds, vs, gs, h, hg => by
   rw[OwnL] at h ⊢
   obtain⟨v,vs',g1,g2,h1,h2,h3,h4,h5⟩:=h
   subst h2
   exact⟨v,vs',g1,g2,h1,rfl,h3,OwnD.frame h4 fun g hgg=>hg g (by simp[hgg]),OwnL.frame h5 fun g hgg=>hg g (by simp[hgg])⟩
theorem OwnR.frame {bl bl':Int→Option Blk} {sz:Nat} : ∀ {rs:List (List D)} {els:List (List V)} {gs:List Int},OwnR bl sz rs els gs→(∀g,g∈gs→bl' g=bl g)→OwnR bl' sz rs els gs
 | [], vs, gs, h, _ => by rw [OwnR] at h ⊢; exact h
 | r :: rs, els, gs, h, hg => by
   rw[OwnR] at h ⊢
   obtain⟨e,lO,g1,g2,h1,h2,h3,h4,h4',h5,h6⟩:=h
   subst h2
   exact⟨e,lO,g1,g2,h1,rfl,h3,h4,h4',OwnL.frame h5 fun g hgg=>hg g (by simp[hgg]),OwnR.frame h6 fun g hgg=>hg g (by simp[hgg])⟩
end
mutual
theorem OwnD.has {bl:Int→Option Blk} : ∀ {d:D} {v:V} {gs:List Int},OwnD bl d v gs→ ∀g,g∈gs→ ∃b,bl g=some b
 | .c x, v, gs, h, g, hg => by rw [OwnD] at h; rw [h.2.2] at hg; cases hg
 | .s sz rows, v, gs, h, g, hg => by
   rw[OwnD] at h
   rcases h with ⟨_,_,h⟩| ⟨g0,els,gs',h1,h2,h3,h4,h5,h6⟩
   ·rw[h] at hg;cases hg
   ·subst h2
    rcases List.mem_cons.1 hg with rfl | hg
    ·exact⟨_,h4⟩
    ·exact OwnR.has h6 g hg
 | .p row, v, gs, h, g, hg => by
   rw[OwnD] at h
   obtain⟨g0,e,gs',h1,h2,h3,h0,h4,h5⟩:=h
   subst h2
   rcases List.mem_cons.1 hg with rfl | hg
   ·exact⟨_,h4⟩
   ·exact OwnL.has h5 g hg
 | .a cs, v, gs, h, g, hg => by
   rw[OwnD] at h
   obtain⟨vs,h1,h2⟩:=h
   exact OwnL.has h2 g hg
 | .t cs, v, gs, h, g, hg => by
   rw[OwnD] at h
   obtain⟨vs,h1,h2⟩:=h
   exact OwnL.has h2 g hg
theorem OwnL.has {bl:Int→Option Blk} : ∀ {ds:List D} {vs:List V} {gs:List Int},OwnL bl ds vs gs→ ∀g,g∈gs→ ∃b,bl g=some b
 | [], vs, gs, h, g, hg => by rw [OwnL] at h; rw [h.2] at hg; cases hg
 | d :: ds, vs, gs, h, g, hg => by
   rw[OwnL] at h
   obtain⟨v,vs',g1,g2,h1,h2,h3,h4,h5⟩:=h
   subst h2
   rcases List.mem_append.1 hg with hg | hg
   ·exact OwnD.has h4 g hg
   ·exact OwnL.has h5 g hg
theorem OwnR.has {bl:Int→Option Blk} {sz:Nat} : ∀ {rs:List (List D)} {els:List (List V)} {gs:List Int},OwnR bl sz rs els gs→ ∀g,g∈gs→ ∃b,bl g=some b
 | [], vs, gs, h, g, hg => by rw [OwnR] at h; rw [h.2] at hg; cases hg
 | r :: rs, els, gs, h, g, hg => by
   rw[OwnR] at h
   obtain⟨e,lO,g1,g2,h1,h2,h3,h4,h4',h5,h6⟩:=h
   subst h2
   rcases List.mem_append.1 hg with hg | hg
   ·exact OwnL.has h5 g hg
   ·exact OwnR.has h6 g hg
end
theorem OwnD.sub {bl bl':Int→Option Blk} {d:D} {v:V} {gs:List Int} (h:OwnD bl d v gs) (hs:Sub bl bl'):OwnD bl' d v gs:=h.frame fun g hg=>by
 obtain⟨b,hb⟩:=h.has g hg
 rw[hb,hs g b hb]
theorem OwnL.sub {bl bl':Int→Option Blk} {d:List D} {v:List V} {gs:List Int} (h:OwnL bl d v gs) (hs:Sub bl bl'):OwnL bl' d v gs:=h.frame fun g hg=>by
 obtain⟨b,hb⟩:=h.has g hg
 rw[hb,hs g b hb]
theorem OwnL.length {bl:Int→Option Blk} : ∀ {ds:List D} {vs:List V} {gs:List Int},OwnL bl ds vs gs→vs.length=ds.length
 | [], vs, gs, h => by rw [OwnL] at h; simp [h.1]
 | d :: ds, vs, gs, h => by
   rw[OwnL] at h
   obtain⟨v,vs',g1,g2,h1,h2,h3,h4,h5⟩:=h
   rw[h1];simp[OwnL.length h5]
theorem OwnR.length {bl:Int→Option Blk} {sz:Nat} : ∀ {ds:List (List D)} {vs:List (List V)} {gs:List Int},OwnR bl sz ds vs gs→vs.length=ds.length
 | [], vs, gs, h => by rw [OwnR] at h; simp [h.1]
 | d :: ds, vs, gs, h => by
   rw[OwnR] at h
   obtain⟨v,vs',g1,g2,h1,h2,h3,h4,h4',h5,h6⟩:=h
   rw[h1];simp[OwnR.length h6]
theorem Q2 {bl:Int→Option Blk} {n:Nat} {x:V} (h:x.cl=true):frz bl n x=some x:=by
 cases x<;>first | (simp[V.cl] at h;done)| (unfold frz;rfl)
theorem tC {bl:Int→Option Blk} {n:Nat} : ∀ {xs:List V},xs.all V.cl=true→xs.mapM (frz bl n)=some xs
 | [], _ => rfl
 | x :: xs, h => by
   simp only[List.all_cons,Bool.and_eq_true] at h
   rw[List.mapM_cons,Q2 h.1,tC h.2];rfl
theorem iH {bl:Int→Option Blk} {n:Nat} : ∀ {xs:List (List V)},xs.all (fun e=>e.all V.cl)=true→xs.mapM (fun e:List V=>e.mapM (frz bl n))=some xs
 | [], _ => rfl
 | x :: xs, h => by
   simp only[List.all_cons,Bool.and_eq_true] at h
   rw[List.mapM_cons,tC h.1,iH h.2];rfl
theorem qU {bl:Int→Option Blk} {n:Nat} {cs:List V} :frz bl (n+1) (.agg cs)=(cs.mapM (frz bl n)).map .agg:=by
 simp only[frz]
 split
 ·rename_i h;rw[tC h];rfl
 ·rfl
theorem Hi {bl:Int→Option Blk} {n:Nat} {cs:List V} :frz bl (n+1) (.tup cs)=(cs.mapM (frz bl n)).map .tup:=by
 simp only[frz]
 split
 ·rename_i h;rw[tC h];rfl
 ·rfl
theorem qH {bl:Int→Option Blk} {n sz:Nat} {g:Int} {e:List V} (hb:bl g=some ⟨sz,[e]⟩):frz bl (n+1) (.loc g sz 0 0)=(e.mapM (frz bl n)).map .ptr:=by
 simp only[frz,hb]
 simp only[if_true,List.getElem?_cons_zero,List.drop_zero]
 split
 ·rename_i h;rw[tC h];rfl
 ·rfl
theorem jC {bl:Int→Option Blk} {n sz:Nat} {g:Int} {els:List (List V)} (h0:0≤g) (hb:bl g=some ⟨sz,els⟩):frz bl (n+1) (.lsl g sz 0 els.length)=(els.mapM (fun e:List V=>e.mapM (frz bl n))).map .sl:=by
 simp only[frz,hb]
 rw[if_neg (by omega),if_pos (by simp)]
 simp only[List.drop_zero,List.take_length]
 split
 ·rename_i h;rw[iH h];rfl
 ·rfl
mutual
def D.dep :Nat→D→Prop
 | _, .c _ => True
 | n, .s _ rows => 1 ≤ n ∧ D.depR (n - 1) rows
 | n, .p row => 1 ≤ n ∧ D.depL (n - 1) row
 | n, .a cs => 1 ≤ n ∧ D.depL (n - 1) cs
 | n, .t cs => 1 ≤ n ∧ D.depL (n - 1) cs
def D.depL :Nat→List D→Prop
 | _, [] => True
 | n, d :: ds => d.dep n ∧ D.depL n ds
def D.depR :Nat→List (List D)→Prop
 | _, [] => True
 | n, r :: rs => D.depL n r ∧ D.depR n rs
end
mutual
theorem OwnD.frz {bl:Int→Option Blk} : ∀ {d:D} {n:Nat} {v:V} {gs:List Int},OwnD bl d v gs→d.dep n→Vm.frz bl n v=some d.fz
 | .c x, n, v, gs, h, _ => by rw [OwnD] at h; rw [h.1, Q2 h.2.1, D.fz]
 | .s sz rows, n, v, gs, h, hn => by
   rw[OwnD] at h;rw[D.dep] at hn;rw[D.fz]
   obtain⟨n,rfl⟩: ∃m,n=m+1:=⟨n - 1,by omega⟩
   rw[Nat.add_sub_cancel] at hn
   rcases h with ⟨rfl,rfl,_⟩| ⟨g0,els,gs',h1,h2,h3,h4,h5,h6⟩
   ·simp[Vm.frz,D.fzR]
   ·have hl:=OwnR.length h6
    rw[h1,←hl]
    rcases Int.lt_or_le g0 0 with hg | hg
    ·have:=h5 hg
     subst this
     have:rows= []:=List.eq_nil_of_length_eq_zero (by simpa using hl.symm)
     subst this
     simp[Vm.frz,hg,D.fzR]
    ·rw[jC hg h4,OwnR.frz h6 hn.2];rfl
 | .p row, n, v, gs, h, hn => by
   rw[OwnD] at h;rw[D.dep] at hn;rw[D.fz]
   obtain⟨n,rfl⟩: ∃m,n=m+1:=⟨n - 1,by omega⟩
   rw[Nat.add_sub_cancel] at hn
   obtain⟨g0,e,gs',h1,h2,h3,h0,h4,h5⟩:=h
   rw[h1,qH h4,OwnL.frz h5 hn.2];rfl
 | .a cs, n, v, gs, h, hn => by
   rw[OwnD] at h;rw[D.dep] at hn;rw[D.fz]
   obtain⟨n,rfl⟩: ∃m,n=m+1:=⟨n - 1,by omega⟩
   rw[Nat.add_sub_cancel] at hn
   obtain⟨vs,h1,h2⟩:=h
   rw[h1,qU,OwnL.frz h2 hn.2];rfl
 | .t cs, n, v, gs, h, hn => by
   rw[OwnD] at h;rw[D.dep] at hn;rw[D.fz]
   obtain⟨n,rfl⟩: ∃m,n=m+1:=⟨n - 1,by omega⟩
   rw[Nat.add_sub_cancel] at hn
   obtain⟨vs,h1,h2⟩:=h
   rw[h1,Hi,OwnL.frz h2 hn.2];rfl
theorem OwnL.frz {bl:Int→Option Blk} : ∀ {ds:List D} {n:Nat} {vs:List V} {gs:List Int},OwnL bl ds vs gs→D.depL n ds→vs.mapM (Vm.frz bl n)=some (D.fzL ds)
 | [], n, vs, gs, h, _ => by rw [OwnL] at h; rw [h.1, D.fzL]; rfl
 | d :: ds, n, vs, gs, h, hn => by
   rw[OwnL] at h;rw[D.depL] at hn;rw[D.fzL]
   obtain⟨v,vs',g1,g2,h1,h2,h3,h4,h5⟩:=h
   rw[h1,List.mapM_cons,OwnD.frz h4 hn.1,OwnL.frz h5 hn.2];rfl
theorem OwnR.frz {bl:Int→Option Blk} {sz:Nat} : ∀ {rs:List (List D)} {n:Nat} {els:List (List V)} {gs:List Int},OwnR bl sz rs els gs→D.depR n rs→els.mapM (fun e:List V=>e.mapM (Vm.frz bl n))=some (D.fzR rs)
 | [], n, vs, gs, h, _ => by rw [OwnR] at h; rw [h.1, D.fzR]; rfl
 | r :: rs, n, els, gs, h, hn => by
   rw[OwnR] at h;rw[D.depR] at hn;rw[D.fzR]
   obtain⟨e,lO,g1,g2,h1,h2,h3,h4,h4',h5,h6⟩:=h
   rw[h1,List.mapM_cons,OwnL.frz h5 hn.1,OwnR.frz h6 hn.2];rfl
end
mutual
def V.ow :V→Bool
 | .bool _ | .int _ _ | .str _ | .nilp | .nils | .sle | .lsl _ _ _ _ | .loc _ _ _ _ => true
 | .agg vs => V.owL vs
 | .tup vs => V.owL vs
 | _ => false
def V.owL :List V→Bool
 | [] => true
 | v :: vs => v.ow && V.owL vs
end
theorem P1 : ∀ {vs:List V},V.owL vs=true→ ∀v,v∈vs→v.ow=true
 | [], _, v, hv => by cases hv
 | x :: vs, h, v, hv => by
   rw[V.owL,Bool.and_eq_true] at h
   rcases List.mem_cons.1 hv with rfl | hv
   ·exact h.1
   ·exact P1 h.2 v hv
theorem Ek : ∀ {vs:List V},(∀v,v∈vs→v.ow=true)→V.owL vs=true
 | [], _ => by rw [V.owL]
 | x :: vs, h => by
   rw[V.owL,Bool.and_eq_true]
   exact⟨h x List.mem_cons_self,Ek fun v hv=>h v (List.mem_cons_of_mem _ hv)⟩
section
variable {P : Program} {w0 : World} {M F : Nat → Prop} {w : World} {bl : Int → Option Blk}
theorem Mw {G:Nat→Prop} {x:V} {v:Value} (hx:x.ow=true) (h:Rep F w x v):Rep G w x v:=by
 induction h with
 | agg cs arr hlen hr ih => rw [V.ow] at hx; exact .agg cs arr hlen fun i x h => ih i x h (P1 hx x (List.mem_of_getElem? h))
 | tup cs arr hlen hr ih => rw [V.ow] at hx; exact .tup cs arr hlen fun i x h => ih i x h (P1 hx x (List.mem_of_getElem? h))
 | loc g sz k j => exact .loc g sz k j
 | lsl g sz o n cap hg hle jT hb => exact .lsl g sz o n cap hg hle jT hb
 | lsln g sz hg => exact .lsln g sz hg
 | bool b => exact .bool b
 | int k n => exact .int k n
 | str s => exact .str s
 | nilp => exact .nilp
 | nils => exact .nils
 | sle a cap => exact .sle a cap
 | _ => simp [V.ow] at hx
mutual
def D.sc :D→Bool
 | .c x => x.ow
 | .s _ rows => D.scR rows
 | .p row => D.scL row
 | .a cs => D.scL cs
 | .t cs => D.scL cs
def D.scL :List D→Bool
 | [] => true
 | d :: ds => d.sc && D.scL ds
def D.scR :List (List D)→Bool
 | [] => true
 | r :: rs => D.scL r && D.scR rs
end
def owB (bl:Int→Option Blk) (g:Int):Prop:= ∃sz els,bl g=some ⟨sz,els⟩∧ ∀e,e∈els→ ∀x,x∈e→x.ow=true
mutual
theorem OwnD.ow : ∀ {d:D} {v:V} {gs:List Int},OwnD bl d v gs→d.sc=true→v.ow=true∧ ∀g,g∈gs→owB bl g
 | .c x, v, gs, h, hs => by
   rw[OwnD] at h;rw[D.sc] at hs
   obtain⟨rfl,h2,rfl⟩:=h
   exact⟨hs,fun g hg=>by cases hg⟩
 | .s sz rows, v, gs, h, hs => by
   rw[OwnD] at h;rw[D.sc] at hs
   rcases h with ⟨rfl,rfl,rfl⟩| ⟨g0,els,gs',rfl,rfl,h3,h4,h5,h6⟩
   ·exact⟨by rw[V.ow],fun g hg=>by cases hg⟩
   ·obtain⟨k1,k2⟩:=OwnR.ow h6 hs
    refine⟨by rw[V.ow],fun g hg=> ?_⟩
    rcases List.mem_cons.1 hg with rfl | hg
    ·exact⟨sz,els,h4,k1⟩
    ·exact k2 g hg
 | .p row, v, gs, h, hs => by
   rw[OwnD] at h;rw[D.sc] at hs
   obtain⟨g0,e,gs',rfl,rfl,h3,h0,h4,h5⟩:=h
   obtain⟨k1,k3⟩:=OwnL.ow h5 hs
   refine⟨by rw[V.ow],fun g hg=> ?_⟩
   rcases List.mem_cons.1 hg with rfl | hg
   ·exact⟨_,_,h4,fun e' he'=>by
     obtain rfl:e'=e:=by simpa using he'
     exact k1⟩
   ·exact k3 g hg
 | .a cs, v, gs, h, hs => by
   rw[OwnD] at h;rw[D.sc] at hs
   obtain⟨vs,rfl,h2⟩:=h
   obtain⟨k1,k3⟩:=OwnL.ow h2 hs
   exact⟨by rw[V.ow];exact Ek k1,k3⟩
 | .t cs, v, gs, h, hs => by
   rw[OwnD] at h;rw[D.sc] at hs
   obtain⟨vs,rfl,h2⟩:=h
   obtain⟨k1,k3⟩:=OwnL.ow h2 hs
   exact⟨by rw[V.ow];exact Ek k1,k3⟩
theorem OwnL.ow : ∀ {ds:List D} {vs:List V} {gs:List Int},OwnL bl ds vs gs→D.scL ds=true→(∀x,x∈vs→x.ow=true)∧ ∀g,g∈gs→owB bl g
 | [], vs, gs, h, _ => by
   rw[OwnL] at h
   obtain⟨rfl,rfl⟩:=h
   exact⟨fun x hx=>(by cases hx),fun g hg=>by cases hg⟩
 | d :: ds, vs, gs, h, hs => by
   rw[OwnL] at h;rw[D.scL,Bool.and_eq_true] at hs
   obtain⟨v,vs',g1,g2,rfl,rfl,h3,h4,h5⟩:=h
   obtain⟨a1,a4⟩:=OwnD.ow h4 hs.1
   obtain⟨b1,b3⟩:=OwnL.ow h5 hs.2
   refine⟨fun x hx=> ?_,fun g hg=> ?_⟩
   ·rcases List.mem_cons.1 hx with rfl | hx
    ·exact a1
    ·exact b1 x hx
   ·rcases List.mem_append.1 hg with hg | hg
    ·exact a4 g hg
    ·exact b3 g hg
theorem OwnR.ow {sz:Nat} : ∀ {rs:List (List D)} {els:List (List V)} {gs:List Int},OwnR bl sz rs els gs→D.scR rs=true→(∀e,e∈els→ ∀x,x∈e→x.ow=true)∧ ∀g,g∈gs→owB bl g
 | [], vs, gs, h, _ => by
   rw[OwnR] at h
   obtain⟨rfl,rfl⟩:=h
   exact⟨fun e he=>(by cases he),fun g hg=>by cases hg⟩
 | r :: rs, els, gs, h, hs => by
   rw[OwnR] at h;rw[D.scR,Bool.and_eq_true] at hs
   obtain⟨e,lO,g1,g2,rfl,rfl,h3,h4,h4',h5,h6⟩:=h
   obtain⟨a1,a3⟩:=OwnL.ow h5 hs.1
   obtain⟨b1,b2⟩:=OwnR.ow h6 hs.2
   refine⟨fun e' he=> ?_,fun g hg=> ?_⟩
   ·rcases List.mem_cons.1 he with rfl | he
    ·exact a1
    ·exact b1 e' he
   ·rcases List.mem_append.1 hg with hg | hg
    ·exact a3 g hg
    ·exact b2 g hg
end
theorem Mem.sub {bl2:Int→Option Blk} (h:Mem w0 M F bl w) (hs:Sub bl2 bl):Mem w0 M F bl2 w:=by
 refine⟨h.os,h.tape,h.output,h.size,h.frame,h.jA,h.fr,?_,fun g b hb=>h.own g b (hs g b hb),fun g b hb=>h.blk g b (hs g b hb)⟩
 obtain⟨n,hn⟩:=h.fin
 refine⟨n,fun g hg=> ?_⟩
 cases hb:bl2 g with
 | none => rfl
 | some b => have := hs g b hb; rw [hn g hg] at this; cases this
def Made (bl:Int→Option Blk) (d:D) (v:V) (bl':Int→Option Blk):Prop:= ∃gs,OwnD bl' d v gs∧(∀g,g∈gs→bl g=none)∧ ∀g,g∉gs→bl' g=bl g
def NW (P:Program) (f:FuncId) (xs:List V) (d:D):Prop:= ∀bl,bW P f xs bl (Made bl d)
def Ry (bl:Int→Option Blk) (d:D) (v:V) (bl':Int→Option Blk):Prop:= ∃gs,OwnD bl' d v gs∧(∀g,g∈gs→bl g=none)∧Sub bl bl'
theorem sU {f:FuncId} {xs:List V} {d:D} (h:bW P f xs bl (Ry bl d)):bW P f xs bl (Made bl d):=
 ⟨h.1,fun w0 M F w vs hm hr=>(h.2 w0 M F w vs hm hr).mono fun e w' ⟨v,x,bl',F',h1,h2,h3,h4,h5,h6,gs,h7,h8,h9⟩=>by
   refine⟨v,x,fun g=>if g∈gs then bl' g else bl g,F',h1,h2,h3,h4,h5.sub fun g b hb=> ?_,h6,gs,h7.frame fun g hg=>by simp[hg],h8,fun g hg=>by simp[hg]⟩
   split at hb
   ·exact hb
   ·exact h9 g b hb⟩
theorem iX {f : FuncId} {fn : Func} {c : Code} {xs : List V} {d : D} (hf : P.funcs[f]? = some fn) (hb : fn.body = some c) (hn : (fn.name == "runtime.NumGoroutine") = false) (hl : xs.length ≤ fn.ntmps)
  (h: ∀bl,AW P c (Q9 P fn.results.toList (Ry bl d)) ⟨fn.ntmps,fun t=>xs.getD t .junk,bl⟩):NW P f xs d:=fun bl=>sU (bO hf hb hn hl (h bl))
theorem gH {rs:List ResultVar} {d:D} {σ:St} (vs:List V) (gs:List Int) (h:resV P σ rs=some vs) (ho:OwnD σ.bl d (retV vs) gs) (hf: ∀g,g∈gs→bl g=none) (hs:Sub bl σ.bl):
  Q9 P rs (Ry bl d) .ret σ:=by rw[bH];exact⟨vs,h,gs,ho,hf,hs⟩
theorem cK {f:FuncId} {xs:List V} {d:D} {k:V→(Int→Option Blk)→Prop} (h:NW P f xs d)
  (hk: ∀v gs bl',OwnD bl' d v gs→(∀g,g∈gs→bl g=none)→(∀g,g∉gs→bl' g=bl g)→k v bl'):bW P f xs bl k:=
 (h bl).mono fun v bl' ⟨gs,h1,h2,h3⟩=>hk v gs bl' h1 h2 h3
theorem Made.sub {d:D} {v:V} {gs:List Int} {bl':Int→Option Blk} (h2: ∀g,g∈gs→bl g=none) (h3: ∀g,g∉gs→bl' g=bl g):Sub bl bl':=fun g b hb=>by
 rw[h3 g (fun hg=>by rw[h2 g hg] at hb;cases hb)];exact hb
theorem jE {f:FuncId} {xs:List V} {d:D} (n:Nat) (h:NW P f xs d) (hn:d.dep n):RO P f xs d.fz:=fun bl=>
 nE ((h bl).mono fun v bl' ⟨gs,h1,h2,h3⟩=>⟨n,(OwnD.frame h1 fun g hg=>by unfold dropB;rw[h2 g hg]).frz hn,Made.sub (d:=d) (v:=v) h2 h3⟩) ⟨rfl,rfl⟩
theorem Cr {f:FuncId} {xs ys:List V} {d:D} {k:V→(Int→Option Blk)→Prop} (n:Nat) (hx:frzL bl n xs=some ys) (h:NW P f ys d) (hd:d.sc=true)
  (hk: ∀v gs bl',OwnD bl' d v gs→(∀g,g∈gs→bl g=none)→(∀g,g∉gs→bl' g=bl g)→k v bl'):bW P f xs bl k:=by
 have h0:=h (fun g=>if g<0 then bl g else none)
 refine⟨h0.1,fun w0 M F w vs hm cE=> ?_⟩
 have jG:Sub (fun g=>if g<0 then bl g else none) bl:=fun g b hb=>by
  simp only at hb;split at hb
  ·exact hb
  ·cases hb
 have hm1:=hm.start.freeze jG
 have Ia: ∀g b,bl g=some b→0≤g→(F g.toNat∨Own (dropB bl fun g=>if g<0 then bl g else none) g.toNat):=fun g b hb h0=>
  .inr ⟨g,b,by unfold dropB;simp only;rw[if_neg (by omega)];exact hb,h0,rfl⟩
 have hlen:=uC hx
 have uA:Jw (fun k=>F k∨Own (dropB bl fun g=>if g<0 then bl g else none) k) w ys vs:=by
  refine⟨by rw[cE.1,hlen.1],fun i y hy=> ?_⟩
  obtain⟨x,h1,h2⟩:=hlen.2 i y hy
  exact kU (fun g b hb=>hm.blk g b hb) Ia (fun b hb=> .inl hb) n x y _ (cE.2 i x h1) h2
 refine(h0.2 w (Own bl) _ w vs hm1 uA).mono fun e w' ⟨v,x,bl',F',h1,h2,h3,h4,h5,h6,gs,h7,h8,h9⟩=> ?_
 have hF: ∀b,F b→w'.heap[b]? =w.heap[b]? :=fun b hb=>h3 b (.inl hb)
 have hO: ∀g b,bl g=some b→0≤g→w'.heap[g.toNat]? =w.heap[g.toNat]? :=fun g b hb h0=>h3 _ (Ia g b hb h0)
 obtain⟨k1,k2⟩:=h7.ow hd
 have A4: ∀g,g∈gs→bl g=none:=fun g hg=>by
  have h10:=h8 g hg
  simp only at h10
  split at h10
  ·exact h10
  ·rename_i hg0
   cases hb:bl g with
   | none => rfl
   | some b =>
     obtain⟨b',hb'⟩:=h7.has g hg
     have:=h5.blk g b' hb'
     unfold cY at this
     rw[if_neg hg0] at this
     exact absurd (h2 _ (Ia g b hb (by omega))) this.1
 refine⟨v,x,fun g=>if g∈gs then bl' g else bl g,F,h1,fun _ h=>h,hF,h4,?_,Mw k1 h6,hk x gs _ (h7.frame fun g hg=>by simp[hg]) A4 fun g hg=>by simp[hg]⟩
 refine hm.step h5.os h5.tape h5.output h5.size h4 (fun k=>Own bl k) (fun k hk hX=>h5.frame k hk hX) (fun k hk=>by obtain⟨g,b,hb,h0,rfl⟩:=hk;exact hm.own g b hb h0)
  (fun k hk=>Nat.lt_of_lt_of_le (hm.fr k hk) h5.size) ?_ fun g b hb=> ?_
 ·obtain⟨n1,hn1⟩:=hm.fin
  obtain⟨n2,hn2⟩:=h5.fin
  refine⟨min n1 n2,fun g hg=> ?_⟩
  split
  ·exact hn2 g (by omega)
  ·exact hn1 g (by omega)
 ·split at hb
  ·rename_i hg
   have hB:=h5.blk g b hb
   refine⟨fun h0=> ?_,?_⟩
   ·rcases h5.own g b hb h0 with h11 | ⟨g',b',hb',h0',he⟩
    ·exact .inl (Nat.le_trans hm.size h11)
    ·have:g'=g:=by omega
     subst this
     rw[A4 g' hg] at hb';cases hb'
   ·unfold cY at hB ⊢
    split
    ·rename_i hg0;rw[if_pos hg0] at hB;exact hB
    ·rename_i hg0
     rw[if_neg hg0] at hB
     obtain⟨c1,c,t,c2,c3,c4⟩:=hB
     refine⟨fun hFg=>c1 (h2 _ (.inl hFg)),c,t,c2,c3,fun k e he=>⟨(c4 k e he).1,fun j y hy=> ?_⟩⟩
     obtain⟨c5,u,c6,c7⟩:=(c4 k e he).2 j y hy
     obtain⟨sz,els,c8,c9⟩:=k2 g hg
     rw[hb] at c8
     cases c8
     exact⟨c5,u,c6,Mw (c9 e (List.mem_of_getElem? he) y (List.mem_of_getElem? hy)) c7⟩
  ·refine⟨hm.own g b hb,?_⟩
   refine(hm.blk g b hb).mono (fun _ h=>h) (fun h0 hFg=> ?_) hF h4 (fun h0=>hO g b hb h0)
   have:=hm.blk g b hb
   unfold cY at this
   rw[if_neg (by omega)] at this
   exact this.1 hFg
end
theorem aQ {bl bl':Int→Option Blk} {g:Int} (hs:Sub bl bl') (h:bl' g=none):bl g=none:=by
 cases hb:bl g with
 | none => rfl
 | some b => have := hs g b hb; rw [h] at this; cases this
@[simp] theorem aPH {bl bl' : Int → Option Blk} {g : Int} (h : bl g = none) : Sub bl (rem bl' g) = Sub bl bl' := by
 apply propext
 constructor
 ·intro hs g' b' hb
  have:=hs g' b' hb
  unfold rem at this
  split at this
  ·cases this
  ·exact this
 ·intro hs;exact hs.rem h
@[simp] theorem aF (f : Int → Option Blk) (g x : Int) : rem f g x = if x = g then none else f x := rfl
theorem X5 {bl bl':Int→Option Blk} {g:Int} {b:Option Blk} (hs:Sub bl bl'):Sub (upd bl g b) (upd bl' g b):=fun g' b' hb=>by
 rw[aA] at hb ⊢
 split
 ·rename_i h;rw[if_pos h] at hb;exact hb
 ·rename_i h;rw[if_neg h] at hb;exact hs g' b' hb
theorem dK {bl bl':Int→Option Blk} {g:Int} {sz:Nat} {els lO:List (List V)} (he:els=lO) (hs:Sub bl bl'):Sub (upd bl g (some ⟨sz,els⟩)) (upd bl' g (some ⟨sz,lO⟩)):=by
 subst he;exact X5 hs
theorem cP {P:Program} {c:Code} {K:Ex→St→Prop} {σ:St} (n t:Nat) (v:V) (bl2:Int→Option Blk) (hs:Sub bl2 σ.bl) (hv:frz (dropB σ.bl bl2) n (σ.sl t)=some v) (h:AW P c K ⟨σ.n,upd σ.sl t v,bl2⟩):AW P c K σ:=by
 refine aCG n _ bl2 hs (fun t'=> ?_) h
 by_cases e:t'=t
 ·subst e;right;rw[aY];exact hv
 ·left;exact aG _ _ _ _ e
theorem yZ {P:Program} {f:FuncId} {post:List V} {bl:Int→Option Blk} {k:V→(Int→Option Blk)→Prop} (h1:bW P f (.nils::post) bl k) (h2:bW P f (.sle::post) bl k):bW P f (.sl []::post) bl k:=by
 refine⟨h1.1,fun w0 M F w vs hm hr=> ?_⟩
 have key: ∀v,(∀w,Rep F w (.sl []) v→Rep F w .nils v∨Rep F w .sle v):=by
  intro v w h
  generalize hx:V.sl []=x at h
  cases h<;>cases hx
  ·rename_i a cap ha
   cases a with
   | none => rw [ha rfl]; exact .inl .nils
   | some a => exact .inr (.sle a cap)
  ·exact .inr (.sle _ _)
 have h0:=hr.2 0 _ rfl
 have put: ∀y,Rep F w y (vs.getD 0 undef)→Jw F w (y::post) vs:=fun y hy=>⟨by rw[hr.1];rfl,fun i x hx=>by
  cases i with
  | zero => cases hx; exact hy
  | succ i => exact hr.2 (i + 1) x (by simpa using hx)⟩
 rcases key _ w h0 with h | h
 ·exact h1.2 w0 M F w vs hm (put _ h)
 ·exact h2.2 w0 M F w vs hm (put _ h)
theorem dC {P:Program} {c:Code} {K:Ex→St→Prop} {σ:St} {g:Int} {s:Nat} {els:List (List V)} {e:List V} (k j sz:Nat) (hb:σ.bl g=some ⟨s,els⟩) (he:els[k]? =some e) (hj:e[j]? =some .nils)
  (h: ∀g':Int,σ.bl g'=none→g'≠g→AW P c K ⟨σ.n,σ.sl,upd (upd σ.bl g (some ⟨s,els.set k (e.set j (.lsl g' sz 0 0))⟩)) g' (some ⟨sz,[]⟩)⟩):AW P c K σ:=by
 intro w0 M F a w hs
 obtain⟨g',hg0,hgn,hm⟩:=hs.mem.ghost sz
 have hne:g'≠g:=fun h=>by rw[h,hb] at hgn;cases hgn
 have hB:=hs.mem.blk g _ hb
 unfold cY at hB
 have hge: ¬ g<0:=fun h=>by rw[if_pos h] at hB;simp only at hB;rw[hB] at he;cases he
 rw[if_neg hge] at hB
 obtain⟨h1,cs,t,h2,h3,h4⟩:=hB
 refine h g' hgn hne w0 M F a w ⟨?_,hs.size,hs.sl,hs.defers⟩
 have hkl:=(List.getElem?_eq_some_iff.1 he).1
 have hjl:=(List.getElem?_eq_some_iff.1 hj).1
 refine⟨hm.os,hm.tape,hm.output,hm.size,hm.frame,hm.jA,hm.fr,?_,fun x b hx h0=> ?_,fun x b hx=> ?_⟩
 ·obtain⟨n,hn⟩:=hm.fin
  refine⟨min n 0,fun x hx=> ?_⟩
  have:=hn x (by omega)
  show upd _ _ _ x=none
  simp only[aA] at this ⊢
  split
  ·rename_i hh;rw[if_pos hh] at this;exact this
  ·rename_i hh
   rw[if_neg hh] at this
   rw[if_neg (by omega)];exact this
 ·by_cases hxg:x=g
  ·subst hxg;exact hs.mem.own x _ hb h0
  ·refine hm.own x b ?_ h0
   simp only[aA] at hx ⊢
   rw[if_neg hxg] at hx
   exact hx
 ·by_cases hxg:x=g
  ·subst hxg
   simp only[aA] at hx
   rw[if_neg (Ne.symm hne),if_pos trivial] at hx
   cases hx
   unfold cY
   rw[if_neg hge]
   refine⟨h1,cs,t,h2,by simpa using h3,fun k' e' he'=> ?_⟩
   simp only at he' ⊢
   by_cases hkk:k'=k
   ·subst hkk
    rw[List.getElem?_set_self hkl] at he'
    cases he'
    obtain⟨h5,h6⟩:=h4 k' e he
    refine⟨by rw[List.length_set];exact h5,fun j' x' hx'=> ?_⟩
    by_cases hjj:j'=j
    ·subst hjj
     rw[List.getElem?_set_self hjl] at hx'
     cases hx'
     obtain⟨h7,v,h8,h9⟩:=h6 j' _ hj
     refine⟨rfl,v,h8,?_⟩
     cases h9
     exact .lsln g' sz hg0
    ·rw[List.getElem?_set_ne (Ne.symm hjj)] at hx'
     exact h6 j' x' hx'
   ·rw[List.getElem?_set_ne (Ne.symm hkk)] at he'
    exact h4 k' e' he'
  ·refine hm.blk x b ?_
   simp only[aA] at hx ⊢
   rw[if_neg hxg] at hx
   exact hx
def fl (sz:Nat) (rows:List (List V)):D:= .s sz (rows.map fun r=>r.map .c)
theorem aOB (r:List V):D.fzL (r.map .c)=r:=by
 rw[xY,List.map_map]
 conv=>rhs;rw[←List.map_id r]
 exact List.map_congr_left fun x _=>by simp[D.fz]
@[simp] theorem aJW (sz : Nat) (rows : List (List V)) : (fl sz rows).fz = .sl rows := by
 unfold fl
 rw[D.fz,P8,List.map_map]
 congr 1
 conv=>rhs;rw[←List.map_id rows]
 exact List.map_congr_left fun r _=>by
  show List.map D.fz (r.map .c)=r
  rw[←xY,aOB]
theorem Mt (n:Nat): ∀(r:List V),D.depL n (r.map .c)
 | [] => by simp [D.depL]
 | x :: r => by simp [D.depL, D.dep, Mt n r]
theorem Ot (n:Nat): ∀(rows:List (List V)),D.depR n (rows.map fun r=>r.map .c)
 | [] => by simp [D.depR]
 | r :: rs => by simp [D.depR, Mt, Ot n rs]
theorem kZ (sz:Nat) (rows:List (List V)) (n:Nat):(fl sz rows).dep (n+1):=by
 unfold fl
 rw[D.dep]
 exact⟨by omega,Ot _ _⟩
theorem Wy : ∀(r:List V),r.all V.ow=true→D.scL (r.map .c)=true
 | [], _ => by simp [D.scL]
 | x :: r, h => by
   simp only[List.all_cons,Bool.and_eq_true] at h
   simp[D.scL,D.sc,h.1,Wy r h.2]
theorem Xn {sz:Nat} : ∀ {rows:List (List V)},rows.all (fun r=>r.all V.ow)=true→(fl sz rows).sc=true
 | [], _ => by simp [fl, D.sc, D.scR]
 | r :: rows, h => by
   simp only[List.all_cons,Bool.and_eq_true] at h
   have:=Xn (sz:=sz) h.2
   unfold fl at this ⊢
   rw[D.sc] at this ⊢
   rw[List.map_cons,D.scR,Wy r h.1,this];rfl
theorem V.Ip {x:V} (h:x.cl=true):x.one=true:=by cases x<;>first | rfl | (simp[V.cl] at h)
theorem vR {bl:Int→Option Blk} : ∀ {r vs:List V} {gs:List Int},r.all V.cl=true→(OwnL bl (r.map .c) vs gs ↔ vs=r∧gs= [])
 | [], vs, gs, _ => by rw [List.map_nil, OwnL]
 | x :: r, vs, gs, h => by
   simp only[List.all_cons,Bool.and_eq_true] at h
   rw[List.map_cons,OwnL]
   constructor
   ·rintro⟨v,vs',g1,g2,rfl,rfl,_,h1,h2⟩
    rw[OwnD] at h1
    obtain⟨rfl,_,rfl⟩:=h1
    obtain⟨rfl,rfl⟩:=(vR h.2).1 h2
    exact⟨rfl,rfl⟩
   ·rintro⟨rfl,rfl⟩
    exact⟨x,r,[],[],rfl,rfl,fun g hg=>(by cases hg),by rw[OwnD];exact⟨rfl,h.1,rfl⟩,(vR h.2).2 ⟨rfl,rfl⟩⟩
theorem S2 {bl:Int→Option Blk} {sz:Nat} : ∀ {rows els:List (List V)} {gs:List Int},rows.all (fun r=>r.all V.cl)=true→(∀r,r∈rows→r.length=sz)→(OwnR bl sz (rows.map fun r=>r.map .c) els gs ↔ els=rows∧gs= [])
 | [], els, gs, _, _ => by rw [List.map_nil, OwnR]
 | r :: rows, els, gs, h, hl => by
   simp only[List.all_cons,Bool.and_eq_true] at h
   rw[List.map_cons,OwnR]
   constructor
   ·rintro⟨e,lO,g1,g2,rfl,rfl,_,_,_,h1,h2⟩
    obtain⟨rfl,rfl⟩:=(vR h.1).1 h1
    obtain⟨rfl,rfl⟩:=(S2 h.2 fun r hr=>hl r (List.mem_cons_of_mem _ hr)).1 h2
    exact⟨rfl,rfl⟩
   ·rintro⟨rfl,rfl⟩
    exact⟨r,rows,[],[],rfl,rfl,fun g hg=>(by cases hg),hl r List.mem_cons_self,List.all_eq_true.2 fun x hx=>V.Ip (List.all_eq_true.1 h.1 x hx),(vR h.1).2 ⟨rfl,rfl⟩,(S2 h.2 fun r hr=>hl r (List.mem_cons_of_mem _ hr)).2 ⟨rfl,rfl⟩⟩
theorem uR {bl:Int→Option Blk} {sz:Nat} {rows:List (List V)} {v:V} {gs:List Int} (h:rows.all (fun r=>r.all V.cl)=true) (hl: ∀r,r∈rows→r.length=sz):
  OwnD bl (fl sz rows) v gs ↔ (rows= []∧v= .nils∧gs= [])∨ ∃g,v= .lsl g sz 0 rows.length∧gs= [g]∧bl g=some ⟨sz,rows⟩∧(g<0→rows= []):=by
 unfold fl
 rw[OwnD]
 constructor
 ·rintro(⟨h1,h2,h3⟩| ⟨g,els,gs',h1,h2,h3,h4,h5,h6⟩)
  ·exact .inl ⟨by simpa using h1,h2,h3⟩
  ·obtain⟨rfl,rfl⟩:=(S2 h hl).1 h6
   exact .inr ⟨g,by simpa using h1,h2,h4,h5⟩
 ·rintro(⟨h1,h2,h3⟩| ⟨g,h1,h2,h4,h5⟩)
  ·exact .inl ⟨by simpa using h1,h2,h3⟩
  ·exact .inr ⟨g,rows,[],by simpa using h1,h2,by simp,h4,h5,(S2 h hl).2 ⟨rfl,rfl⟩⟩
end Go.Proofs.YticmgmemnpcbbaaGreat.Vm

namespace Go.Proofs.YticmgmemnpcbbaaGreat.Vm
open Go Go.Proofs
set_option linter.unusedSimpArgs false
set_option linter.unusedVariables false
theorem U6 (ns:List Int): ∀r,r∈iv ns→r.length=1:=by
 intro r hr
 obtain⟨n,_,rfl⟩:=List.mem_map.1 hr
 rfl
theorem aHU (ns:List Int):(iv ns).all (fun r=>r.all V.ow)=true:=by simp[iv,V.ow]
theorem aV (a b:List Int):iv (a++b)=iv a++iv b:=by simp[iv]
theorem dN (ns:List Int):(iv ns).take ns.length=iv ns:=by rw[←jX ns,List.take_length]
theorem dE {bl:Int→Option Blk} {ns:List Int} {v:V} {gs:List Int} :OwnD bl (fl 1 (iv ns)) v gs ↔ (ns= []∧v= .nils∧gs= [])∨ ∃g,v= .lsl g 1 0 ns.length∧gs= [g]∧bl g=some ⟨1,iv ns⟩∧(g<0→ns= []):=by
 rw[uR (mZ ns) (U6 ns)]
 simp[iv]
def cA (js:List J) (n:Nat):List Int:=((List.range n).filter fun i=> !(js.getD i default).fixed).map fun(i:Nat)=>(i:Int)
def aP (js:List J):List Int:=cA js js.length
theorem kP (js:List J) (n:Nat):cA js (n+1)=cA js n++if(js.getD n default).fixed then [] else [(n:Int)]:=by
 unfold cA
 rw[List.range_succ,List.filter_append,List.map_append]
 congr 1
 cases h:(js.getD n default).fixed<;>simp only[List.filter_cons,List.filter_nil,h]<;>simp
theorem iQ (js:List J) (n:Nat):(cA js n).length≤n:=by
 unfold cA
 rw[List.length_map]
 exact Nat.le_trans (List.length_filter_le _ _) (by simp)
theorem Ha {α:Type} (xs:List α) (i:Nat) (d:α) (h:i<xs.length):xs.getD i d=xs[i]:=by simp[h]
theorem G6 (s:Str) (hj:s.js.length≤1048576):NW Tryz.prog 74 [.ptr s.c] (fl 1 (iv (aP s.js))):=by
 refine iX Tryz.func74 rfl rfl (by rw[Tryz.ntmps74];simp) fun bl=> ?_
 rw[Tryz.ntmps74,Tryz.results74]
 refine aC ?_
 simp[Str.c]
 refine uK 3 1 (by simp) fun g00 tY=> ?_
 refine aJ (fun p:Nat×Int=> [(3,.lsl p.2 1 0 (cA s.js p.1).length),(9,.sl (jv s.js)),(10,.int .i64 s.js.length),(11,.int .i64 p.1)]) (fun p=>upd bl p.2 (some ⟨1,iv (cA s.js p.1)⟩)) (fun p=>p.1≤s.js.length∧bl p.2=none∧(p.2<0→cA s.js p.1= [])) (fun p=>s.js.length - p.1) _ (0,g00) ⟨Nat.zero_le _,tY,fun _=>rfl⟩ ⟨rfl,by simp[cA],sub_eq (by simp[cA,iv])⟩ ?_
 rintro⟨i,g⟩ ⟨hi,hg,h0⟩
 simp only at hi hg h0
 have hl:=iQ s.js i
 refine aC ?_
 simp
 refine⟨fun h=> ?_,fun h=> ?_⟩
 ·simp[h,J.c]
  intro g1 hg1 h1g hb1
  refine⟨fun hf=> ?_,fun hf=> ?_⟩
  ·intro g2 hg2 h21 h2g hb2
   simp[h1g,h21,h2g,Ne.symm h1g,Ne.symm h21,Ne.symm h2g,appV,elsV,Int.not_lt.2 hg2]
   refine⟨by omega,fun g3 hg3 hb3=> ?_⟩
   have gG:bl g3=none:=by grind
   simp (disch:=omega) [i64_in,aB]
   have hjf:(s.js.getD i default).fixed=false:=by simpa [h] using hf
   have hs1:cA s.js (i+1)=cA s.js i++ [(i:Int)]:=by rw[kP,hjf];rfl
   refine⟨i+1,g3,⟨by omega,gG,by omega⟩,by omega,rfl,by simp[hs1],?_⟩
   rw[hs1,aV]
   exact dK (by rw[dN];rfl) (by simp[hg,hb1,hb2,h1g,h21,h2g])
  ·simp (disch:=omega) [i64_in,aB]
   have hjf:(s.js.getD i default).fixed=true:=by simpa [h] using hf
   have hs1:cA s.js (i+1)=cA s.js i:=by rw[kP,hjf];simp
   refine⟨i+1,g,⟨by omega,hg,by rw[hs1];exact h0⟩,by omega,rfl,by simp[hs1],?_⟩
   rw[hs1]
   simp[hb1,h1g]
 ·have hi:i=s.js.length:=by omega
  subst hi
  refine gH [.lsl g 1 0 (cA s.js s.js.length).length] [g] (by simp) ?_ (by simpa using hg) (by simp[hg])
  refine dE.2 (.inr ⟨g,rfl,rfl,by simp[aP],h0⟩)
end Go.Proofs.YticmgmemnpcbbaaGreat.Vm

namespace Go.Proofs.YticmgmemnpcbbaaGreat.Vm
open Go Go.RowKit
set_option linter.unusedVariables false
section
variable {P : Program} {ops : Array Oper} {w0 : World} {M F : Nat → Prop} {a : Act} {w : World}
def late (tl:Nat→Bool) (l:Array Bool) (i:Nat):Bool:=tl i || (List.range l.size).any fun k=>tl k && l.getD k false
def DL (P:Program) (ops:Array Oper) (blK:Int→Option Blk) (tl:Nat→Bool) (K:St→Prop):Nat→Array Bool→St→Prop
 | 0, l, σ => Region.ready .any ops l = [] ∧ K σ
 | fuel + 1, l, σ => (Region.ready .any ops l = [] → K σ) ∧ ∀ i ∈ Region.ready .any ops l, D1 P ops i (fun σ' => (late tl l i = false → Sub blK σ'.bl) ∧ DL P ops blK tl K fuel (l.setIfInBounds i true) σ') σ
theorem Y0 {blK:Int→Option Blk} {tl:Nat→Bool} {K:St→Prop} {Q:Exit→Act→World→Prop} {F0:Nat→Prop} (hQ: ∀σ F a w,(∀b,F0 b→F b)→Sim w0 M F σ a w→K σ→Q .normal a w):
  ∀(fuel:Nat) (l:Array Bool) (σ:St) (F:Nat→Prop) (a:Act) (w:World),(∀b,F0 b→F b)→DL P ops blK tl K fuel l σ→Sim w0 M F σ a w→wpAny P .any ops Q fuel l a w
 | 0, l, σ, F, a, w, hF, h, hs => ⟨h.1, hQ σ F a w hF hs h.2⟩
 | fuel + 1, l, σ, F, a, w, hF, h, hs => ⟨fun h0 => hQ σ F a w hF hs (h.1 h0), fun i hi => Ci (h.2 i hi) hs fun σ' F' a' w' hF' hs' hk => Y0 hQ fuel _ σ' F' a' w' (fun b hb => hF' b (hF b hb)) hk.2 hs'⟩
theorem Bi {id:Nat} {K:Ex→St→Prop} {σ:St} (hm:P.follows .mixedOrders=true) (blK:Int→Option Blk) {tl:Nat→Bool} (h:DL P ops blK tl (K .normal) ops.size (Array.replicate ops.size false) σ):AW P (.region id ops true) K σ:=by
 intro w0 M F a w hs
 refine wp_region_any hm (Y0 (F0:=F) (w0:=w0) (M:=M) (fun σ' F' a' w' hF' hs' hK=>⟨.normal,σ',F',rfl,hF',hs',hK⟩) _ _ σ F a _ (fun _ h=>h) h ?_)
 have hsh:eY w { w with drawn:=w.drawn+1 } :=fun b c t f hc=>⟨c,f,hc,rfl⟩
 refine⟨⟨hs.mem.os,hs.mem.tape,hs.mem.output,hs.mem.size,hs.mem.frame,hs.mem.jA,hs.mem.fr,hs.mem.fin,hs.mem.own,fun g b hb=> ?_⟩,hs.size,fun t ht=> ?_,hs.defers⟩
 ·have hh: ∀b,F b→({ w with drawn:=w.drawn+1 } :World).heap[b]? =w.heap[b]? :=fun _ _=>rfl
  have hg:0≤g→({ w with drawn:=w.drawn+1 } :World).heap[g.toNat]? =w.heap[g.toNat]? :=fun _=>rfl
  refine cY.mono (fun _ h=>h) (fun h0 hFg=> ?_) hh hsh hg (hs.mem.blk g b hb)
  have:=hs.mem.blk g b hb
  unfold cY at this
  rw[if_neg (by omega)] at this
  exact this.1 hFg
 ·have hh: ∀b,F b→({ w with drawn:=w.drawn+1 } :World).heap[b]? =w.heap[b]? :=fun _ _=>rfl
  exact Rep.mono (fun _ h=>h) hh hsh (hs.sl t ht)
theorem Aw {blK:Int→Option Blk} {tl:Nat→Bool} {K:St→Prop} {i:Nat} {oi:Oper} {v:V} (hi:ops[i]? =some oi) (hti:tl i=false) (hT: ∀j oj,tl j=true→ops[j]? =some oj→ ∃e∈oj.after,Region.binds .any e=true∧e.on=i): ∀(fuel:Nat) (l:Array Bool) (σ:St),
  (∀j oj,ops[j]? =some oj→j≠i→l.getD j true=false→(∀e∈oj.after,Region.binds .any e=true→e.on≠i)→oi.apart ops oj=true)→(∀k,tl k=true→l.getD k false=false)→
  i∈Region.ready .any ops l→Sub blK σ.bl→DY P ops blK oi σ v→DL P ops blK tl K fuel (l.setIfInBounds i true) (σ.put oi.dst v)→DL P ops blK tl K (fuel+1) l σ:=by
 have hbl: ∀(σ:St),(σ.put oi.dst v).bl=σ.bl:=fun σ=>by cases oi.dst<;>rfl
 intro fuel
 induction fuel with
 | zero =>
   intro l σ _ hN hr hs hy H
   refine⟨fun h=>(by rw[h] at hr;cases hr),fun j hj=> ?_⟩
   by_cases hji:j=i
   ·subst hji;exact hy.step hi hs ⟨fun _=>by rw[hbl];exact hs,H⟩
   ·have:=ready_mono hj hji
    rw[H.1] at this
    cases this
 | succ fuel ih =>
   intro l σ wL hN hr hs hy H
   refine⟨fun h=>(by rw[h] at hr;cases hr),fun j hj=> ?_⟩
   by_cases hji:j=i
   ·subst hji;exact hy.step hi hs ⟨fun _=>by rw[hbl];exact hs,H⟩
   ·have h1:=H.2 j (ready_mono hj hji)
    obtain⟨Q5,oj,hoj,cD⟩:=mem_ready.1 hj
    have Cn: ∀e∈oj.after,Region.binds .any e=true→e.on≠i:=fun e he hb heq=>by
     have h1:=cD e he hb
     have h0:=(mem_ready.1 hr).1
     rw[heq] at h1
     rcases Nat.lt_or_ge i l.size with h' | h'
     ·simp[h'] at h0 h1;rw[h0] at h1;cases h1
     ·simp[Array.getElem?_eq_none h'] at h1
    have h2:=DY.put hoj (wL j oj hoj hji Q5 Cn) hy h1
    have zY: ∀k ok,ops[k]? =some ok→k≠i→(l.setIfInBounds j true).getD k true=false→
      (∀e∈ok.after,Region.binds .any e=true→e.on≠i)→oi.apart ops ok=true:=fun k ok hk hki hun hno=>by
     refine wL k ok hk hki ?_ hno
     by_cases hjk:j=k
     ·subst hjk;exact Q5
     ·rw[getD_set_ne true hjk] at hun;exact hun
    refine R8 h2 fun σ' ⟨h3,h4,h5⟩=> ?_
    have htj:tl j=false:=by
     cases htl:tl j with
     | false => rfl
     | true =>
       obtain⟨e,he,hb,hon⟩:=hT j oj htl hoj
       exact absurd hon (Cn e he hb)
    have aLW:late tl (l.setIfInBounds i true) j=false:=by
     unfold late
     rw[htj,Bool.false_or,List.any_eq_false]
     intro k _ hk
     simp only[Bool.and_eq_true] at hk
     by_cases hki:i=k
     ·subst hki;rw[hti] at hk;cases hk.1
     ·rw[getD_set_ne false hki,hN k hk.1] at hk;cases hk.2
    have hN': ∀k,tl k=true→(l.setIfInBounds j true).getD k false=false:=fun k hk=>by
     by_cases hkj:j=k
     ·subst hkj;rw[htj] at hk;cases hk
     ·rw[getD_set_ne false hkj];exact hN k hk
    have h4:=h4 aLW
    rw[hbl] at h4
    refine⟨fun _=>h4,ih (l.setIfInBounds j true) σ' zY hN' (ready_mono hr (Ne.symm hji)) h4 h3 ?_⟩
    rw[Array.setIfInBounds_comm _ _ hji]
    exact h5
theorem Bu {blK:Int→Option Blk} {tl:Nat→Bool} {K:St→Prop} (fuel:Nat): ∀(is:List Nat) (l:Array Bool) (σ:St),(∀i,i∈is→tl i=false)→(∀k,tl k=true→l.getD k false=false)→(∀i,i∈is→ ∀j oj,tl j=true→ops[j]? =some oj→ ∃e∈oj.after,Region.binds .any e=true∧e.on=i)→hoistB ops is l=true→Sub blK σ.bl→
  Hoist P ops blK is (DL P ops blK tl K fuel (jN is l)) σ→DL P ops blK tl K (fuel+is.length) l σ
 | [], l, σ, _, _, _, _, _, h => h
 | i :: is, l, σ, hI, hN, hT, hB, hs, h => by
   simp only[hoistB,Bool.and_eq_true] at hB
   obtain⟨⟨hr,hf⟩,hB'⟩:=hB
   unfold Hoist at h
   split at h
   ·rename_i o ho
    obtain⟨v,hy,hK⟩:=h
    have:fuel+(i::is).length=(fuel+is.length)+1:=by simp;omega
    rw[this]
    refine Aw ho (hI i List.mem_cons_self) (hT i List.mem_cons_self) _ _ _ (Region.free_spec ho hf) hN (by simpa using hr) hs hy (Bu fuel is _ _ (fun i hi=>hI i (List.mem_cons_of_mem _ hi)) (fun k hk=> ?_) (fun i hi=>hT i (List.mem_cons_of_mem _ hi)) hB' ?_ hK)
    ·by_cases hki:i=k
     ·subst hki;rw[hI i List.mem_cons_self] at hk;cases hk
     ·rw[getD_set_ne false hki];exact hN k hk
    cases o.dst<;>exact hs
   ·exact h.elim
end
theorem Jx {P:Program} {id:Nat} {ops:Array Oper} {K:Ex→St→Prop} {σ:St} (hm:P.follows .mixedOrders=true) (blK:Int→Option Blk) (hs:Sub blK σ.bl) (is:List Nat) (fuel n:Nat) (hn:(ops.size==fuel+is.length && is.all (fun i=>decide (i<ops.size))&& hoistB ops is (Array.replicate ops.size false)&& Hr ops (fun j=>decide (n≤j)) is && is.all (fun i=>decide (i<n)))=true)
  (h:HoistF P (ops.toList.map (·.dst)) blK (is.filterMap fun i=>ops[i]?) (DL P ops blK (fun j=>decide (n≤j)) (K .normal) fuel (jN is (Array.replicate ops.size false))) σ):AW P (.region id ops true) K σ:=by
 simp only[Bool.and_eq_true,beq_iff_eq] at hn
 refine Bi hm blK (tl:=fun j=>decide (n≤j)) ?_
 have:=Bu (P:=P) (ops:=ops) (blK:=blK) (tl:=fun j=>decide (n≤j)) (K:=K .normal) fuel is (Array.replicate ops.size false) σ
  (fun i hi=>by have:=List.all_eq_true.1 hn.2 i hi;simp at this ⊢;exact this) (fun k _=>by
    rw[Array.getD_eq_getD_getElem?,Array.getElem?_replicate];split<;>rfl) (sM hn.1.2) hn.1.1.2 hs (lR _ is σ (filter_some is hn.1.1.1.2) h)
 rw[←hn.1.1.1.1] at this
 exact this
section
variable {P : Program} {ops : Array Oper} {blK : Int → Option Blk} {tl : Nat → Bool} {K : St → Prop} {fuel : Nat} {l : Array Bool} {σ : St}
theorem Vu (hr:Region.ready .any ops l= []) (h:K σ):DL P ops blK tl K fuel l σ:=by
 cases fuel with
 | zero => exact ⟨hr, h⟩
 | succ n => exact ⟨fun _ => h, fun i hi => by rw [hr] at hi; cases hi⟩
theorem M5 {i:Nat} {o:Oper} {e:Bool} (ho:ops[i]? =some o) (hg:o.guard=none) (he:late tl l i=e) (h:T P o (fun σ'=>(e=false→Sub blK σ'.bl)∧DL P ops blK tl K fuel (l.setIfInBounds i true) σ') σ):
  D1 P ops i (fun σ'=>(late tl l i=false→Sub blK σ'.bl)∧DL P ops blK tl K fuel (l.setIfInBounds i true) σ') σ:=by
 subst he;unfold D1;rw[ho];simp only[hg];exact h
theorem Zg {i:Nat} {o:Oper} (e:Bool) (hr:Region.ready .any ops l= [i]) (ho:ops[i]? =some o) (hg:o.guard=none) (he:late tl l i=e) (h:T P o (fun σ'=>(e=false→Sub blK σ'.bl)∧DL P ops blK tl K fuel (l.setIfInBounds i true) σ') σ):DL P ops blK tl K (fuel+1) l σ:=by
 refine⟨fun h0=>(by rw[hr] at h0;cases h0),fun k hk=> ?_⟩
 rw[hr] at hk
 obtain rfl:k=i:=by simpa using hk
 exact M5 ho hg he h
theorem aC1 {i j:Nat} {o p:Oper} (e f:Bool) (hr:Region.ready .any ops l= [i,j]) (ho:ops[i]? =some o) (hg:o.guard=none) (he:late tl l i=e) (ho':ops[j]? =some p) (hg':p.guard=none) (he':late tl l j=f)
  (h:T P o (fun σ'=>(e=false→Sub blK σ'.bl)∧DL P ops blK tl K fuel (l.setIfInBounds i true) σ') σ)
  (h':T P p (fun σ'=>(f=false→Sub blK σ'.bl)∧DL P ops blK tl K fuel (l.setIfInBounds j true) σ') σ):DL P ops blK tl K (fuel+1) l σ:=by
 refine⟨fun h0=>(by rw[hr] at h0;cases h0),fun k hk=> ?_⟩
 rw[hr] at hk
 rcases List.mem_cons.1 hk with rfl | hk
 ·exact M5 ho hg he h
 ·obtain rfl:k=j:=by simpa using hk
  exact M5 ho' hg' he' h'
theorem uG {i j m:Nat} {o p q:Oper} (e f g:Bool) (hr:Region.ready .any ops l= [i,j,m]) (ho:ops[i]? =some o) (hg:o.guard=none) (he:late tl l i=e) (ho':ops[j]? =some p) (hg':p.guard=none) (he':late tl l j=f) (ho2:ops[m]? =some q) (hg2:q.guard=none) (he2:late tl l m=g)
  (h:T P o (fun σ'=>(e=false→Sub blK σ'.bl)∧DL P ops blK tl K fuel (l.setIfInBounds i true) σ') σ)
  (h':T P p (fun σ'=>(f=false→Sub blK σ'.bl)∧DL P ops blK tl K fuel (l.setIfInBounds j true) σ') σ)
  (h2:T P q (fun σ'=>(g=false→Sub blK σ'.bl)∧DL P ops blK tl K fuel (l.setIfInBounds m true) σ') σ):DL P ops blK tl K (fuel+1) l σ:=by
 refine⟨fun h0=>(by rw[hr] at h0;cases h0),fun k hk=> ?_⟩
 rw[hr] at hk
 rcases List.mem_cons.1 hk with rfl | hk
 ·exact M5 ho hg he h
 ·rcases List.mem_cons.1 hk with rfl | hk
  ·exact M5 ho' hg' he' h'
  ·obtain rfl:k=m:=by simpa using hk
   exact M5 ho2 hg2 he2 h2
end
def Tm (P:Program) (y:Code) (K:Ex→St→Prop) (e:Ex) (σ:St):Prop:=match e with | .normal=>AW P y K σ | .exit i=>K (.exit i) σ | .ret=>K .ret σ
@[simp] theorem Xe (P : Program) (y : Code) (K : Ex → St → Prop) (σ : St) : Tm P y K .normal σ = AW P y K σ := rfl
@[simp] theorem aE1 (P : Program) (y : Code) (K : Ex → St → Prop) (i : Nat) (σ : St) : Tm P y K (.exit i) σ = K (.exit i) σ := rfl
@[simp] theorem aJB (P : Program) (y : Code) (K : Ex → St → Prop) (σ : St) : Tm P y K .ret σ = K .ret σ := rfl
theorem aE {P:Program} {x y:Code} {K:Ex→St→Prop} {σ:St} (h:runC P x (Tm P y K) σ):AW P (.seq x y) K σ:=by
 refine aN ((aC h).mono fun e σ' h'=> ?_)
 cases e with
 | normal => exact h'
 | exit i => exact h'
 | ret => exact h'
def aAJ {α:Type} (S:α→List (Nat×V)) (B:α→Int→Option Blk) (I:α→Prop) (n:Nat) (e:Ex) (σ:St):Prop:=e= .normal∧ ∃a,I a∧Fit (S a) n (B a) σ
theorem aH {α:Type} (S:α→List (Nat×V)) (B:α→Int→Option Blk) (I:α→Prop) (n:Nat) (σ:St):aAJ S B I n .normal σ= ∃a,I a∧Fit (S a) n (B a) σ:=by simp[aAJ]
theorem fZ {α:Type} {P:Program} {x y:Code} {K:Ex→St→Prop} {σ:St} (S:α→List (Nat×V)) (B:α→Int→Option Blk) (I:α→Prop) (n:Nat) (h1:AW P x (aAJ S B I n) σ)
  (h2: ∀a,I a→AW P y K ⟨n,hv (S a),B a⟩):AW P (.seq x y) K σ:=by
 refine aN (h1.mono fun e σ' ⟨he,a,hI,hf⟩=> ?_)
 subst he
 exact cX _ _ _ hf (h2 a hI)
section
variable (P : Program) (ds : List (Option Tmp)) (blK : Int → Option Blk) (rest : List Oper) (K : St → Prop) (σ : St) (d : Option Tmp) (ty : TypeId) (pos : String) (af : Array Edge)
@[simp high] theorem Sr (f : Operand) (args : Array Operand) (ats : Array TypeId) : HoistF P ds blK (⟨d, .call ⟨.value f, args, ats⟩, ty, pos, af, none⟩ :: rest) K σ = hcQ P ds blK rest K σ d (callV σ f args.toList) := (rfl)
@[simp high] theorem Vz (x : Operand) (t : TypeId) : HoistF P ds blK (⟨d, .call ⟨.builtin .len, #[x], #[t]⟩, ty, pos, af, none⟩ :: rest) K σ = hoQ P ds blK rest K σ d (lenV P t (σ.ev x)) := (rfl)
@[simp high] theorem Sw (c a b : Operand) : HoistF P ds blK (⟨d, .pick c a b, ty, pos, af, none⟩ :: rest) K σ = hoQ P ds blK rest K σ d (qval P blK σ (.pick c a b)) := (rfl)
@[simp high] theorem Sv (t : TypeId) (x : Operand) : HoistF P ds blK (⟨d, .load t x, ty, pos, af, none⟩ :: rest) K σ = hoQ P ds blK rest K σ d (qval P blK σ (.load t x)) := (rfl)
@[simp high] theorem Gz (x : Operand) : HoistF P ds blK (⟨d, .nilCheck x, ty, pos, af, none⟩ :: rest) K σ = hoQ P ds blK rest K σ d (Fs (σ.ev x)) := (rfl)
@[simp high] theorem Sn (op : BinOp) (t : TypeId) (x y : Operand) (t' : TypeId) : HoistF P ds blK (⟨d, .binOp op t x y t', ty, pos, af, none⟩ :: rest) K σ = hoQ P ds blK rest K σ d (binV P op t (σ.ev x) (σ.ev y)) := (rfl)
@[simp high] theorem Ss (op : UnOp) (t : TypeId) (x : Operand) : HoistF P ds blK (⟨d, .unOp op t x, ty, pos, af, none⟩ :: rest) K σ = hoQ P ds blK rest K σ d (unV op (σ.ev x)) := (rfl)
@[simp high] theorem Kz (s t : TypeId) (x : Operand) : HoistF P ds blK (⟨d, .convert s t x, ty, pos, af, none⟩ :: rest) K σ = hoQ P ds blK rest K σ d (cvtV P blK s t (σ.ev x)) := (rfl)
@[simp high] theorem Sj (t : TypeId) (x : Operand) (lo hi : Option Operand) : HoistF P ds blK (⟨d, .slice t x lo hi none, ty, pos, af, none⟩ :: rest) K σ = hoQ P ds blK rest K σ d (sliV P t (σ.ev x) (lo.map σ.ev) (hi.map σ.ev)) := (rfl)
@[simp high] theorem Df (t : TypeId) (x : Operand) (i : Nat) : HoistF P ds blK (⟨d, .fieldAddr t x i, ty, pos, af, none⟩ :: rest) K σ = hoQ P ds blK rest K σ d (fldV P t i (σ.ev x)) := (rfl)
@[simp high] theorem Qx (t : TypeId) (x : Operand) (i : Nat) : HoistF P ds blK (⟨d, .field t x i, ty, pos, af, none⟩ :: rest) K σ = hoQ P ds blK rest K σ d (fieldV P t i (σ.ev x)) := (rfl)
@[simp high] theorem Ef (t : TypeId) (x i : Operand) : HoistF P ds blK (⟨d, .indexAddr t x i, ty, pos, af, none⟩ :: rest) K σ = hoQ P ds blK rest K σ d (idxV P t (σ.ev x) (σ.ev i)) := (rfl)
@[simp high] theorem Mq (t : TypeId) (x i : Operand) : HoistF P ds blK (⟨d, .index t x i, ty, pos, af, none⟩ :: rest) K σ = hoQ P ds blK rest K σ d (idsV P t (σ.ev x) (σ.ev i)) := (rfl)
@[simp high] theorem Lo (x : Operand) (i : Nat) : HoistF P ds blK (⟨d, .extract x i, ty, pos, af, none⟩ :: rest) K σ = hoQ P ds blK rest K σ d (extV i (σ.ev x)) := (rfl)
end
def hgQ (P:Program) (ds:List (Option Tmp)) (blK:Int→Option Blk) (rest:List Oper) (K:St→Prop) (σ:St) (d:Option Tmp) (op:Op) (b:Bool) (v:V):Prop:=match v with
 | .bool q => if q = b then bP (qval P blK σ op) fun v => HoistF P ds blK rest K (σ.put d v) else HoistF P ds blK rest K (σ.put d (.tup []))
 | .tup [] => HoistF P ds blK rest K (σ.put d (.tup []))
 | _ => False
def hgS (P:Program) (ds:List (Option Tmp)) (blK:Int→Option Blk) (rest:List Oper) (K:St→Prop) (σ:St) (d:Option Tmp) (op:Op) (b:Bool) (x:Option (Option Tmp)):Prop:=match x with
 | some (some t) => hgQ P ds blK rest K σ d op b (σ.ev (.tmp t))
 | _ => False
section
variable (P : Program) (ds : List (Option Tmp)) (blK : Int → Option Blk) (rest : List Oper) (K : St → Prop) (σ : St) (d : Option Tmp) (op : Op) (ty : TypeId) (pos : String) (af : Array Edge) (b : Bool)
@[simp] theorem Tx (j : Nat) : HoistF P ds blK (⟨d, op, ty, pos, af, some (j, b)⟩ :: rest) K σ = hgS P ds blK rest K σ d op b (ds[j]?) := (rfl)
@[simp] theorem aIG (t : Tmp) : hgS P ds blK rest K σ d op b (some (some t)) = hgQ P ds blK rest K σ d op b (σ.ev (.tmp t)) := (rfl)
@[simp] theorem aSI : hgQ P ds blK rest K σ d op true (.bool true) = hoQ P ds blK rest K σ d (qval P blK σ op) := by simp [hgQ, hoQ]
@[simp] theorem aU6 : hgQ P ds blK rest K σ d op false (.bool false) = hoQ P ds blK rest K σ d (qval P blK σ op) := by simp [hgQ, hoQ]
@[simp] theorem aTE : hgQ P ds blK rest K σ d op true (.bool false) = HoistF P ds blK rest K (σ.put d (.tup [])) := by simp [hgQ]
@[simp] theorem aR4 : hgQ P ds blK rest K σ d op false (.bool true) = HoistF P ds blK rest K (σ.put d (.tup [])) := by simp [hgQ]
@[simp] theorem aOG : hgQ P ds blK rest K σ d op b (.tup []) = HoistF P ds blK rest K (σ.put d (.tup [])) := (rfl)
end
theorem oO {P:Program} {ds:List (Option Tmp)} {blK:Int→Option Blk} {K:St→Prop} (S:List (Option Tmp)) (σ0:St): ∀(l:List Oper) (σ:St),HoistF P ds blK l K σ→(∀o,o∈l→o.dst∈S)→(σ.n=σ0.n∧ ∀t,some t∉S→σ.sl t=σ0.sl t)→
  HoistF P ds blK l (fun σ'=>K σ'∧σ'.n=σ0.n∧ ∀t,some t∉S→σ'.sl t=σ0.sl t) σ
 | [], σ, h, _, h0 => ⟨h, h0⟩
 | o :: rest, σ, h, hS, h0 => by
   have next: ∀v,HoistF P ds blK rest K (σ.put o.dst v)→HoistF P ds blK rest (fun σ'=>K σ'∧σ'.n=σ0.n∧ ∀t,some t∉S→σ'.sl t=σ0.sl t) (σ.put o.dst v):=fun v hv=>
    oO S σ0 rest _ hv (fun o' ho'=>hS o' (List.mem_cons_of_mem _ ho')) (by
     have hd:=hS o List.mem_cons_self
     cases hod:o.dst with
     | none => exact h0
     | some d =>
       rw[hod] at hd
       exact⟨h0.1,fun t ht=>by
        show upd σ.sl d v t=_
        rw[aG _ _ _ _ (fun e=>ht (by rw[e];exact hd))];exact h0.2 t ht⟩)
   unfold HoistF at h ⊢
   cases hg:o.guard with
   | none=>
     simp only[hg] at h ⊢
     split at h
     ·obtain⟨p,h1,v,n,ys,h2,h3⟩:=h
      exact⟨p,h1,v,n,ys,h2,next v h3⟩
     ·obtain⟨v,h1,h2⟩:=h
      exact⟨v,h1,next v h2⟩
   | some jb=>
     obtain⟨j,b⟩:=jb
     simp only[hg] at h ⊢
     split at h
     ·rename_i d hd
      split at h
      ·split at h
       ·rename_i hq
        obtain⟨v,h1,h2⟩:=h
        rw[if_pos hq]
        exact⟨v,h1,next v h2⟩
       ·rename_i hq
        rw[if_neg hq]
        exact next _ h
      ·exact next _ h
      ·exact h.elim
     ·exact h.elim
theorem Hb {f:Nat→V} : ∀(l:List (Nat×V)),(∀p,p∈l→f p.1=p.2)→ ∀p,p∈l→hv l p.1=f p.1
 | [], _, p, hp => by cases hp
 | (u, y) :: r, h, p, hp => by
   unfold hv
   by_cases e:p.1=u
   ·rw[if_pos e,e];exact(h (u,y) List.mem_cons_self).symm
   ·rw[if_neg e]
    rcases List.mem_cons.1 hp with rfl | hp
    ·exact absurd rfl e
    ·exact Hb r (fun q hq=>h q (List.mem_cons_of_mem _ hq)) p hp
theorem tG {P:Program} {id:Nat} {ops:Array Oper} {K:Ex→St→Prop} {σ:St} (hm:P.follows .mixedOrders=true) (hB:zT ops=true) (l:List (Nat×V)) (n:Nat) (bl:Int→Option Blk) (t:Nat) (v:V) (hf:Fit l n bl σ) (hd:(l.all fun p=> !(ops.toList.map (·.dst)).contains (some p.1))=true)
  (h1:HoistF P (ops.toList.map (·.dst)) bl ops.toList (fun σ'=>σ'.sl t=v∧σ'.bl=bl) ⟨n,hv l,bl⟩) (h2:K .normal ⟨n,hv ((t,v)::l),bl⟩):AW P (.region id ops true) K σ:=by
 refine cX l n bl hf ?_
 have hq:AW P (.region id ops true) (fun e σ'=>e= .normal∧(σ'.sl t=v∧σ'.bl=bl)∧σ'.n=n∧ ∀u,some u∉ops.toList.map (·.dst)→σ'.sl u=hv l u) ⟨n,hv l,bl⟩:=by
  refine cQ hm hB ?_
  have:=oO (ops.toList.map (·.dst)) ⟨n,hv l,bl⟩ ops.toList ⟨n,hv l,bl⟩ h1 (fun o ho=>List.mem_map_of_mem ho) ⟨rfl,fun _ _=>rfl⟩
  simpa using this
 intro w0 M F a w hs
 refine wp_mono (hq w0 M F a w hs) fun e a' w' hp=> ?_
 obtain⟨ex,σ',F',e1,e2,e3,rfl,⟨k1,k2⟩,k3,k4⟩:=hp
 refine⟨.normal,⟨n,hv ((t,v)::l),bl⟩,F',e1,e2,e3.le ?_,h2⟩
 refine J3 ⟨k3,fun p hp=> ?_,by rw[k2];exact Sub.refl _⟩
 rcases List.mem_cons.1 hp with rfl | hp
 ·exact k1
 ·have:=List.all_eq_true.1 hd p hp
  have h5:some p.1∉ops.toList.map (·.dst):=by
   intro hc
   rw[Bool.not_eq_true'] at this
   have h6:=List.contains_iff_mem.2 hc
   rw[this] at h6;cases h6
  rw[k4 _ h5,Hb l hf.2.1 p hp,hf.2.1 p hp]
theorem Ut {P:Program} {id:Nat} {ops:Array Oper} {K:Ex→St→Prop} {σ:St} (l:List (Nat×V)) (n:Nat) (bl:Int→Option Blk) (t:Nat) (v:V) (hf:Fit l n bl σ) (hd:(l.all fun p=> !(ops.toList.map (·.dst)).contains (some p.1))=true)
  (h1:OpsF P (ops.toList.map (·.dst)) ops.toList (fun σ'=>σ'.sl t=v∧Sub bl σ'.bl) ⟨n,hv l,bl⟩) (h2:K .normal ⟨n,hv ((t,v)::l),bl⟩):AW P (.region id ops false) K σ:=by
 refine cX l n bl hf ?_
 have hq:AW P (.region id ops false) (fun e σ'=>e= .normal∧(σ'.sl t=v∧Sub bl σ'.bl)∧σ'.n=n∧ ∀u,some u∉ops.toList.map (·.dst)→σ'.sl u=hv l u) ⟨n,hv l,bl⟩:=by
  refine vF ?_
  exact Y6 _ (I7 _ (vU h1)) fun σ' h=>⟨rfl,h⟩
 intro w0 M F a w hs
 refine wp_mono (hq w0 M F a w hs) fun e a' w' hp=> ?_
 obtain⟨ex,σ',F',e1,e2,e3,rfl,⟨k1,k2⟩,k3,k4⟩:=hp
 refine⟨.normal,⟨n,hv ((t,v)::l),bl⟩,F',e1,e2,e3.le ?_,h2⟩
 refine J3 ⟨k3,fun p hp=> ?_,k2⟩
 rcases List.mem_cons.1 hp with rfl | hp
 ·exact k1
 ·have:=List.all_eq_true.1 hd p hp
  have h5:some p.1∉ops.toList.map (·.dst):=by
   intro hc
   rw[Bool.not_eq_true'] at this
   have h6:=List.contains_iff_mem.2 hc
   rw[this] at h6;cases h6
  rw[k4 _ h5,Hb l hf.2.1 p hp,hf.2.1 p hp]
theorem Cs {P:Program} {f:FuncId} {xs ys:List V} {bl bl2:Int→Option Blk} {k:V→(Int→Option Blk)→Prop} (n:Nat) (hs:Sub bl2 bl) (hx:frzL (dropB bl bl2) n xs=some ys) (h:bW P f ys bl2 k):bW P f xs bl k:=by
 refine⟨h.1,fun w0 M F w vs hm cE=> ?_⟩
 have hlen:=uC hx
 have uA:Jw (fun k=>F k∨Own (dropB bl bl2) k) w ys vs:=by
  refine⟨by rw[cE.1,hlen.1],fun i y hy=> ?_⟩
  obtain⟨x,h1,h2⟩:=hlen.2 i y hy
  exact kU (fun g b hb=>rA hm g b hb) (fun g b hb h0=> .inr ⟨g,b,hb,h0,rfl⟩) (fun b hb=> .inl hb) n x y _ (cE.2 i x h1) h2
 exact(h.2 w0 M _ w vs (hm.freeze hs) uA).mono fun e w' ⟨v,r,bl',F',h1,h2,h3,h4,h5,h6,h7⟩=>⟨v,r,bl',F',h1,fun b hb=>h2 b (.inl hb),fun b hb=>h3 b (.inl hb),h4,h5,h6,h7⟩
theorem gP {P:Program} {f:FuncId} {xs:List V} {bl:Int→Option Blk} {r:V} {k:V→(Int→Option Blk)→Prop} (n:Nat) (bl2:Int→Option Blk) (ys:List V) (hs:Sub bl2 bl) (hx:frzL (dropB bl bl2) n xs=some ys) (h:RO P f ys r) (hk:k r bl2):bW P f xs bl k:=
 Cs n hs hx (aD h hk)
theorem aW {P:Program} {id:Nat} {ops:Array Oper} {K:Ex→St→Prop} {σ:St} (hm:P.follows .mixedOrders=true) (blK:Int→Option Blk) (hs:Sub blK σ.bl) (is:List Nat) (fuel:Nat) (hn:(ops.size==fuel+is.length && is.all (fun i=>decide (i<ops.size))&& hoistB ops is (Array.replicate ops.size false))=true)
  (h:HoistF P (ops.toList.map (·.dst)) blK (is.filterMap fun i=>ops[i]?) (kX P ops blK (fun _=>false) (K .normal) fuel (jN is (Array.replicate ops.size false))) σ):AW P (.region id ops true) K σ:=by
 simp only[Bool.and_eq_true,beq_iff_eq] at hn
 exact mK hm is fuel blK hs hn.1.1 hn.2 (tl:=fun _=>false) (fun _ _ _ _ h=>by cases h) (lR _ is σ (filter_some is hn.1.2) h)
section
variable {P : Program} {ops : Array Oper} {blK : Int → Option Blk} {tl : Nat → Bool} {K : St → Prop} {fuel : Nat} {l : Array Bool} {σ : St}
theorem Dq (i:Nat) {o:Oper} (e:Bool) (h:T P o (fun σ'=>(e=false→Sub blK σ'.bl)∧DL P ops blK tl K fuel (l.setIfInBounds i true) σ') σ) (hr:Region.ready .any ops l= [i]:=by kernel_rfl) (ho:ops[i]? =some o:=by exact rfl) (hg:o.guard=none:=by exact rfl) (he:late tl l i=e:=by kernel_rfl):DL P ops blK tl K (fuel+1) l σ:=Zg e hr ho hg he h
end
section
variable {P : Program} {ops : Array Oper} {blK : Int → Option Blk} {tl : Nat → Bool} {K : St → Prop} {fuel : Nat} {l : Array Bool} {σ : St}
theorem Dw (i j:Nat) {o p:Oper} (e f:Bool) (h:T P o (fun σ'=>(e=false→Sub blK σ'.bl)∧DL P ops blK tl K fuel (l.setIfInBounds i true) σ') σ) (h':T P p (fun σ'=>(f=false→Sub blK σ'.bl)∧DL P ops blK tl K fuel (l.setIfInBounds j true) σ') σ) (hr:Region.ready .any ops l= [i,j]:=by kernel_rfl) (ho:ops[i]? =some o:=by exact rfl) (hg:o.guard=none:=by exact rfl) (he:late tl l i=e:=by kernel_rfl) (ho':ops[j]? =some p:=by exact rfl) (hg':p.guard=none:=by exact rfl) (he':late tl l j=f:=by kernel_rfl):DL P ops blK tl K (fuel+1) l σ:=aC1 e f hr ho hg he ho' hg' he' h h'
end
section
variable {P : Program} {ops : Array Oper} {blK : Int → Option Blk} {tl : Nat → Bool} {K : St → Prop} {fuel : Nat} {l : Array Bool} {σ : St}
theorem Dd (h:K σ) (hr:Region.ready .any ops l= []:=by kernel_rfl):DL P ops blK tl K fuel l σ:=Vu hr h
end
end Go.Proofs.YticmgmemnpcbbaaGreat.Vm

namespace Go.Proofs.YticmgmemnpcbbaaGreat.Vm
open Go Go.Proofs
set_option linter.unusedSimpArgs false
set_option linter.unusedVariables false
theorem aZ (a i:Nat) (h:i<(lim a).length):(iv (lim a))[i]? =some [.int .i64 (dg a i:Nat)]:=by rw[eG _ _ h,gI h]
theorem vC (a b:Int):(a==b)=decide (a=b):=by rw[Bool.eq_iff_iff];simp
theorem Hk (ns:List Int):(iv ns).all (fun c=>1==c.length)=true:=by simp[iv]
theorem yG (ns:List Int) (n:Nat):(iv ns).take n=iv (ns.take n):=by simp[iv,List.map_take]
@[simp high] theorem aDK (P : Program) (t : TypeId) (a b : Int) : binV P .add t (.int .i64 a) (.int .i64 b) = some (.int .i64 (IntKind.i64.wrap (a + b))) := (rfl)
@[simp high] theorem aE7 (P : Program) (t : TypeId) (a b : Int) : binV P .sub t (.int .i64 a) (.int .i64 b) = some (.int .i64 (IntKind.i64.wrap (a - b))) := (rfl)
@[simp high] theorem aDA (P : Program) (t : TypeId) (a b : Int) : binV P .mul t (.int .i64 a) (.int .i64 b) = some (.int .i64 (IntKind.i64.wrap (a * b))) := (rfl)
@[simp high] theorem aFS (P : Program) (t : TypeId) (a b : Int) : binV P .quo t (.int .i64 a) (.int .i64 b) = if b = 0 then none else some (.int .i64 (IntKind.i64.wrap (a.tdiv b))) := (rfl)
@[simp high] theorem aGP (P : Program) (t : TypeId) (a b : Int) : binV P .rem t (.int .i64 a) (.int .i64 b) = if b = 0 then none else some (.int .i64 (a.tmod b)) := (rfl)
@[simp high] theorem aDJ (P : Program) (t : TypeId) (a b : Int) : binV P .eql t (.int .i64 a) (.int .i64 b) = some (.bool (a == b)) := (rfl)
@[simp high] theorem aGK (P : Program) (t : TypeId) (a b : Int) : binV P .neq t (.int .i64 a) (.int .i64 b) = some (.bool (a != b)) := (rfl)
@[simp high] theorem aDP (P : Program) (t : TypeId) (a b : Int) : binV P .lss t (.int .i64 a) (.int .i64 b) = some (.bool (decide (a < b))) := (rfl)
@[simp high] theorem aEJ (P : Program) (t : TypeId) (a b : Int) : binV P .leq t (.int .i64 a) (.int .i64 b) = some (.bool (decide (a ≤ b))) := (rfl)
@[simp high] theorem aEO (P : Program) (t : TypeId) (a b : Int) : binV P .gtr t (.int .i64 a) (.int .i64 b) = some (.bool (decide (b < a))) := (rfl)
@[simp high] theorem aFZ (P : Program) (t : TypeId) (a b : Int) : binV P .geq t (.int .i64 a) (.int .i64 b) = some (.bool (decide (b ≤ a))) := (rfl)
theorem lF (a b:Nat) (ha:(lim a).length≤1048576) (hb:(lim b).length≤1048576):RO Tryz.prog 100 [.sl (iv (lim a)),.sl (iv (lim b))] (.int .i64 (iS a b)):=by
 refine aI Tryz.func100 rfl rfl (by rw[Tryz.ntmps100];simp) fun bl=> ?_
 rw[Tryz.ntmps100,Tryz.results100]
 refine aC ?_
 simp
 refine⟨fun h=>⟨fun h1=> ?_,fun h1=> ?_⟩,fun h=> ?_⟩
 ·exact aR (by simp[D5 h1]) rfl rfl
 ·exact aR (by simp[C5 (show(lim b).length<(lim a).length by omega)]) rfl rfl
 have h:(lim a).length=(lim b).length:=by omega
 have w0:IntKind.i64.wrap (((lim a).length:Int) - 1)=((lim a).length:Int) - 1:=i64_in (by omega) (by omega)
 simp[w0]
 refine aJ (fun k:Nat=> [(0,.sl (iv (lim a))),(1,.sl (iv (lim b))),(5,.int .i64 ((k:Int) - 1))]) (fun _=>bl) (fun k=>k≤(lim a).length∧ ∀j,k≤j→dg a j=dg b j) (fun k=>k) _ (lim a).length ⟨Nat.le_refl _,fun j hj=>by rw[jQ hj,jQ (by omega)]⟩ ⟨rfl,by simp,Sub.refl _⟩ ?_
 intro k ⟨hk,hc⟩
 refine aC ?_
 simp
 refine⟨fun h1=> ?_,fun h1=> ?_⟩
 ·obtain⟨m,rfl⟩: ∃m,k=m+1:=⟨k - 1,by omega⟩
  have hm:m<(lim a).length:=by omega
  have hm2:m<(lim b).length:=by omega
  have e1:((m+1:Nat):Int) - 1=m:=by omega
  refine cQ aM (by kernel_rfl) ?_
  simp[e1,aZ _ _ hm,aZ _ _ hm2]
  refine⟨fun h2=> ?_,fun h2=> ?_⟩
  ·exact aR (by simp[Sg h hm (fun j hj=>hc j (by omega)) h2]) rfl rfl
  refine cQ aM (by kernel_rfl) ?_
  simp[e1,aZ _ _ hm,aZ _ _ hm2]
  refine⟨fun h3=> ?_,fun h3=> ?_⟩
  ·exact aR (by simp[Ok h hm (fun j hj=>hc j (by omega)) h3]) rfl rfl
  have w1:IntKind.i64.wrap ((m:Int) - 1)=(m:Int) - 1:=i64_in (by omega) (by omega)
  simp[w1,aB]
  refine⟨m,⟨by omega,fun j hj=> ?_⟩,by omega,rfl,by simp,Sub.refl _⟩
  rcases Nat.lt_or_ge m j with hlt | hge
  ·exact hc j (by omega)
  ·obtain rfl:j=m:=by omega
   omega
 ·have:k=0:=by omega
  subst this
  exact aR (by simp[Mv h fun j=>hc j (Nat.zero_le _)]) rfl rfl
theorem tM (ns:List Int) (hd:Dig ns) (hn:ns.length≤1048576):RO Tryz.prog 238 [.sl (iv ns)] (.sl (iv (lim (val ns)))):=by
 refine aI Tryz.func238 rfl rfl (by rw[Tryz.ntmps238];simp) fun bl=> ?_
 rw[Tryz.ntmps238,Tryz.results238]
 refine aC ?_
 simp
 refine aJ (fun n:Nat=> [(0,.sl (iv (ns.take n)))]) (fun _=>bl) (fun n=>n≤ns.length∧ ∀i (hi:i<ns.length),n≤i→ns[i]=0) (fun n=>n) _ ns.length ⟨Nat.le_refl _,fun i hi h=>by omega⟩ ⟨rfl,by simp,Sub.refl _⟩ ?_
 intro n ⟨hl,hz⟩
 have hlen:(ns.take n).length=n:=by simp;omega
 refine aC ?_
 simp
 refine bQ [(0,.sl (iv (ns.take n)))] _ bl 14 (.bool (decide (0<n)&& decide (ns.getD (n - 1) 1=0))) ⟨rfl,by simp,Sub.refl _⟩ rfl ?_ ?_
 ·simp[hlen]
  refine⟨fun h=> ?_,fun h=>by simp[h]⟩
  have w1:IntKind.i64.wrap ((n:Int) - 1)=((n - 1:Nat):Int):=by rw[i64_in (by omega) (by omega)];omega
  have h2:n - 1<ns.length:=by omega
  have q:(iv (ns.take n))[n - 1]? =some [.int .i64 ns[n - 1]]:=by rw[eG _ _ (by omega)];simp
  simp[w1,h2,h,q,vC]
 simp
 refine⟨fun h1 h2=> ?_,fun h1=> ?_⟩
 ·have w1:IntKind.i64.wrap ((n:Int) - 1)=((n - 1:Nat):Int):=by rw[i64_in (by omega) (by omega)];omega
  simp[Nat.min_eq_left hl,w1,sliV,Hk,aB]
  refine⟨n - 1,⟨by omega,fun i hi h3=> ?_⟩,by omega,rfl,?_,Sub.refl _⟩
  ·rcases Nat.lt_or_ge i n with h4 | h4
   ·obtain rfl:i=n - 1:=by omega
    simpa [hi] using h2
   ·exact hz i hi h4
  ·simp[yG,List.take_take]
   try (congr 2;omega)
 ·have hz2: ∀i (hi:i<ns.length),n=i+1→ns[i]≠0:=by
   intro i hi e
   subst e
   have:=h1 (by omega)
   simpa [hi] using this
  have:=zE hd hl hz hz2
  rw[this]
  exact aR (by simp) rfl rfl
theorem nV {o:List Int} {i k:Nat} (h:o.length=i) (x z:Int):(o++List.replicate (k+1) z).set i x=(o++ [x])++List.replicate k z:=by
 subst h
 rw[List.set_append_right _ _ (Nat.le_refl _),Nat.sub_self,List.replicate_succ,List.set_cons_zero,List.append_assoc];rfl
theorem kK {o:List Int} {i k:Nat} (h:o.length=i) (z:Int):(iv (o++List.replicate (k+1) z))[i]? =some [.int .i64 z]:=by
 subst h
 rw[eG _ _ (by simp)]
 simp
theorem eX (ns:List Int) (i:Nat) (x:Int):(iv ns).set i [.int .i64 x]=iv (ns.set i x):=by simp[iv,List.map_set]
theorem wq {x n:Int} (h0:0≤x) (h1:x≤9223372036854775807) (hn:0<n):IntKind.i64.wrap (x.tdiv n)=x.tdiv n:=by
 rw[Int.tdiv_eq_ediv_of_nonneg h0]
 have a1:=Int.ediv_nonneg h0 (by omega:0≤n)
 have a2:=Int.ediv_le_self n h0
 exact i64_in (by omega) (by omega)
theorem lW {bl bl':Int→Option Blk} {g:Int} {ns:List Int} {n:Nat} (hg0:0≤g) (hg:bl g=none) (hb:bl' g=some ⟨1,iv ns⟩) (hn:ns.length=n):frzL (dropB bl' bl) 1 [.lsl g 1 0 n]=some [.sl (iv ns)]:=by
 unfold frzL frzL
 rw[dW hg0 hg hb (by simp[hn]) (mZ ns)]
theorem Ni {o:List Int} {i:Nat} (h:o.length=i) (x z:Int):(o++ [z]).set i x=o++ [x]:=by
 have:=nV (k:=0) h x z
 simpa using this
structure PL where
 i:Nat
 o:List Int
 c:Int
theorem Vj (a b:Nat) (ha:(lim a).length≤1048575) (hb:(lim b).length≤1048575):RO Tryz.prog 271 [.sl (iv (lim a)),.sl (iv (lim b))] (.sl (iv (lim (a+b)))):=by
 refine aI Tryz.func271 rfl rfl (by rw[Tryz.ntmps271];simp) fun bl=> ?_
 rw[Tryz.ntmps271,Tryz.results271]
 refine aE ?_
 simp
 refine fZ (fun p:Nat×Nat=> [(0,.sl (iv (lim p.1))),(1,.sl (iv (lim p.2)))]) (fun _=>bl) (fun p=>p.1+p.2=a+b∧(lim p.2).length≤(lim p.1).length∧(lim p.1).length≤1048575) 55 ?_ ?_
 ·refine aC ?_
  simp
  refine⟨fun h=> ?_,fun h=> ?_⟩
  ·rw[aH]
   exact⟨(b,a),⟨Nat.add_comm _ _,by simp only;omega,hb⟩,rfl,by simp,Sub.refl _⟩
  ·rw[aH]
   exact⟨(a,b),⟨rfl,by simp only;omega,ha⟩,rfl,by simp,Sub.refl _⟩
 rintro⟨x,y⟩ ⟨hxy,hle,hx⟩
 simp only at hxy hle hx
 rw[←hxy]
 refine aC ?_
 have w0:IntKind.i64.wrap (((lim x).length:Int)+1)=(lim x).length+1:=i64_in (by omega) (by omega)
 simp[w0]
 refine⟨(lim x).length+1,by simp,by simp,by omega,by unfold maxLen;omega,fun g hg0 hg=> ?_⟩
 have er:List.replicate ((lim x).length+1) [V.int IntKind.i64 0]=iv (List.replicate ((lim x).length+1) 0):=by simp[iv]
 simp[er]
 refine aJ (fun p:PL=> [(0,.sl (iv (lim x))),(1,.sl (iv (lim y))),(5,.lsl g 1 0 ((lim x).length+1)),(6,.int .i64 p.c),(20,.sl (iv (lim x))),(21,.int .i64 (lim x).length),(22,.int .i64 p.i)]) (fun p=>upd bl g (some ⟨1,iv (p.o++List.replicate ((lim x).length+1 - p.i) 0)⟩))
  (fun p=>p.i≤(lim x).length∧kC x y p.i p.o p.c) (fun p=>(lim x).length - p.i) _ ⟨0,[],0⟩ ⟨Nat.zero_le _,kC.start x y⟩ ⟨rfl,by simp,sub_eq (by simp)⟩ ?_
 rintro⟨i,o,c⟩ ⟨hi,hI⟩
 simp only at hi hI
 have hb1:=hI.x
 have hd1:=eN x i
 have hd2:=eN y i
 have hc0:=hI.c0
 have hc1:=hI.c1
 obtain⟨k,hk⟩: ∃k,(lim x).length+1 - i=k+1:=⟨(lim x).length - i,by omega⟩
 refine aC ?_
 simp
 refine⟨fun h1=> ?_,fun h1=> ?_⟩
 ·have w1:IntKind.i64.wrap ((dg x i:Int)+c)=dg x i+c:=i64_in (by omega) (by omega)
  have w2:IntKind.i64.wrap ((dg x i:Int)+c+dg y i)=dg x i+c+dg y i:=i64_in (by omega) (by omega)
  have w3:IntKind.i64.wrap ((i:Int)+1)=i+1:=i64_in (by omega) (by omega)
  simp[aZ _ _ h1,w1]
  refine⟨fun h2=> ?_,fun h2=> ?_⟩
  ·have w4:=wq (x:=(dg x i:Int)+c+dg y i) (n:=1000000000) (by omega) (by omega) (by omega)
   simp[aZ _ _ h2,w2,w3,w4,hk,kK hI.len]
   refine⟨by omega,?_⟩
   rw[aB]
   refine⟨⟨i+1,o++ [((dg x i:Int)+c+dg y i).tmod 1000000000],((dg x i:Int)+c+dg y i).tdiv 1000000000⟩,⟨by simp only;omega,hI.next (by omega)⟩,by simp only;omega,rfl,by simp,sub_eq ?_⟩
   rw[eX,nV hI.len]
   have e:(lim x).length+1 - (i+1)=k:=by omega
   simp[e]
  ·have d0:dg y i=0:=jQ (by omega)
   have w4:=wq (x:=(dg x i:Int)+c) (n:=1000000000) (by omega) (by omega) (by omega)
   simp[w3,w4,hk,kK hI.len]
   refine⟨by omega,?_⟩
   rw[aB]
   refine⟨⟨i+1,o++ [((dg x i:Int)+c).tmod 1000000000],((dg x i:Int)+c).tdiv 1000000000⟩,⟨by simp only;omega,hI.next (by omega)⟩,by simp only;omega,rfl,by simp,sub_eq ?_⟩
   rw[eX,nV hI.len]
   have e:(lim x).length+1 - (i+1)=k:=by omega
   simp[e]
 ·have e:i=(lim x).length:=by omega
  subst e
  obtain⟨hD,hv⟩:=hI.impl (Nat.le_refl _) hle
  simp[hk,kK hI.len]
  have k0:k=0:=by omega
  subst k0
  have hg':bl g=none:=hg
  simp[eX,Ni hI.len]
  refine⟨by omega,gP 1 bl _ (by simp[hg']) (lW hg0 hg' (by simp) (by simp[hI.len])) (tM _ hD (by simp[hI.len];omega)) ?_⟩
  rw[hv]
  simp
  exact aR (by simp) rfl rfl

theorem Ca {n:Nat} (h:0<n):lim n=((n % 1000000000:Nat):Int)::lim (n / 1000000000):=oK (by omega)
theorem tF {N:Nat} (h:N≤18446744073709551615):(lim N).length≤3:=aL.2 (Nat.lt_of_le_of_lt h (by decide+kernel))
theorem Cy (N:Nat) (hN:N≤18446744073709551615):NW Tryz.prog 230 [.int .u64 N] (fl 1 (iv (lim N))):=by
 have hL:=tF hN
 refine iX Tryz.func230 rfl rfl (by rw[Tryz.ntmps230];simp) fun bl=> ?_
 rw[Tryz.ntmps230,Tryz.results230]
 refine aC ?_
 simp
 refine uK 3 1 (by simp) fun g00 tY=> ?_
 refine aJ (fun p:Int×List Int×Nat=> [(0,.int .u64 p.2.2),(3,.lsl p.1 1 0 p.2.1.length)]) (fun p=>upd bl p.1 (some ⟨1,iv p.2.1⟩)) (fun p=>lim N=p.2.1++lim p.2.2∧p.2.2≤18446744073709551615∧bl p.1=none∧(p.1<0→p.2.1= [])) (fun p=>p.2.2) _ (g00,[],N) ⟨by simp,hN,tY,fun _=>rfl⟩ ⟨rfl,by simp,sub_eq (by simp[iv])⟩ ?_
 rintro⟨g,o,n⟩ ⟨hl,hn,hg,h0⟩
 simp only at hl hn hg h0
 have hlo:o.length≤3:=by have:=congrArg List.length hl;simp at this;omega
 refine aC ?_
 simp
 refine⟨fun h=> ?_,fun h=> ?_⟩
 ·intro g2 hg2 h2g hb2
  simp[h2g,Ne.symm h2g,appV,elsV,Int.not_lt.2 hg2]
  refine⟨by omega,fun g3 hg3 hb3=> ?_⟩
  have gG:bl g3=none:=by grind
  have m0:(n:Int).tmod 1000000000=((n % 1000000000:Nat):Int):=by rw[Int.tmod_eq_emod_of_nonneg (by omega)];omega
  have q0:(n:Int).tdiv 1000000000=((n / 1000000000:Nat):Int):=by rw[Int.tdiv_eq_ediv_of_nonneg (by omega)];omega
  have w1:IntKind.i64.wrap ((n:Int) % 1000000000)=(n:Int) % 1000000000:=i64_in (by omega) (by omega)
  have w2:IntKind.u64.wrap ((n:Int) / 1000000000)=(n:Int) / 1000000000:=IntWalk.u64_in _ ⟨by omega,by omega⟩
  simp[m0,q0,w1,w2]
  rw[aB]
  refine⟨(g3,o++ [((n % 1000000000:Nat):Int)],n / 1000000000),⟨by rw[hl,Ca h];simp,by simp only;omega,gG,by simp only;omega⟩,by simp only;omega,rfl,by simp,?_⟩
  rw[aV]
  exact dK (by rw[dN];simp[iv]) (by simp[hg,hb2,h2g])
 ·have e:n=0:=by omega
  subst e
  rw[aX,List.append_nil] at hl
  refine gH [.lsl g 1 0 o.length] [g] (by simp) ?_ (by simpa using hg) (by simp[hg])
  rw[hl]
  exact dE.2 (.inr ⟨g,rfl,rfl,by simp,h0⟩)
theorem sP (N:Nat) (hN:N≤18446744073709551615):RO Tryz.prog 230 [.int .u64 N] (.sl (iv (lim N))):=by
 have:=jE 1 (Cy N hN) (kZ _ _ 0)
 simpa using this
structure ML where
 i:Nat
 o:List Int
 br:Nat
theorem W9 (a b:Nat) (hab:b≤a) (ha:(lim a).length≤1048575):RO Tryz.prog 272 [.sl (iv (lim a)),.sl (iv (lim b))] (.sl (iv (lim (a - b)))):=by
 refine aI Tryz.func272 rfl rfl (by rw[Tryz.ntmps272];simp) fun bl=> ?_
 rw[Tryz.ntmps272,Tryz.results272]
 refine aC ?_
 simp
 refine⟨by omega,by unfold maxLen;omega,fun g hg0 hg=> ?_⟩
 have er:List.replicate ((lim a).length) [V.int IntKind.i64 0]=iv (List.replicate ((lim a).length) 0):=by simp[iv]
 simp[er]
 refine aJ (fun p:ML=> [(0,.sl (iv (lim a))),(1,.sl (iv (lim b))),(5,.lsl g 1 0 (lim a).length),(6,.int .i64 p.br),(12,.sl (iv (lim a))),(13,.int .i64 (lim a).length),(14,.int .i64 p.i)]) (fun p=>upd bl g (some ⟨1,iv (p.o++List.replicate ((lim a).length - p.i) 0)⟩))
  (fun p=>p.i≤(lim a).length∧hH a b p.i p.o p.br) (fun p=>(lim a).length - p.i) _ ⟨0,[],0⟩ ⟨Nat.zero_le _,hH.start a b⟩ ⟨rfl,by simp,sub_eq (by simp)⟩ ?_
 rintro⟨i,o,br⟩ ⟨hi,hI⟩
 simp only at hi hI
 have hb1:=hI.x
 have hd1:=eN a i
 have hd2:=eN b i
 have hc1:=hI.c1
 refine aC ?_
 simp
 refine⟨fun h1=> ?_,fun h1=> ?_⟩
 ·obtain⟨k,hk⟩: ∃k,(lim a).length - i=k+1:=⟨(lim a).length - i - 1,by omega⟩
  have e:(lim a).length - (i+1)=k:=by omega
  have w1:IntKind.i64.wrap ((dg a i:Int) - br)=dg a i - br:=i64_in (by omega) (by omega)
  have w2:IntKind.i64.wrap ((dg a i:Int) - br - dg b i)=dg a i - br - dg b i:=i64_in (by omega) (by omega)
  have w3:IntKind.i64.wrap ((i:Int)+1)=i+1:=i64_in (by omega) (by omega)
  simp[aZ _ _ h1,w1]
  refine⟨fun h2=> ?_,fun h2=> ?_⟩
  ·simp[aZ _ _ h2,w2,w3,hk,kK hI.len]
   refine⟨fun h3=> ?_,fun h3=> ?_⟩
   ·have w4:IntKind.i64.wrap ((dg a i:Int) - br - dg b i+1000000000)=dg a i - br - dg b i+1000000000:=i64_in (by omega) (by omega)
    simp[w4,w3,h1,hk,kK hI.len]
    rw[aB]
    refine⟨⟨i+1,o++ [(dg a i:Int) - br - dg b i+1000000000],1⟩,⟨by simp only;omega,hI.N3 rfl (by omega)⟩,by simp only;omega,rfl,by simp,sub_eq ?_⟩
    rw[eX,nV hI.len]
    simp[e]
   ·simp[w3,h1,hk,kK hI.len]
    rw[aB]
    refine⟨⟨i+1,o++ [(dg a i:Int) - br - dg b i],0⟩,⟨by simp only;omega,hI.M4 rfl (by omega)⟩,by simp only;omega,rfl,by simp,sub_eq ?_⟩
    rw[eX,nV hI.len]
    simp[e]
  ·have d0:dg b i=0:=jQ (by omega)
   simp[w3,hk,kK hI.len]
   refine⟨fun h3=> ?_,fun h3=> ?_⟩
   ·have w4:IntKind.i64.wrap ((dg a i:Int) - br+1000000000)=dg a i - br+1000000000:=i64_in (by omega) (by omega)
    simp[w4,w3,h1,hk,kK hI.len]
    rw[aB]
    refine⟨⟨i+1,o++ [(dg a i:Int) - br+1000000000],1⟩,⟨by simp only;omega,hI.N3 (x:=(dg a i:Int) - br) (by omega) (by omega)⟩,by simp only;omega,rfl,by simp,sub_eq ?_⟩
    rw[eX,nV hI.len]
    simp[e]
   ·simp[w3,h1,hk,kK hI.len]
    rw[aB]
    refine⟨⟨i+1,o++ [(dg a i:Int) - br],0⟩,⟨by simp only;omega,hI.M4 (x:=(dg a i:Int) - br) (by omega) (by omega)⟩,by simp only;omega,rfl,by simp,sub_eq ?_⟩
    rw[eX,nV hI.len]
    simp[e]
 ·have e:i=(lim a).length:=by omega
  subst e
  have hv:=hI.done hab (Nat.le_refl _)
  have hg':bl g=none:=hg
  simp
  refine gP 1 bl _ (by simp[hg']) (lW (ns:=o) hg0 hg' (by simp) (by simp[hI.len])) (tM _ hI.dig (by simp[hI.len];omega)) ?_
  simp[hv]
  exact aR (by simp) rfl rfl

theorem Uf {bl:Int→Option Blk} {K:V→(Int→Option Blk)→Prop} (ns:List Int) (hd:Dig ns) (hn:ns.length≤1048576) (g:Int) (hg0:0≤g) (hb:bl g=some ⟨1,iv ns⟩)
  (hK: ∀m,m≤ns.length→ns.take m=lim (val ns)→K (.lsl g 1 0 m) bl):bW Tryz.prog 238 [.lsl g 1 0 ns.length] bl K:=by
 refine bO Tryz.func238 rfl rfl (by rw[Tryz.ntmps238];simp) ?_
 rw[Tryz.ntmps238,Tryz.results238]
 refine aC ?_
 simp
 refine aJ (fun n:Nat=> [(0,.lsl g 1 0 n)]) (fun _=>bl) (fun n=>n≤ns.length∧ ∀i (hi:i<ns.length),n≤i→ns[i]=0) (fun n=>n) _ ns.length ⟨Nat.le_refl _,fun i hi h=>by omega⟩ ⟨rfl,by simp,Sub.refl _⟩ ?_
 intro n ⟨hl,hz⟩
 refine aC ?_
 simp
 refine bQ [(0,.lsl g 1 0 n)] _ bl 14 (.bool (decide (0<n)&& decide (ns.getD (n - 1) 1=0))) ⟨rfl,by simp,Sub.refl _⟩ rfl ?_ ?_
 ·simp
  refine⟨fun h=> ?_,fun h=>by simp[h]⟩
  have w1:IntKind.i64.wrap ((n:Int) - 1)=((n - 1:Nat):Int):=by rw[i64_in (by omega) (by omega)];omega
  have h2:n - 1<ns.length:=by omega
  simp[w1,h2,h,hb,vC]
  omega
 simp
 refine⟨fun h1 h2=> ?_,fun h1=> ?_⟩
 ·have w1:IntKind.i64.wrap ((n:Int) - 1)=((n - 1:Nat):Int):=by rw[i64_in (by omega) (by omega)];omega
  simp[w1,sliV,hg0,aB]
  refine⟨n - 1,⟨by omega,fun i hi h3=> ?_⟩,by omega,rfl,?_,Sub.refl _⟩
  ·rcases Nat.lt_or_ge i n with h4 | h4
   ·obtain rfl:i=n - 1:=by omega
    simpa [hi] using h2
   ·exact hz i hi h4
  ·simp
 ·have hz2: ∀i (hi:i<ns.length),n=i+1→ns[i]≠0:=by
   intro i hi e
   subst e
   have:=h1 (by omega)
   simpa [hi] using this
  have:=zE hd hl hz hz2
  rw[bH]
  exact⟨[_],by simp,hK n hl this⟩
theorem Wa {bl bl':Int→Option Blk} {g:Int} {ns:List Int} {n:Nat} (hg0:0≤g) (hg:bl g=none) (hb:bl' g=some ⟨1,iv ns⟩) (hn:n≤ns.length):frz (dropB bl' bl) 1 (.lsl g 1 0 n)=some (.sl (iv (ns.take n))):=by
 unfold frz
 rw[if_neg (by omega)]
 unfold dropB
 rw[hg]
 simp only[hb]
 rw[if_pos (by simp;exact hn),List.drop_zero,yG,if_pos (mZ _)]
structure TL where
 i:Nat
 j:Nat
 O:List Int
 c:Nat
theorem Bt {bl:Int→Option Blk} {K:V→(Int→Option Blk)→Prop} (a b:Nat) (ha:(lim a).length≤400000) (hb:(lim b).length≤400000) (ha0:a≠0) (hb0:b≠0)
  (hK: ∀g O,0≤g→bl g=none→(lim (a*b)).length≤O.length→O.take (lim (a*b)).length=lim (a*b)→K (.lsl g 1 0 (lim (a*b)).length) (upd bl g (some ⟨1,iv O⟩))):bW Tryz.prog 228 [.sl (iv (lim a)),.sl (iv (lim b))] bl K:=by
 have la:(lim a).length≠0:=fun h=>ha0 (eJ.1 (List.length_eq_zero_iff.1 h))
 have lb:(lim b).length≠0:=fun h=>hb0 (eJ.1 (List.length_eq_zero_iff.1 h))
 refine bO Tryz.func228 rfl rfl (by rw[Tryz.ntmps228];simp) ?_
 rw[Tryz.ntmps228,Tryz.results228]
 refine aC ?_
 simp
 refine bQ [(0,.sl (iv (lim a))),(1,.sl (iv (lim b)))] _ bl 19 (.bool false) ⟨rfl,by simp,Sub.refl _⟩ rfl ?_ ?_
 ·have na:lim a≠ []:=fun h=>la (by rw[h];rfl)
  have nb:lim b≠ []:=fun h=>lb (by rw[h];rfl)
  simp[na,nb]
 have w0:IntKind.i64.wrap (((lim a).length:Int)+(lim b).length)=(lim a).length+(lim b).length:=i64_in (by omega) (by omega)
 simp[w0]
 refine⟨(lim a).length+(lim b).length,by simp,by simp,by omega,by unfold maxLen;omega,fun g hg0 hg=> ?_⟩
 have er:List.replicate ((lim a).length+(lim b).length) [V.int IntKind.i64 0]=iv (List.replicate ((lim a).length+(lim b).length) 0):=by simp[iv]
 simp[er]
 refine aJ (fun p:TL=> [(0,.sl (iv (lim a))),(1,.sl (iv (lim b))),(5,.lsl g 1 0 ((lim a).length+(lim b).length)),(26,.sl (iv (lim a))),(27,.int .i64 (lim a).length),(28,.int .i64 p.i)]) (fun p=>upd bl g (some ⟨1,iv p.O⟩))
  (fun p=>p.i≤(lim a).length∧iA a b p.i 0 p.O 0) (fun p=>(lim a).length - p.i) _ ⟨0,0,_,0⟩ ⟨Nat.zero_le _,iA.start a b⟩ ⟨rfl,by simp,sub_eq (by simp)⟩ ?_
 rintro⟨i,j0,O,c0⟩ ⟨hi,hI⟩
 simp only at hi hI
 refine aC ?_
 simp
 refine⟨fun h1=> ?_,fun h1=> ?_⟩
 ·simp[aZ _ _ h1]
  refine aJ (fun p:TL=> [(0,.sl (iv (lim a))),(1,.sl (iv (lim b))),(5,.lsl g 1 0 ((lim a).length+(lim b).length)),(6,.int .i64 i),(7,.int .i64 (dg a i:Nat)),(8,.int .i64 p.c),(26,.sl (iv (lim a))),(27,.int .i64 (lim a).length),(28,.int .i64 i),(33,.sl (iv (lim b))),(34,.int .i64 (lim b).length),(35,.int .i64 p.j)]) (fun p=>upd bl g (some ⟨1,iv p.O⟩))
   (fun p=>p.j≤(lim b).length∧iA a b i p.j p.O p.c) (fun p=>(lim b).length - p.j) _ ⟨i,0,O,0⟩ ⟨Nat.zero_le _,hI⟩ ⟨rfl,by simp,sub_eq (by simp)⟩ ?_
  rintro⟨i',j,O,c⟩ ⟨hj,hJ⟩
  simp only at hj hJ
  have hlen:=hJ.len
  refine aC ?_
  simp
  refine⟨fun h2=> ?_,fun h2=> ?_⟩
  ·have hk:i+j<O.length:=by omega
   obtain⟨n1,n2,n3,hN⟩:=hJ.next h1 h2 hk
   have w1:IntKind.i64.wrap ((i:Int)+j)=(i:Int)+j:=i64_in (by omega) (by omega)
   have p1:0≤(i:Int)+j:=by omega
   have p2:(i:Int)+j<(lim a).length+(lim b).length:=by omega
   have p3:((i:Int)+j).toNat=i+j:=by omega
   have w3:IntKind.i64.wrap ((j:Int)+1)=j+1:=i64_in (by omega) (by omega)
   have hm:0≤(dg a i:Int)*dg b j∧(dg a i:Int)*dg b j<1000000000000000000:=by
    have hO:=hJ.dig.at hk
    have e:0≤(dg a i:Int)*dg b j:=by rw[←Int.natCast_mul];omega
    exact⟨e,by omega⟩
   have hO:=hJ.dig.at hk
   have w4:IntKind.i64.wrap ((dg a i:Int)*dg b j)=(dg a i:Int)*dg b j:=i64_in (by omega) (by omega)
   have w5:IntKind.i64.wrap (O[i+j]+(dg a i:Int)*dg b j)=O[i+j]+(dg a i:Int)*dg b j:=i64_in (by omega) (by omega)
   have w6:IntKind.i64.wrap (O[i+j]+(dg a i:Int)*dg b j+c)=O[i+j]+(dg a i:Int)*dg b j+c:=i64_in (by omega) (by omega)
   have w7:=wq (x:=O[i+j]+(dg a i:Int)*dg b j+c) (n:=1000000000) n3 (by omega) (by omega)
   simp[aZ _ _ h2,w1,w3,w4,w5,w6,w7,p1,p2,p3,hk]
   rw[aB]
   obtain⟨c',hc'⟩: ∃c':Nat,(O[i+j]+(dg a i:Int)*dg b j+c).tdiv 1000000000=c':=⟨((O[i+j]+(dg a i:Int)*dg b j+c).tdiv 1000000000).toNat,by omega⟩
   refine⟨⟨i,j+1,O.set (i+j) ((O[i+j]+(dg a i:Int)*dg b j+c).tmod 1000000000),c'⟩,⟨by simp only;omega,?_⟩,by simp only;omega,rfl,by simp[hc'],sub_eq ?_⟩
   ·rw[hc'] at hN;exact hN
   ·rw[eX]
  ·have e:j=(lim b).length:=by omega
   have hk:i+(lim b).length<O.length:=by omega
   have hR:=hJ.row h1 (by omega) hj hk
   have w1:IntKind.i64.wrap ((i:Int)+(lim b).length)=(i:Int)+(lim b).length:=i64_in (by omega) (by omega)
   have p1:0≤(i:Int)+(lim b).length:=by omega
   have p2:(i:Int)+(lim b).length<(lim a).length+(lim b).length:=by omega
   have p3:((i:Int)+(lim b).length).toNat=i+(lim b).length:=by omega
   have w3:IntKind.i64.wrap ((i:Int)+1)=i+1:=i64_in (by omega) (by omega)
   simp[w1,w3,p1,p2,p3,hk]
   rw[aB]
   refine⟨⟨i+1,0,O.set (i+(lim b).length) c,0⟩,⟨by simp only;omega,hR⟩,by simp only;omega,rfl,by simp,sub_eq ?_⟩
   rw[eX]
 ·have hv:=hI.done (c:=0) (by omega)
  have hlen:=hI.len
  have hg':bl g=none:=by simpa using hg
  have e:((lim a).length+(lim b).length:Nat)=O.length:=hlen.symm
  rw[e]
  refine Uf O hI.dig (by omega) g hg0 (by simp) fun m hm ht=> ?_
  rw[hv] at ht
  have hml:m=(lim (a*b)).length:=by rw[←ht];simp;omega
  subst hml
  simp
  rw[bH]
  exact⟨[_],by simp,hK g O hg0 hg' hm ht⟩
theorem pH (a b:Nat) (ha:(lim a).length≤400000) (hb:(lim b).length≤400000):RO Tryz.prog 228 [.sl (iv (lim a)),.sl (iv (lim b))] (.sl (iv (lim (a*b)))):=by
 by_cases h0:a=0∨b=0
 ·have hz:a*b=0:=Nat.mul_eq_zero.2 h0
  rw[hz,aX]
  refine aI Tryz.func228 rfl rfl (by rw[Tryz.ntmps228];simp) fun bl=> ?_
  rw[Tryz.ntmps228,Tryz.results228]
  refine aC ?_
  simp
  refine bQ [(0,.sl (iv (lim a))),(1,.sl (iv (lim b)))] _ bl 19 (.bool true) ⟨rfl,by simp,Sub.refl _⟩ rfl ?_ ?_
  ·simp
   rcases h0 with h0 | h0
   ·simp[h0,aX]
   ·simp[h0,aX]
  simp
  exact aK [.nils] 0 (by simp) rfl (Sub.refl _)
 ·intro bl
  refine nE (Bt a b ha hb (by omega) (by omega) fun g O hg0 hg hl ht=>⟨1,?_,by simp[hg]⟩) ⟨rfl,rfl⟩
  have:=Wa (bl':=upd bl g (some ⟨1,iv O⟩)) hg0 hg (by simp) hl
  rw[ht] at this
  exact this
structure SL where
 i:Nat
 Q:List Int
 r:Int
theorem tX (a b:Nat) (ha:(lim a).length≤1048576) (hb0:0<b) (hb:b<1000000000):RO Tryz.prog 235 [.sl (iv (lim a)),.int .i64 b] (.tup [.sl (iv (lim (a / b))),.int .i64 (a % b:Nat)]):=by
 refine aI Tryz.func235 rfl rfl (by rw[Tryz.ntmps235];simp) fun bl=> ?_
 rw[Tryz.ntmps235,Tryz.results235]
 refine aC ?_
 simp
 refine⟨by omega,by unfold maxLen;omega,fun g hg0 hg=> ?_⟩
 have er:List.replicate ((lim a).length) [V.int IntKind.i64 0]=iv (List.replicate ((lim a).length) 0):=by simp[iv]
 have w0:IntKind.i64.wrap (((lim a).length:Int) - 1)=((lim a).length:Int) - 1:=i64_in (by omega) (by omega)
 simp[er,w0]
 refine aJ (fun p:SL=> [(0,.sl (iv (lim a))),(1,.int .i64 b),(6,.lsl g 1 0 (lim a).length),(7,.int .i64 p.r),(8,.int .i64 ((p.i:Int) - 1))]) (fun p=>upd bl g (some ⟨1,iv (List.replicate p.i 0++p.Q)⟩))
  (fun p=>0≤p.r∧qI a b p.i p.Q p.r.toNat) (fun p=>p.i) _ ⟨(lim a).length,[],0⟩ ⟨Int.le_refl _,qI.start a b hb0⟩ ⟨rfl,by simp,sub_eq (by simp)⟩ ?_
 rintro⟨i,Q,r⟩ ⟨hr0,hI⟩
 simp only at hr0 hI
 have hr:=hI.rlt
 have hle:=hI.le
 have hql:=hI.len
 refine aC ?_
 simp[-binV, -intV]
 refine⟨fun h1=> ?_,fun h1=> ?_⟩
 ·obtain⟨m,rfl⟩: ∃m,i=m+1:=⟨i - 1,by omega⟩
  have hm:m<(lim a).length:=by omega
  have hd:=eN a m
  obtain⟨z,hz⟩: ∃z,z=r.toNat*1000000000+dg a m:=⟨_,rfl⟩
  have hN:=hI.next (q:=z / b) (r':=z % b) (by rw[hz]) (by rw[hz])
  have e1:((m+1:Nat):Int) - 1=m:=by omega
  have w1:IntKind.i64.wrap (r*1000000000)=r*1000000000:=i64_in (by omega) (by omega)
  have w2:IntKind.i64.wrap (r*1000000000+dg a m)=z:=by rw[i64_in (by omega) (by omega)];omega
  have hz2:z≤9223372036854775807:=by omega
  simp[-binV, -intV,e1,aZ _ _ hm,w1,w2]
  clear w1 w2 hz
  have b0: ¬ b=0:=by omega
  have hg':bl g=none:=by simpa using hg
  have w3:=wq (x:=(z:Int)) (n:=b) (by omega) (by omega) (by omega)
  have w4:(z:Int).tdiv b=(z / b:Nat):=by rw[Int.tdiv_eq_ediv_of_nonneg (by omega)];simp
  have w5:(z:Int).tmod b=(z % b:Nat):=by rw[Int.tmod_eq_emod_of_nonneg (by omega)];simp
  rw[w4] at w3
  have w3':IntKind.i64.wrap ((z:Int) / b)=(z:Int) / b:=by simpa using w3
  refine⟨by omega,aW aM bl (by simp[hg']) [0,1,2,3,4,5,6,7,8] 2 (by kernel_rfl) ?_⟩
  simp[-binV, -intV,w3',w4,w5,hm,b0]
  have q:(iv (List.replicate (m+1) 0++Q))[m]? =some [.int .i64 0]:=by rw[eG _ _ (by simp;omega)];simp
  have w6:IntKind.i64.wrap ((m:Int) - 1)=(m:Int) - 1:=i64_in (by omega) (by omega)
  refine Dz 9 ?_
  simp[-binV, -intV,q,hg']
  refine Dz 10 ?_
  simp[-binV, -intV,hg']
  refine Dy ?_
  simp[-binV, -intV,w6,aB]
  refine⟨⟨m,((z / b:Nat):Int)::Q,(z % b:Nat)⟩,⟨by simp only;omega,by show qI a b m _ (((z % b:Nat):Int)).toNat;rw[Int.toNat_natCast];exact hN⟩,by simp only;omega,rfl,by simp,sub_eq ?_⟩
  rw[←pD m _ 0 Q,←eX]
  simp
 ·have e:i=0:=by omega
  subst e
  obtain⟨h2,h3⟩:=hI.done
  have h4:r=(a % b:Nat):=by omega
  have hg':bl g=none:=by simpa using hg
  simp
  refine gP 1 bl _ (by simp[hg']) (lW (ns:=Q) hg0 hg' (by simp) (by simp[hql])) (tM _ hI.dig (by omega)) ?_
  simp[h2,h4]
  exact aK [.sl (iv (lim (a / b))),.int .i64 (a % b:Nat)] 1 (by simp) rfl (by simp)

structure KL where
 i:Nat
 O:List Int
 c:Int
theorem Tb {bl:Int→Option Blk} {K:V→(Int→Option Blk)→Prop} (u:List Int) (V0 g j n m:Nat) (gu:Int) (hgu:0≤gu) (hb:bl gu=some ⟨1,iv u⟩) (hu:Dig u) (hn:(lim V0).length=n) (hm:j+m=u.length) (hnm:n<m) (hg:g<1000000000) (hul:u.length≤1048576)
  (hK: ∀(O:List Int) (c:Nat) (hk:j+n<O.length),iU u V0 g j n O c→K (.bool (decide (O[j+n] - c<0))) (upd bl gu (some ⟨1,iv (O.set (j+n) (O[j+n] - c))⟩))):
  bW Tryz.prog 236 [.lsl gu 1 j m,.sl (iv (lim V0)),.int .i64 g] bl K:=by
 have hu0:upd bl gu (some ⟨1,iv u⟩)=bl:=by
  funext x;simp only[aA];split
  ·rename_i h;rw[h,hb]
  ·rfl
 refine bO Tryz.func236 rfl rfl (by rw[Tryz.ntmps236];simp) ?_
 rw[Tryz.ntmps236,Tryz.results236]
 refine aC ?_
 simp[hn]
 refine aJ (fun p:KL=> [(0,.lsl gu 1 j m),(1,.sl (iv (lim V0))),(2,.int .i64 g),(7,.int .i64 p.c),(11,.sl (iv (lim V0))),(12,.int .i64 n),(13,.int .i64 p.i)]) (fun p=>upd bl gu (some ⟨1,iv p.O⟩))
  (fun p=>p.i≤n∧0≤p.c∧iU u V0 g j p.i p.O p.c.toNat) (fun p=>n - p.i) _ ⟨0,u,0⟩ ⟨Nat.zero_le _,Int.le_refl _,iU.start V0 g j hu⟩ ⟨rfl,by simp,sub_eq (by rw[hu0])⟩ ?_
 rintro⟨i,O,c⟩ ⟨hi,hc0,hI⟩
 simp only at hi hc0 hI
 have hc1:=hI.c1
 have hlen:=hI.len
 refine aC ?_
 simp[-binV, -intV]
 refine⟨fun h1=> ?_,fun h1=> ?_⟩
 ·have hv:i<(lim V0).length:=by omega
  have hk:j+i<O.length:=by omega
  have hO:=hI.dig.at hk
  obtain⟨m0,m1⟩:=hI.x hg hk
  have w3:IntKind.i64.wrap ((i:Int)+1)=i+1:=i64_in (by omega) (by omega)
  have w1:IntKind.i64.wrap ((g:Int)*dg V0 i)=(g:Int)*dg V0 i:=i64_in (by omega) (by omega)
  have w2:IntKind.i64.wrap (O[j+i] - (g:Int)*dg V0 i)=O[j+i] - (g:Int)*dg V0 i:=i64_in (by omega) (by omega)
  have w4:IntKind.i64.wrap (O[j+i] - (g:Int)*dg V0 i - c)=O[j+i] - (g:Int)*dg V0 i - c:=i64_in (by omega) (by omega)
  have him:(i:Int)<m:=by omega
  obtain⟨x,hx⟩: ∃x,x=O[j+i] - (g:Int)*dg V0 i - c:=⟨_,rfl⟩
  have hx':x=O[j+i] - (g:Int)*dg V0 i - (c.toNat:Int):=by rw[hx];omega
  have wx:IntKind.i64.wrap x=x:=i64_in (by omega) (by omega)
  have w5:IntKind.i64.wrap (999999999 - x)=999999999 - x:=i64_in (by omega) (by omega)
  have key:x<0→0≤(999999999 - x).tdiv 1000000000∧(999999999 - x).tdiv 1000000000<1000000000∧iU u V0 g j (i+1) (O.set (j+i) (x+(999999999 - x).tdiv 1000000000*1000000000)) ((999999999 - x).tdiv 1000000000).toNat:=fun h=>hI.N3 hg hk hx' h (by simp)
  obtain⟨y,hy⟩: ∃y,y=(999999999 - x).tdiv 1000000000:=⟨_,rfl⟩
  rw[←hy] at key
  simp[-binV, -intV,aZ _ _ hv,w1,w2,w4,hk,him,←hx,wx,w3,w5,←hy]
  refine⟨fun h3=> ?_,fun h3=> ?_⟩
  ·obtain⟨k1,k2,k3⟩:=key h3
   have w6:IntKind.i64.wrap y=y:=i64_in (by omega) (by omega)
   have w7:IntKind.i64.wrap (y*1000000000)=y*1000000000:=i64_in (by omega) (by omega)
   have w8:IntKind.i64.wrap (x+y*1000000000)=x+y*1000000000:=by
    have:=k3.dig.at (k:=j+i) (by simpa using hk)
    rw[List.getElem_set_self] at this
    exact i64_in (by omega) (by omega)
   simp[-binV, -intV,w6,w7,w8]
   rw[aB]
   refine⟨⟨i+1,O.set (j+i) (x+y*1000000000),y⟩,⟨by simp only;omega,k1,k3⟩,by simp only;omega,rfl,by simp,sub_eq ?_⟩
   rw[eX]
  ·rw[aB]
   refine⟨⟨i+1,O.set (j+i) x,0⟩,⟨by simp only;omega,Int.le_refl _,hI.M4 hg hk hx' (by omega)⟩,by simp only;omega,rfl,by simp,sub_eq ?_⟩
   rw[eX]
 ·have e:i=n:=by omega
  subst e
  have hk:j+i<O.length:=by omega
  have hO:=hI.dig.at hk
  obtain⟨c',rfl⟩: ∃c':Nat,c=c':=⟨c.toNat,by omega⟩
  have w1:IntKind.i64.wrap (O[j+i] - (c':Int))=O[j+i] - (c':Int):=i64_in (by omega) (by omega)
  have him:(i:Int)<m:=by omega
  simp[-binV, -intV,hn,him,hk,w1]
  refine⟨hnm,?_⟩
  rw[bH]
  refine⟨[.bool (decide (O[j+i] - (c':Int)<0))],by simp,?_⟩
  have:=hK O c' hk (by simpa using hI)
  rw[←eX] at this
  exact this
theorem Vw {bl:Int→Option Blk} {K:V→(Int→Option Blk)→Prop} (O:List Int) (t:Int) (V0 j n m:Nat) (gu:Int) (hgu:0≤gu) (hk:j+n<O.length) (hb:bl gu=some ⟨1,iv (O.set (j+n) t)⟩) (hO:Dig O) (hn:(lim V0).length=n) (hm:j+m=O.length) (ht: -1000000000≤t∧t≤1000000000) (hul:O.length≤1048576)
  (hK: ∀(v:V) (W:List Int) (d:Nat) (hk2:j+n<W.length),tW O V0 j n W d→K v (upd bl gu (some ⟨1,iv (W.set (j+n) (t+d))⟩))):
  bW Tryz.prog 237 [.lsl gu 1 j m,.sl (iv (lim V0))] bl K:=by
 have hu0:upd bl gu (some ⟨1,iv (O.set (j+n) t)⟩)=bl:=by
  funext x;simp only[aA];split
  ·rename_i h;rw[h,hb]
  ·rfl
 refine bO Tryz.func237 rfl rfl (by rw[Tryz.ntmps237];simp) ?_
 rw[Tryz.ntmps237,Tryz.results237]
 refine aC ?_
 simp[hn]
 refine aJ (fun p:KL=> [(0,.lsl gu 1 j m),(1,.sl (iv (lim V0))),(4,.int .i64 p.c),(8,.sl (iv (lim V0))),(9,.int .i64 n),(10,.int .i64 p.i)]) (fun p=>upd bl gu (some ⟨1,iv (p.O.set (j+n) t)⟩))
  (fun p=>p.i≤n∧0≤p.c∧tW O V0 j p.i p.O p.c.toNat) (fun p=>n - p.i) _ ⟨0,O,0⟩ ⟨Nat.zero_le _,Int.le_refl _,tW.start V0 j hO⟩ ⟨rfl,by simp,sub_eq (by rw[hu0])⟩ ?_
 rintro⟨i,W,c⟩ ⟨hi,hc0,hI⟩
 simp only at hi hc0 hI
 have hc1:=hI.c1
 have hlen:=hI.len
 refine aC ?_
 simp
 refine⟨fun h1=> ?_,fun h1=> ?_⟩
 ·have hv:i<(lim V0).length:=by omega
  have hki:j+i<W.length:=by omega
  have hne:j+n≠j+i:=by omega
  have hd:=eN V0 i
  have hW:=hI.dig.at hki
  obtain⟨n1,n2,n3,hN⟩:=hI.next hki
  have ec:((c.toNat:Nat):Int)=c:=by omega
  rw[ec] at n1 n2 n3 hN
  have q:(iv (W.set (j+n) t))[j+i]? =some [.int .i64 W[j+i]]:=by rw[eG _ _ (by simpa using hki),List.getElem_set_ne hne]
  have w3:IntKind.i64.wrap ((i:Int)+1)=i+1:=i64_in (by omega) (by omega)
  have w1:IntKind.i64.wrap (W[j+i]+(dg V0 i:Int))=W[j+i]+(dg V0 i:Int):=i64_in (by omega) (by omega)
  have w2:IntKind.i64.wrap (W[j+i]+(dg V0 i:Int)+c)=W[j+i]+(dg V0 i:Int)+c:=i64_in (by omega) (by omega)
  have w4:=wq (x:=W[j+i]+(dg V0 i:Int)+c) (n:=1000000000) n1 (by omega) (by omega)
  have him:(i:Int)<m:=by omega
  simp[-eG,aZ _ _ hv,q,w1,w2,w3,w4,him]
  rw[aB]
  refine⟨⟨i+1,W.set (j+i) ((W[j+i]+(dg V0 i:Int)+c).tmod 1000000000),(W[j+i]+(dg V0 i:Int)+c).tdiv 1000000000⟩,⟨by simp only;omega,n3,hN⟩,by simp only;omega,rfl,by simp,sub_eq ?_⟩
  rw[eX,List.set_comm _ _ hne]
 ·have e:i=n:=by omega
  subst e
  have hki:j+i<W.length:=by omega
  obtain⟨c',rfl⟩: ∃c':Nat,c=c':=⟨c.toNat,by omega⟩
  have w1:IntKind.i64.wrap (t+(c':Int))=t+(c':Int):=i64_in (by omega) (by omega)
  have him:(i:Int)<m:=by omega
  have q:(iv (W.set (j+i) t))[j+i]? =some [.int .i64 t]:=by rw[eG _ _ (by simpa using hki),List.getElem_set_self]
  simp[-eG,hn,him,hki,q,w1]
  refine⟨by omega,?_⟩
  rw[iV]
  refine⟨[],rfl,?_⟩
  have:=hK (retV []) W c' hki (by simpa using hI)
  rw[eX,List.set_set]
  exact this

theorem mR (a:List Int) (ha:a.length≤1048576):NW Tryz.prog 174 [.sl (iv a)] (fl 1 (iv a)):=by
 cases a with
 | nil =>
   intro bl
   refine yZ ?_ ?_
   ·refine sU ?_
    refine bO Tryz.func174 rfl rfl (by rw[Tryz.ntmps174];simp) ?_
    rw[Tryz.ntmps174,Tryz.results174]
    refine aC ?_
    simp
    exact gH [.nils] [] rfl (dE.2 (.inl ⟨rfl,rfl,rfl⟩)) (by simp) (Sub.refl _)
   ·refine sU ?_
    refine bO Tryz.func174 rfl rfl (by rw[Tryz.ntmps174];simp) ?_
    rw[Tryz.ntmps174,Tryz.results174]
    refine aC ?_
    simp
    intro g hg0 hg
    simp[appV,elsV]
    intro g' hb'
    refine gH [.lsl g' 1 0 0] [g'] (by simp) (dE.2 (.inr ⟨g',rfl,rfl,by simp[iv],fun _=>rfl⟩)) ?_ ?_
    ·simp;grind
    ·have:bl g'=none:=by grind
     simp[hg,this]
 | cons x a =>
   simp only[List.length_cons] at ha
   refine iX Tryz.func174 rfl rfl (by rw[Tryz.ntmps174];simp) fun bl=> ?_
   rw[Tryz.ntmps174,Tryz.results174]
   refine aC ?_
   simp[iv]
   intro g hg0 hg
   simp[appV,elsV]
   refine⟨by omega,fun g' hg' hb'=> ?_⟩
   have hbn:bl g'=none:=by grind
   refine gH [.lsl g' 1 0 (a.length+1)] [g'] (by simp) ?_ (by simpa using hbn) (by simp[hg,hbn])
   exact(dE (ns:=x::a)).2 (.inr ⟨g',by simp,rfl,by simp[iv],by omega⟩)
theorem H0 (a:List Int) (ha:a.length≤1048576):RO Tryz.prog 174 [.sl (iv a)] (.sl (iv a)):=by
 have:=jE 1 (mR a ha) (kZ _ _ 0)
 simpa using this

theorem Fz {a b:Nat} :iS a b<0 ↔ a<b:=by unfold iS;split<;>(try split)<;>omega
theorem Vb {b:Nat} (h:(lim b).length=1):dg b 0=b∧b<1000000000∧0<b:=by
 have h1:=eK b 0
 rw[fM (by omega)] at h1
 have h2:=eN b 0
 have h3:b≠0:=fun h0=>by rw[h0,aX] at h;simp at h
 simp at h1
 omega
theorem aCZ {d:Nat} (h0:0<d) (h1:d<1000000000):1≤1000000000 / (d+1)∧1000000000 / (d+1)<1000000000∧1000000000 / (d+1)*(d+1)≤1000000000:=by
 refine⟨?_,?_,Nat.div_mul_le_self _ _⟩
 ·rw[Nat.le_div_iff_mul_le (by omega)];omega
 ·exact Nat.div_lt_self (by omega) (by omega)
theorem Hp {f:Nat} (h0:0<f) (h1:f<1000000000):lim f= [(f:Int)]:=by
 rw[oK (by omega),show f / LB=0 from Nat.div_eq_of_lt h1,aX,show f % LB=f from Nat.mod_eq_of_lt h1]
theorem aCE {b f n:Nat} (hn:(lim b).length=n+1) (hf:f*(dg b n+1)≤LB) (hf0:0<f):(lim (b*f)).length=n+1:=by
 have h1:=cI (a:=b) (b:=b*f) (Nat.le_mul_of_pos_right _ hf0)
 have h2:(lim (b*f)).length≤n+1:=by
  refine aL.2 ?_
  have e:=eK b n
  rw[fM (by omega)] at e
  have hl:=W1 b n
  have h3:b+1≤LB^n*(dg b n+1):=by rw[Nat.mul_add];omega
  have h4:(b+1)*f≤LB^n*(dg b n+1)*f:=Nat.mul_le_mul_right _ h3
  have h5:LB^n*(dg b n+1)*f≤LB^n*LB:=by
   rw[Nat.mul_assoc,Nat.mul_comm (dg b n+1)];exact Nat.mul_le_mul_left _ hf
  rw[Nat.pow_succ]
  rw[Nat.add_mul,Nat.one_mul] at h4
  omega
 omega
theorem KnI.start {a b f k n:Nat} (hn:(lim b).length=n) (hf:0<f) (hb:0<b) (hL:(lim a).length+1≤(lim (a*f)).length+k) (hnL:n≤(lim a).length):
  KnI (a*f) (b*f) ((lim (a*f)).length+k) n ((lim (a*f)).length+k - n) (lim (a*f)++List.replicate k 0) []:=by
 have hd:Dig (lim (a*f)++List.replicate k 0):=Dig.append.2 ⟨gE _,rK k⟩
 have hv:val (lim (a*f)++List.replicate k 0)=a*f:=by rw[iN,rO,eS];simp
 refine⟨by simp,hd,by omega,by simp,(fun _ h=>by cases h),by rw[hv];simp[val],?_⟩
 generalize hj:(lim (a*f)).length+k - n=j
 have hs:=jV (lim (a*f)++List.replicate k 0) (k:=j) (by simp;omega)
 rw[hv] at hs
 generalize val ((lim (a*f)++List.replicate k 0).drop j)=x at hs ⊢
 rcases Nat.lt_or_ge x (b*f) with h | h
 ·exact h
 exfalso
 have h1:LB^j*(b*f)≤a*f:=by
  have:=Nat.mul_le_mul_left (LB^j) h
  omega
 have h2:LB^j*b≤a:=by
  rw[←Nat.mul_assoc] at h1
  exact Nat.le_of_mul_le_mul_right h1 hf
 have h3:=pU (n:=b) (by omega)
 have h4:LB^j*LB^((lim b).length - 1)≤LB^j*b:=Nat.mul_le_mul_left _ h3
 rw[←Nat.pow_add] at h4
 have h5:a<LB^(lim a).length:=aL.1 (Nat.le_refl _)
 have hb1:(lim b).length≠0:=fun h0=>by have:=eJ.1 (List.length_eq_zero_iff.1 h0);omega
 have h6:LB^(lim a).length≤LB^(j+((lim b).length - 1)):=Nat.pow_le_pow_right iO (by omega)
 omega
theorem Cl {a b f:Nat} (hf:0<f):a*f / (b*f)=a / b∧a*f % (b*f)=a % b*f:=⟨Nat.mul_div_mul_right _ _ hf,Nat.mul_mod_mul_right _ _ _⟩
structure GC (U V top t1 v1 v2 T ul vl : Nat) : Prop where
 hu:U=(top*LB+t1)*T+ul
 hv:V=(v1*LB+v2)*T+vl
 hul:ul<T
 hvl:vl<T
 hv1:0<v1
 hv2:v2<LB
 aL2:v1<LB
 ht1:t1<LB
 tN:top≤v1*LB+(LB - 1)
 hlt:U<LB*V
theorem GC.V0 {U V top t1 v1 v2 T ul vl:Nat} (h:GC U V top t1 v1 v2 T ul vl):0<V:=by
 rw[h.hv]
 have:=h.hvl
 have h0:0<v1*LB+v2:=by have:=Nat.mul_pos h.hv1 iO;omega
 have h1:=Nat.mul_pos h0 (show 0<T by omega)
 omega
structure GI (U V top v1 g r : Nat) : Prop where
 eq:top=g*v1+r
 lt:r<LB
 le:U / V≤g
theorem GC.start {U V top t1 v1 v2 T ul vl:Nat} (h:GC U V top t1 v1 v2 T ul vl):GI U V top v1 (top / v1) (top % v1):=by
 refine⟨by rw[Nat.mul_comm];exact(Nat.div_add_mod _ _).symm,Nat.lt_trans (Nat.mod_lt _ h.hv1) h.aL2,?_⟩
 have e1:U=top*(LB*T)+(t1*T+ul):=by rw[h.hu,Nat.add_mul,Nat.mul_assoc,Nat.add_assoc]
 have e2:V=v1*(LB*T)+(v2*T+vl):=by rw[h.hv,Nat.add_mul,Nat.mul_assoc,Nat.add_assoc]
 rw[e1,e2]
 refine Bh ?_ h.hv1
 have h1:(t1+1)*T≤LB*T:=Nat.mul_le_mul_right _ h.ht1
 rw[Nat.add_mul] at h1
 have:=h.hul
 omega
theorem GC.dec {U V top t1 v1 v2 T ul vl g r:Nat} (h:GC U V top t1 v1 v2 T ul vl) (hI:GI U V top v1 g r) (hc:LB≤g∨r*LB+t1<g*v2):0<g∧U / V≤g - 1∧top=(g - 1)*v1+(r+v1):=by
 have h1:U / V<g:=by
  rcases hc with hc | hc
  ·exact Cj h.V0 h.hlt hc
  ·have h2:=(D4 (v2:=v2) (u:=t1) hI.eq).1 hc
   rw[h.hu,h.hv]
   exact Jv (by have:=h.hul;omega) h.hul (by have:=Nat.mul_pos h.hv1 iO;omega) h2
 generalize U / V=q at h1 ⊢
 refine⟨by omega,by omega,?_⟩
 obtain⟨k,rfl⟩: ∃k,g=k+1:=⟨g - 1,by omega⟩
 have:=hI.eq
 rw[Nat.add_mul] at this
 rw[Nat.add_sub_cancel]
 omega
theorem GC.done {U V top t1 v1 v2 T ul vl g r:Nat} (h:GC U V top t1 v1 v2 T ul vl) (hI:GI U V top v1 g r) (h1:g<LB) (h2:g*v2≤r*LB+t1):g=U / V∨g=U / V+1:=by
 have hle:=hI.le
 have h3:g*(v1*LB+v2)≤top*LB+t1:=by
  have:=D4 (v2:=v2) (u:=t1) hI.eq
  omega
 have:=N5 (ul:=ul) h.hvl h.hv1 h1 h3
 rw[←h.hu,←h.hv] at this
 generalize U / V=q at *
 omega
theorem GC.brk {U V top t1 v1 v2 T ul vl g r:Nat} (h:GC U V top t1 v1 v2 T ul vl) (h0:top=g*v1+r) (h1:LB≤r) (h2:U / V≤g):g<LB∧(g=U / V∨g=U / V+1):=by
 obtain⟨h3,h4⟩:=Aj (u:=t1) h0 h1 h.tN h.hv2 h.hv1
 have:=N5 (ul:=ul) h.hvl h.hv1 h3 h4
 rw[←h.hu,←h.hv] at this
 generalize U / V=q at *
 exact⟨h3,by omega⟩

structure OL where
 j:Nat
 u:List Int
 Q:List Int
structure QL where
 g:Int
 r:Int
set_option maxHeartbeats 2000000 in
theorem xX (a b:Nat) (hb0:0<b) (ha:(lim a).length≤300000) (hbl:(lim b).length≤300000):RO Tryz.prog 176 [.sl (iv (lim a)),.sl (iv (lim b))] (.tup [.sl (iv (lim (a / b))),.sl (iv (lim (a % b)))]):=by
 refine aI Tryz.func176 rfl rfl (by rw[Tryz.ntmps176];simp) fun bl=> ?_
 rw[Tryz.ntmps176,Tryz.results176]
 refine aE ?_
 simp
 refine aE ?_
 simp
 refine aD (lF a b (by omega) (by omega)) ?_
 simp[Fz]
 refine⟨fun h=> ?_,fun h=> ?_⟩
 ·refine aD (H0 (lim a) (by omega)) ?_
  have e1:a / b=0:=Nat.div_eq_of_lt h
  have e2:a % b=a:=Nat.mod_eq_of_lt h
  simp[e1,e2,aX]
  exact aK [.nils,.sl (iv (lim a))] 1 (by simp) rfl (Sub.refl _)
 refine aE ?_
 simp
 refine⟨fun h1=> ?_,fun h1=> ?_⟩
 ·have h1':(lim b).length=1:=by omega
  obtain⟨b1,b2,b3⟩:=Vb h1'
  simp[aZ b 0 (by omega),b1]
  refine aD (tX a b (by omega) b3 b2) ?_
  have hr:a % b<b:=Nat.mod_lt _ b3
  obtain⟨r,hr2⟩: ∃r,r=a % b:=⟨_,rfl⟩
  rw[←hr2] at hr ⊢
  have w1:IntKind.u64.wrap (r:Int)=r:=IntWalk.u64_in _ ⟨by omega,by omega⟩
  simp[w1]
  refine aD (sP r (by omega)) ?_
  simp
  exact aK [.sl (iv (lim (a / b))),.sl (iv (lim r))] 1 (by simp) rfl (Sub.refl _)
 have hab:b≤a:=by omega
 have hla:=cI hab
 have hbz:(lim b).length≠0:=fun h0=>by have:=eJ.1 (List.length_eq_zero_iff.1 h0);omega
 obtain⟨n,hn⟩: ∃n,(lim b).length=n+2:=⟨(lim b).length - 2,by omega⟩
 have hd0:0<dg b (n+1):=R5 hn
 have hd1:=eN b (n+1)
 obtain⟨f0,f1,f2⟩:=aCZ hd0 hd1
 obtain⟨f,hf⟩: ∃f,f=1000000000 / (dg b (n+1)+1):=⟨_,rfl⟩
 rw[←hf] at f0 f1 f2
 have hbf:=aCE hn (show f*(dg b (n+1)+1)≤LB from f2) f0
 have hlf:=Hp f0 f1
 have hfl:(lim f).length=1:=by rw[hlf];rfl
 refine aE ?_
 have w0:IntKind.i64.wrap (((lim b).length:Int) - 1)=((n+1:Nat):Int):=by rw[i64_in (by omega) (by omega)];omega
 have w1:IntKind.i64.wrap ((dg b (n+1):Int)+1)=(dg b (n+1):Int)+1:=i64_in (by omega) (by omega)
 have w2:IntKind.i64.wrap ((1000000000:Int).tdiv ((dg b (n+1):Int)+1))=f:=by
  rw[Int.tdiv_eq_ediv_of_nonneg (by omega),show(1000000000:Int) / ((dg b (n+1):Int)+1)=((1000000000 / (dg b (n+1)+1):Nat):Int) by simp,←hf]
  exact i64_in (by omega) (by omega)
 have hz1: ¬ (dg b (n+1):Int)+1=0:=by omega
 generalize hdd:dg b (n+1)=d at *
 have lg:=aZ b (n+1) (by omega)
 rw[hdd] at lg
 have er1:List.range 1= [0]:=rfl
 simp[-binV, -intV,w0,w1,w2,lg,hz1,er1]
 refine⟨by omega,fun g8 hg8 hb8=> ?_⟩
 refine cP 1 8 (.sl (iv (lim f))) bl (by simp[hb8]) ?_ ?_
 ·rw[hlf]
  exact dW hg8 hb8 (by simp;rfl) rfl rfl
 refine aE ?_
 simp
 refine Bt a f (by omega) (by omega) (by omega) (by omega) fun g O hg0 hg hO ht=> ?_
 simp
 intro g2 hg2 h2g hb2
 simp[h2g,Ne.symm h2g,appV,elsV,Int.not_lt.2 hg2,hO,Int.not_lt.2 hg0]
 have aWW:(lim (a*f)).length≤(lim a).length+1:=by
  refine aL.2 ?_
  have h2:a<LB^(lim a).length:=aL.1 (Nat.le_refl _)
  rw[Nat.pow_succ]
  exact Nat.mul_lt_mul_of_lt_of_le h2 (Nat.le_of_lt f1) iO
 have aWE:=cI (a:=a) (b:=a*f) (Nat.le_mul_of_pos_right _ f0)
 refine⟨by omega,fun g3 hg3 hb3=> ?_⟩
 have gG:bl g3=none:=by grind
 refine aD (pH b f (by omega) (by omega)) ?_
 simp
 refine fZ (fun p:Int×Nat=> [(0,.sl (iv (lim a))),(8,.sl (iv (lim f))),(9,.lsl p.1 1 0 ((lim (a*f)).length+p.2)),(10,.sl (iv (lim (b*f))))]) (fun p=>upd bl p.1 (some ⟨1,iv (lim (a*f)++List.replicate p.2 0)⟩))
  (fun p=>bl p.1=none∧0≤p.1∧(lim a).length+1≤(lim (a*f)).length+p.2∧1≤p.2∧p.2≤3) 172 ?_ ?_
 ·refine aC ?_
  simp
  refine aJ (fun p:Int×Nat=> [(0,.sl (iv (lim a))),(8,.sl (iv (lim f))),(9,.lsl p.1 1 0 ((lim (a*f)).length+p.2)),(10,.sl (iv (lim (b*f))))]) (fun p=>upd bl p.1 (some ⟨1,iv (lim (a*f)++List.replicate p.2 0)⟩))
   (fun p=>bl p.1=none∧0≤p.1∧1≤p.2∧p.2≤3) (fun p=>3 - p.2) _ (g3,1) ⟨gG,hg3,by simp,by simp⟩ ⟨rfl,by simp,dK (by simp[aV,yG,ht];rfl) (by simp[hg,hb2])⟩ ?_
  rintro⟨g4,k⟩ ⟨hb4,hg4,hk1,hk3⟩
  simp only at hb4 hg4 hk1 hk3
  refine aC ?_
  simp
  refine⟨fun h2=> ?_,fun h2=> ?_⟩
  ·intro g5 hg5 h54 hb5
   simp[h54,Ne.symm h54,appV,elsV,Int.not_lt.2 hg5]
   refine⟨by omega,fun g6 hg6 hb6=> ?_⟩
   have aTD:bl g6=none:=by grind
   rw[aB]
   refine⟨(g6,k+1),⟨aTD,hg6,by simp,by simp only;omega⟩,by simp only;omega,rfl,by simp[Nat.add_assoc],dK ?_ (by simp[hb4,hb5])⟩
   rw[List.take_of_length_le (by simp)]
   simp[iv,List.replicate_succ']
  ·rw[aH]
   exact⟨(g4,k),⟨hb4,hg4,by simp only;omega,hk1,hk3⟩,rfl,by simp,Sub.refl _⟩
 rintro⟨g4,k⟩ ⟨hb4,hg4,hk0,hk1,hk3⟩
 simp only at hb4 hg4 hk0 hk1 hk3
 have hKs:=KnI.start (a:=a) (b:=b) (f:=f) (k:=k) hn f0 hb0 hk0 (by omega)
 generalize hL:(lim (a*f)).length+k=L at *
 obtain⟨N,hN⟩: ∃N,N=n+2:=⟨_,rfl⟩
 have aCC:(lim (b*f)).length=N:=by omega
 rw[←hN] at hKs
 have hLn:N≤L:=by omega
 have w3:IntKind.i64.wrap ((L:Int) - (N:Int))=((L - N:Nat):Int):=by rw[i64_in (by omega) (by omega)];omega
 have w4:IntKind.i64.wrap (((L - N:Nat):Int) - 1)=((L - N:Nat):Int) - 1:=i64_in (by omega) (by omega)
 refine aC ?_
 simp[aCC,w3,w4]
 refine⟨by omega,by unfold maxLen;omega,fun g5 hg5 h54 hb5=> ?_⟩
 have er:List.replicate (L - N) [V.int IntKind.i64 0]=iv (List.replicate (L - N) 0):=by simp[iv]
 simp[er,h54,Ne.symm h54,aCC,w3,w4]
 refine aJ (fun p:OL=> [(8,.sl (iv (lim f))),(9,.lsl g4 1 0 L),(10,.sl (iv (lim (b*f)))),(11,.int .i64 N),(12,.lsl g5 1 0 (L - N)),(13,.int .i64 ((p.j:Int) - 1))]) (fun p=>upd (upd bl g4 (some ⟨1,iv p.u⟩)) g5 (some ⟨1,iv (List.replicate p.j 0++p.Q)⟩))
  (fun p=>p.j≤L - N∧KnI (a*f) (b*f) L N p.j p.u p.Q) (fun p=>p.j) _ ⟨L - N,_,[]⟩ ⟨Nat.le_refl _,hKs⟩ ⟨rfl,by simp,sub_eq (by simp)⟩ ?_
 rintro⟨j,u,Q⟩ ⟨hj,hI⟩
 simp only at hj hI
 have hlen:=hI.len
 refine aE ?_
 simp
 refine⟨fun h2=> ?_,fun h2=> ?_⟩
 ·obtain⟨m,rfl⟩: ∃m,j=m+1:=⟨j - 1,by omega⟩
  have hV:=aCC
  generalize hVV:b*f=W at *
  have hUV:=hI.U
  have hz:=hI.zero hV
  have hk3:m+N<u.length:=by omega
  have hk2:m+(n+1)<u.length:=by omega
  have hk1:m+n<u.length:=by omega
  have t3:=hI.dig.at hk3
  have t2:=hI.dig.at hk2
  have t1:=hI.dig.at hk1
  obtain⟨A6,tN⟩: ∃t,t=u[m+N].toNat*LB+u[m+(n+1)].toNat:=⟨_,rfl⟩
  have hGC:GC (val (u.drop m)) W A6 u[m+n].toNat (dg W (n+1)) (dg W n) (LB^n) (val ((u.drop m).take n)) (pv W n):=by
   have hLB:LB=1000000000:=rfl
   subst hN
   have htv:=hI.top hV hk3
   refine⟨?_,aHC hV,?_,W1 _ _,R5 hV,?_,?_,?_,?_,hUV⟩
   ·rw[tN];exact aN6 hI.dig hz hk3 hk2 hk1
   ·exact oJ fun d hd=>hI.dig d (List.mem_of_mem_drop hd)
   ·exact eN _ _
   ·exact eN _ _
   ·rw[hLB];omega
   ·rw[tN,hLB];omega
  have hv1:=hGC.hv1
  have aL2:=eN W (n+1)
  have aX2:=eN W n
  refine fZ (fun p:OL=> [(8,.sl (iv (lim f))),(9,.lsl g4 1 0 L),(10,.sl (iv (lim W))),(11,.int .i64 N),(12,.lsl g5 1 0 (L - N)),(13,.int .i64 (p.j:Int))]) (fun p=>upd (upd bl g4 (some ⟨1,iv p.u⟩)) g5 (some ⟨1,iv (List.replicate p.j 0++p.Q)⟩))
   (fun p=>p.j=m∧KnI (a*f) W L N m p.u p.Q) 172 ?_ ?_
  ·refine aT ?_
   refine aE ?_
   simp[-binV, -intV]
   have e1:((m+1:Nat):Int) - 1=m:=by omega
   have i1:IntKind.i64.wrap ((m:Int)+N)=(m:Int)+N:=i64_in (by omega) (by omega)
   have i2:IntKind.i64.wrap ((m:Int)+N - 1)=(m:Int)+(n+1):=by rw[i64_in (by omega) (by omega)];omega
   have i3:IntKind.i64.wrap ((N:Int) - 1)=(n:Int)+1:=by rw[i64_in (by omega) (by omega)];omega
   have p1:0≤(m:Int)+N:=by omega
   have p2:0≤(m:Int)+(n+1):=by omega
   have p3:0≤(n:Int)+1:=by omega
   have l1:(m:Int)+N<L:=by omega
   have l2:(m:Int)+(n+1)<L:=by omega
   have c1:((m:Int)+N).toNat=m+N:=by omega
   have c2:((m:Int)+(n+1)).toNat=m+(n+1):=by omega
   have c3:((n:Int)+1).toNat=n+1:=by omega
   have hLB:LB=1000000000:=rfl
   have x1:IntKind.i64.wrap (u[m+N]*1000000000)=u[m+N]*1000000000:=i64_in (by omega) (by omega)
   have x2:IntKind.i64.wrap (u[m+N]*1000000000+u[m+(n+1)])=A6:=by rw[i64_in (by omega) (by omega),tN,hLB];omega
   have hz0: ¬ dg W (n+1)=0:=by omega
   have aVV:A6≤1000000000000000000:=by rw[tN,hLB];omega
   have lw:=aZ W (n+1) (by omega)
   have y1:(A6:Int).tdiv (dg W (n+1):Nat)=(A6 / dg W (n+1):Nat):=by rw[Int.tdiv_eq_ediv_of_nonneg (by omega)];simp
   have y2:(A6:Int).tmod (dg W (n+1):Nat)=(A6 % dg W (n+1):Nat):=by rw[Int.tmod_eq_emod_of_nonneg (by omega)];simp
   have y3:=wq (x:=(A6:Int)) (n:=(dg W (n+1):Nat)) (by omega) (by omega) (by omega)
   rw[y1] at y3
   obtain⟨g0,tY⟩: ∃g0:Int,g0=(A6 / dg W (n+1):Nat):=⟨_,rfl⟩
   obtain⟨r0,aBO⟩: ∃r0:Int,r0=(A6 % dg W (n+1):Nat):=⟨_,rfl⟩
   rw[←tY] at y1 y3
   rw[←aBO] at y2
   refine cQ aM (by kernel_rfl) ?_
   simp[-binV, -intV,e1,i1,i2,p1,p2,l1,l2,c1,c2,hk3,hk2,x1,x2,h54,Ne.symm h54]
   refine aE ?_
   simp
   refine cQ aM (by kernel_rfl) ?_
   simp[-binV, -intV,e1,i3,p3,c3,lw,hz0,y1,y2,y3]
   refine fZ (fun p:QL=> [(8,.sl (iv (lim f))),(9,.lsl g4 1 0 L),(10,.sl (iv (lim W))),(11,.int .i64 N),(12,.lsl g5 1 0 (L - N)),(13,.int .i64 m),(15,.int .i64 p.g)]) (fun p=>upd (upd bl g4 (some ⟨1,iv u⟩)) g5 (some ⟨1,iv (List.replicate (m+1) 0++Q)⟩))
    (fun p=>0≤p.g∧p.g<1000000000∧(p.g.toNat=val (u.drop m) / W∨p.g.toNat=val (u.drop m) / W+1)) 172 ?_ ?_
   ·refine aC ?_
    simp[-binV, -intV]
    refine aJ (fun p:QL=> [(8,.sl (iv (lim f))),(9,.lsl g4 1 0 L),(10,.sl (iv (lim W))),(11,.int .i64 N),(12,.lsl g5 1 0 (L - N)),(13,.int .i64 m),(15,.int .i64 p.g),(16,.int .i64 p.r)]) (fun p=>upd (upd bl g4 (some ⟨1,iv u⟩)) g5 (some ⟨1,iv (List.replicate (m+1) 0++Q)⟩))
     (fun p=>0≤p.g∧0≤p.r∧GI (val (u.drop m)) W A6 (dg W (n+1)) p.g.toNat p.r.toNat) (fun p=>p.g.toNat) _ ⟨g0,r0⟩ ⟨by simp only[tY];exact Int.natCast_nonneg _,by simp only[aBO];exact Int.natCast_nonneg _,?_⟩ ⟨rfl,by simp,sub_eq (by simp)⟩ ?_
    ·have:=hGC.start
     simp only[tY,aBO,Int.toNat_natCast]
     exact this
    rintro⟨gg,rr⟩ ⟨hgg,hrr,hGI⟩
    simp only at hgg hrr hGI
    refine aE ?_
    simp[-binV, -intV]
    have hgN:gg≤1000000000000000000:=by
     have e:=hGI.eq
     have h3:gg.toNat*1≤gg.toNat*dg W (n+1):=Nat.mul_le_mul_left _ hv1
     omega
    have hrl:=hGI.lt
    rw[hLB] at hrl
    have i4:IntKind.i64.wrap ((N:Int) - 2)=(n:Int):=by rw[i64_in (by omega) (by omega)];omega
    have i5:IntKind.i64.wrap ((m:Int)+N - 2)=(m:Int)+n:=by rw[i64_in (by omega) (by omega)];omega
    have p4:0≤(m:Int)+n:=by omega
    have l4:(m:Int)+n<L:=by omega
    have c4:((m:Int)+n).toNat=m+n:=by omega
    have lw2:=aZ W n (by omega)
    have z1:IntKind.i64.wrap (rr*1000000000)=rr*1000000000:=i64_in (by omega) (by omega)
    have z2:IntKind.i64.wrap (rr*1000000000+u[m+n])=rr*1000000000+u[m+n]:=i64_in (by omega) (by omega)
    refine tG aM (by kernel_rfl) [(8,.sl (iv (lim f))),(9,.lsl g4 1 0 L),(10,.sl (iv (lim W))),(11,.int .i64 N),(12,.lsl g5 1 0 (L - N)),(13,.int .i64 m),(15,.int .i64 gg),(16,.int .i64 rr)] _ (upd (upd bl g4 (some ⟨1,iv u⟩)) g5 (some ⟨1,iv (List.replicate (m+1) 0++Q)⟩))
     131 (.bool (decide (1000000000≤gg)|| decide (rr*1000000000+u[m+n]<gg*(dg W n:Nat)))) ⟨rfl,by simp,Sub.refl _⟩ rfl ?_ ?_
    ·by_cases hbig:1000000000≤gg
     ·simp[-binV, -intV,hbig]
     ·have z3:IntKind.i64.wrap (gg*(dg W n:Nat))=gg*(dg W n:Nat):=by
       have q1:0≤gg*(dg W n:Nat):=Int.mul_nonneg hgg (by omega)
       have q2:gg*(dg W n:Nat)≤1000000000*1000000000:=Int.mul_le_mul (by omega) (by omega) (by omega) (by omega)
       exact i64_in (by omega) (by omega)
      simp[-binV, -intV,hbig,i1,i4,i5,p4,l4,c4,hk1,lw2,z1,z2,z3,h54,Ne.symm h54]
    have conv:(1000000000≤gg∨rr*1000000000+u[m+n]<gg*(dg W n:Nat)) ↔ (LB≤gg.toNat∨rr.toNat*LB+u[m+n].toNat<gg.toNat*dg W n):=by
     have e:gg*(dg W n:Nat)=((gg.toNat*dg W n:Nat):Int):=by rw[Int.natCast_mul,Int.toNat_of_nonneg hgg]
     rw[e,hLB];omega
    simp[-binV, -intV]
    refine⟨fun hc=> ?_,fun hc1 hc2=> ?_⟩
    ·obtain⟨d1,d2,d3⟩:=hGC.dec hGI (conv.1 hc)
     have q1:IntKind.i64.wrap (gg - 1)=gg - 1:=i64_in (by omega) (by omega)
     have q2:IntKind.i64.wrap (rr+(dg W (n+1):Nat))=rr+(dg W (n+1):Nat):=i64_in (by omega) (by omega)
     have e1:(gg - 1).toNat=gg.toNat - 1:=by omega
     have e2:(rr+(dg W (n+1):Nat)).toNat=rr.toNat+dg W (n+1):=by omega
     refine aC ?_
     simp[-binV, -intV,q1,q2,i3,p3,c3,lw]
     refine⟨fun hb=> ?_,fun hb=> ?_⟩
     ·obtain⟨f3,f4⟩:=hGC.brk d3 (by rw[hLB];omega) d2
      rw[hLB] at f3
      rw[aH]
      exact⟨⟨gg - 1,0⟩,⟨by simp only;omega,by simp only;omega,by rw[e1];exact f4⟩,rfl,by simp,Sub.refl _⟩
     ·rw[aB]
      exact⟨⟨gg - 1,rr+(dg W (n+1):Nat)⟩,⟨by simp only;omega,by simp only;omega,⟨by rw[e1,e2];exact d3,by rw[e2,hLB];omega,by rw[e1];exact d2⟩⟩,by simp only;omega,rfl,by simp,Sub.refl _⟩
    ·have hn: ¬ (LB≤gg.toNat∨rr.toNat*LB+u[m+n].toNat<gg.toNat*dg W n):=fun hh=>(conv.2 hh).elim (fun h=>by omega) (fun h=>by omega)
     have f4:=hGC.done hGI (by rcases Nat.lt_or_ge gg.toNat LB with h | h;exact h;exact(hn (.inl h)).elim) (by rcases Nat.lt_or_ge (rr.toNat*LB+u[m+n].toNat) (gg.toNat*dg W n) with h | h;exact(hn (.inr h)).elim;exact h)
     rw[aH]
     exact⟨⟨gg,0⟩,⟨hgg,by simp only;omega,f4⟩,rfl,by simp,Sub.refl _⟩
   ·rintro⟨gg,rr⟩ ⟨hgg,hg9,hgD⟩
    simp only at hgg hg9 hgD
    obtain⟨gN,rfl⟩: ∃gN:Nat,gg=gN:=⟨gg.toNat,by omega⟩
    rw[Int.toNat_natCast] at hgD
    have hs:sliV Tryz.prog 27 (.lsl g4 1 0 L) (some (.int .i64 (m:Nat))) none=some (.lsl g4 1 m (L - m)):=by
     simp[sliV]
     rcases Nat.eq_zero_or_pos m with h | h
     ·subst h;simp;omega
     ·simp[show ¬ m=0 by omega,show ¬ m=L by omega];omega
    have hW0:=hGC.V0
    have b4:(upd (upd bl g4 (some ⟨1,iv u⟩)) g5 (some ⟨1,iv (List.replicate (m+1) 0++Q)⟩)) g4=some ⟨1,iv u⟩:=by simp[Ne.symm h54]
    have q5:(iv (List.replicate (m+1) 0++Q))[m]? =some [.int .i64 0]:=by rw[eG _ _ (by simp;omega)];simp
    have lm:m<L - N:=by omega
    refine aE ?_
    simp[hs]
    refine Tb u W gN m N (L - m) g4 hg4 b4 hI.dig hV (by omega) (by omega) (by omega) (by omega) fun O c hk hT=> ?_
    have hOl:=hT.len
    simp
    refine⟨fun hc=> ?_,fun hc=> ?_⟩
    ·have hov:=Dx hI.dig hT hV hk hz hgD hW0 (by omega)
     have q1:IntKind.i64.wrap ((gN:Int) - 1)=(val (u.drop m) / W:Nat):=by rw[i64_in (by omega) (by omega),hov];simp
     have hO9:=hT.dig.at hk
     have hc9:=hT.c1
     simp[hs,q1]
     refine Vw O (O[m+N] - c) W m N (L - m) g4 hg4 hk (by simp[Ne.symm h54]) hT.dig hV (by omega) (by omega) (by omega) fun v W2 d2 hk2 hG=> ?_
     obtain⟨z0,zD,zv⟩:=Em hI.dig hT hG hV hk hk2 hz hov hW0
     rw[z0]
     have hN2:=hI.next (O:=W2.set (m+N) 0) (by simp[hG.len,hOl,hlen]) zD zv
     simp
     refine aC ?_
     simp[q5,h54,Ne.symm h54,lm]
     rw[aH]
     refine⟨⟨m,W2.set (m+N) 0,((val (u.drop m) / W:Nat):Int)::Q⟩,⟨rfl,hN2⟩,rfl,by simp,sub_eq ?_⟩
     funext x
     simp only[aA,←pD m _ 0 Q,←eX]
     by_cases x1:x=g5
     ·simp[x1]
     ·by_cases x2:x=g4<;>simp[x1,x2]
    ·obtain⟨zD,zq,zv⟩:=Dg hI.dig hT hV hk hgD hW0 (by omega)
     have hN2:=hI.next (O:=O.set (m+N) (O[m+N] - c)) (by simp[hOl,hlen]) zD zv
     refine aC ?_
     rw[zq]
     simp[q5,h54,Ne.symm h54,lm]
     rw[aH]
     refine⟨⟨m,O.set (m+N) (O[m+N] - c),((val (u.drop m) / W:Nat):Int)::Q⟩,⟨rfl,hN2⟩,rfl,by simp,sub_eq ?_⟩
     funext x
     simp only[aA,←pD m _ 0 Q,←eX]
     by_cases x1:x=g5
     ·simp[x1]
     ·by_cases x2:x=g4<;>simp[x1,x2]
  ·rintro⟨j',u',Q'⟩ ⟨hj',hI'⟩
   simp only at hj' hI'
   subst hj'
   have w5:IntKind.i64.wrap ((j':Int) - 1)=(j':Int) - 1:=i64_in (by omega) (by omega)
   refine aC ?_
   simp[w5]
   rw[aB]
   exact⟨⟨j',u',Q'⟩,⟨by simp only;omega,hI'⟩,by simp only;omega,rfl,by simp,Sub.refl _⟩
 ·have e:j=0:=by omega
  subst e
  obtain⟨v1,v2⟩:=hI.done
  obtain⟨s1,s2⟩:=Cl (a:=a) (b:=b) (f:=f) f0
  rw[s1] at v1
  rw[s2] at v2
  have lf:=aZ f 0 (by omega)
  have df:dg f 0=f:=(Vb hfl).1
  have hq2:a % b*f / f=a % b:=Nat.mul_div_cancel _ f0
  have hlu:(lim (a % b*f)).length≤1048576:=by
   have:=cI (a:=a % b*f) (b:=a*f) (Nat.mul_le_mul_right _ (Nat.mod_le _ _));omega
  refine cP 1 9 (.sl (iv u)) (upd bl g5 (some ⟨1,iv Q⟩)) (by intro x y;simp only[aA];grind) ?_ ?_
  ·exact dW hg4 (by simp[Ne.symm h54,hb4]) (by simp[Ne.symm h54]) (by simp[hlen]) (mZ u)
  refine cP 1 12 (.sl (iv Q)) bl (by simp[hb5]) ?_ ?_
  ·exact dW hg5 hb5 (by simp) (by simp[hI.aCT]) (mZ Q)
  refine cQ aM (by kernel_rfl) ?_
  simp
  refine aO (tM u hI.dig (by omega)) ?_
  simp[v2,lf,df]
  refine aO (tX _ f hlu f0 f1) ?_
  simp[hq2]
  refine aD (tM Q hI.aMV (by have:=hI.aCT;omega)) ?_
  simp[v1]
  exact aK [.sl (iv (lim (a / b))),.sl (iv (lim (a % b)))] 1 (by simp) rfl (Sub.refl _)
end Go.Proofs.YticmgmemnpcbbaaGreat.Vm

namespace Go.Proofs.YticmgmemnpcbbaaGreat.Vm
set_option linter.unusedSimpArgs false
set_option linter.unusedVariables false
structure RT where
 neg:Bool
 m:List Int
 d:List Int
 deriving DecidableEq
def rq (q:Rat):RT:=⟨decide (q.num<0),lim q.num.natAbs,lim q.den⟩
def rz :RT:=⟨false,[],[]⟩
def fits (q:Rat):Prop:=(lim q.num.natAbs).length≤24∧(lim q.den).length≤24
instance (q : Rat) : Decidable (fits q) := by unfold fits; infer_instance
def fit (q:Rat):Option Rat:=if fits q then some q else none
def RT.ok (r:RT):Prop:=lim (val r.m)=r.m∧lim (val r.d)=r.d∧r.m.length≤24∧r.d.length≤24∧r.d≠ []∧ ¬ (r.neg=true∧r.m= [])∧Nat.gcd (val r.m) (val r.d)=1
instance (r : RT) : Decidable r.ok := by unfold RT.ok; infer_instance
def RT.num (r:RT):Int:=if r.neg then -(val r.m:Int) else val r.m
def rd (r:RT):Option Rat:=if r.ok then some (mkRat r.num (val r.d)) else none
def ro (x:Option Rat):RT:=match x with | some q=>rq q | none=>rz
@[simp] theorem aPC : ro none = rz := rfl
@[simp] theorem nK (q : Rat) : ro (some q) = rq q := rfl
theorem G5 {n:Int} {d:Nat} (hd:d≠0) (h:Nat.gcd n.natAbs d=1):(mkRat n d).num=n∧(mkRat n d).den=d:=by
 rw[←Rat.normalize_eq_mkRat hd,Rat.normalize_eq hd]
 constructor
 ·show n / ((Nat.gcd n.natAbs d:Nat):Int)=n
  rw[h];simp
 ·show d / Nat.gcd n.natAbs d=d
  rw[h];simp
theorem RT.De (r:RT):r.num.natAbs=val r.m:=by
 unfold RT.num;split<;>simp
theorem rd_some {r:RT} {q:Rat} (h:rd r=some q):r=rq q∧fits q:=by
 unfold rd at h
 split at h
 ·rename_i hok
  obtain⟨h1,h2,h3,h4,h5,h6,h7⟩:=hok
  have hq:mkRat r.num (val r.d)=q:=Option.some.inj h
  have hd0:val r.d≠0:=fun h0=>by rw[h0,aX] at h2;exact h5 h2.symm
  have ha:=r.De
  obtain⟨e1,e2⟩:=G5 (n:=r.num) hd0 (by rw[ha];exact h7)
  rw[hq] at e1 e2
  have f1:lim q.num.natAbs=r.m:=by rw[e1,ha,h1]
  have f2:lim q.den=r.d:=by rw[e2,h2]
  refine⟨?_,by rw[f1];exact h3,by rw[f2];exact h4⟩
  unfold rq
  rw[f1,f2,e1]
  cases r with
  | mk neg m d =>
    congr 1
    unfold RT.num
    simp only at h1 h6 ⊢
    cases neg
    ·simp
    ·simp
     have:m≠ []:=fun hm=>h6 ⟨rfl,hm⟩
     have:val m≠0:=fun h0=>by rw[h0,aX] at h1;exact this h1.symm
     omega
 ·cases h
theorem Qs {q:Rat} (h:fits q):rd (rq q)=some q:=by
 have hok:(rq q).ok:=by
  unfold rq RT.ok
  simp only[eS]
  refine⟨trivial,trivial,h.1,h.2,fun h0=>q.den_nz (eJ.1 h0),?_,q.reduced⟩
  rintro⟨h1,h2⟩
  have h3:q.num.natAbs=0:=eJ.1 h2
  have:q.num<0:=by simpa using h1
  omega
 unfold rd
 rw[if_pos hok]
 congr 1
 have:(rq q).num=q.num:=by
  unfold rq RT.num
  simp only[eS]
  by_cases h1:q.num<0
  ·simp[h1];omega
  ·simp[h1];omega
 rw[this]
 show mkRat q.num (val (lim q.den))=q
 rw[eS,Rat.mkRat_self]
theorem Xa {r:RT} :(rd r).isSome=true ↔ r.ok:=by
 unfold rd;split<;>simp_all
theorem fits_int {n:Int} (h:n.natAbs≤9223372036854775808):fits (n:Rat):=by
 unfold fits
 refine⟨aL.2 ?_,aL.2 ?_⟩
 ·show n.natAbs<_
  exact Nat.lt_of_le_of_lt h (by decide+kernel)
 ·show 1<_
  decide+kernel
end Go.Proofs.YticmgmemnpcbbaaGreat.Vm

namespace Go.Proofs.YticmgmemnpcbbaaGreat.Vm
open Go Go.Proofs
set_option linter.unusedSimpArgs false
set_option linter.unusedVariables false
theorem Eu (a b:Nat) (ha:(lim a).length≤300000) (hb:(lim b).length≤300000):RO Tryz.prog 101 [.sl (iv (lim a)),.sl (iv (lim b))] (.sl (iv (lim (Nat.gcd a b)))):=by
 refine aI Tryz.func101 rfl rfl (by rw[Tryz.ntmps101];simp) fun bl=> ?_
 rw[Tryz.ntmps101,Tryz.results101]
 refine aC ?_
 simp
 refine aJ (fun p:Nat×Nat=> [(0,.sl (iv (lim p.1))),(1,.sl (iv (lim p.2)))]) (fun _=>bl) (fun p=>Nat.gcd p.1 p.2=Nat.gcd a b∧(lim p.1).length≤300000∧(lim p.2).length≤300000) (fun p=>p.2) _ (a,b) ⟨rfl,ha,hb⟩ ⟨rfl,by simp,Sub.refl _⟩ ?_
 rintro⟨x,y⟩ ⟨hg,hx,hy⟩
 simp only at hg hx hy
 refine aC ?_
 simp
 refine⟨fun h=> ?_,fun h=> ?_⟩
 ·have hy0:0<y:=by
   rcases Nat.eq_zero_or_pos y with h0 | h0
   ·rw[h0,aX] at h;simp at h
   ·exact h0
  refine aD (xX x y hy0 hx hy) ?_
  simp[aB]
  have hlt:=Nat.mod_lt x hy0
  refine⟨y,x % y,⟨?_,hy,?_⟩,hlt,rfl,by simp,Sub.refl _⟩
  ·rw[←hg,Nat.gcd_comm x y,Nat.gcd_rec y x,Nat.gcd_comm]
  ·exact Nat.le_trans (cI (Nat.le_of_lt hlt)) hy
 ·have h0:y=0:=eJ.1 (by simpa using h)
  subst h0
  rw[Nat.gcd_zero_right] at hg
  rw[←hg]
  exact aR (by simp) rfl rfl
def nD (ns:List Int):Bool:=decide (ns.length≤60)&& decide (lim (val ns)=ns)
theorem Y4 {ns:List Int} :lim (val ns)=ns ↔ Dig ns∧(ns.length=0∨ns.getD (ns.length - 1) 1≠0):=by
 have Wx: ∀d,ns.getLast? =some d ↔ ns.length≠0∧ns.getD (ns.length - 1) 1=d:=by
  intro d
  rw[List.getLast?_eq_getElem?]
  rcases Nat.eq_zero_or_pos ns.length with h | h
  ·rw[List.getElem?_eq_none (by omega)];simp[h]
  ·have h1:ns.length - 1<ns.length:=by omega
   have h2:ns≠ []:=fun h0=>by rw[h0] at h;simp at h
   rw[List.getElem?_eq_getElem h1]
   simp[h1,h2]
 constructor
 ·intro h
  refine⟨h▸gE _,?_⟩
  by_cases h0:ns.length=0
  ·exact .inl h0
  ·exact .inr (Bv (val ns) _ (by rw[h];exact(Wx _).2 ⟨h0,rfl⟩))
 ·rintro⟨h1,h2⟩
  refine S4 h1 fun d hd=> ?_
  obtain⟨h3,h4⟩:=(Wx d).1 hd
  rcases h2 with h2 | h2
  ·exact absurd h2 h3
  ·rw[←h4];exact h2
theorem L1 {ns:List Int} :nD ns=true ↔ ns.length≤60∧Dig ns∧(ns.length=0∨ns.getD (ns.length - 1) 1≠0):=by
 unfold nD
 rw[Bool.and_eq_true,decide_eq_true_eq,decide_eq_true_eq,Y4]
theorem mN (ns:List Int) (hn:ns.length≤140737488351232):RO Tryz.prog 261 [.sl (iv ns)] (.bool (nD ns)):=by
 refine aI Tryz.func261 rfl rfl (by rw[Tryz.ntmps261];simp) fun bl=> ?_
 rw[Tryz.ntmps261,Tryz.results261]
 refine aC ?_
 simp
 refine aJ (fun i:Nat=> [(0,.sl (iv ns)),(5,.sl (iv ns)),(6,.int .i64 ns.length),(7,.int .i64 i)]) (fun _=>bl) (fun i=>i≤ns.length∧ ∀j (h:j<ns.length),j<i→0≤ns[j]∧ns[j]<1000000000) (fun i=>ns.length - i) _ 0 ⟨Nat.zero_le _,fun j h h0=>by omega⟩ ⟨rfl,by simp,Sub.refl _⟩ ?_
 rintro i ⟨hi,hd⟩
 refine aC ?_
 simp
 refine⟨fun h=> ?_,fun h=> ?_⟩
 ·simp[h]
  refine aD (jF _ _ _) ?_
  simp
  refine⟨fun h1=> ?_,fun h1 h2=> ?_⟩
  ·refine aR ?_ rfl rfl
   have:nD ns=false:=by
    rw[Bool.eq_false_iff]
    intro hk
    have:=(L1.1 hk).2.1.at h
    omega
   simp[this]
  ·have w1:IntKind.i64.wrap ((i:Int)+1)=i+1:=i64_in (by omega) (by omega)
   simp[w1,aB]
   refine⟨i+1,⟨by omega,fun j hj hji=> ?_⟩,by omega,rfl,by simp,Sub.refl _⟩
   rcases Nat.lt_or_ge j i with hlt | hge
   ·exact hd j hj hlt
   ·obtain rfl:j=i:=by omega
    exact⟨h1,by omega⟩
 ·have hD:Dig ns:=by
   intro d hm
   obtain⟨j,hj,rfl⟩:=List.mem_iff_getElem.1 hm
   exact hd j hj (by omega)
  have hk:nD ns=(decide (ns.length≤60)&& (decide (ns.length=0)|| decide (ns.getD (ns.length - 1) 1≠0))):=by
   rw[Bool.eq_iff_iff,L1]
   simp[hD]
  refine bQ [(0,.sl (iv ns))] _ bl 2 (.bool (nD ns)) ⟨rfl,by simp,Sub.refl _⟩ rfl ?_ ?_
  ·have w1:0<ns.length→IntKind.i64.wrap ((ns.length:Int) - 1)=((ns.length - 1:Nat):Int):=fun h=>by rw[i64_in (by omega) (by omega)];omega
   have q1: ∀h:0<ns.length,(iv ns)[ns.length - 1]? =some [.int .i64 (ns[ns.length - 1]'(by omega))]:=fun h=>eG _ _ (by omega)
   rw[hk]
   simp
   refine⟨fun h1=>⟨fun h2=>⟨by omega,.inl h2⟩,fun h2=> ?_⟩,fun h1 h2=>by omega⟩
   have h3:0<ns.length:=List.length_pos_iff.2 h2
   have h4:ns.length - 1<ns.length:=by omega
   have h5:ns.length≤60:=by omega
   simp[w1 h3,q1 h3,h2,h4,h5]
   rfl
  simp
  exact aR (by simp) rfl rfl
def RT.c (r:RT):List V:= [.bool r.neg,.sl (iv r.m),.sl (iv r.d)]
def K7 (neg:Bool) (m:List Int):Bool:=nD m && !(neg && decide (m= []))
theorem Vk (m:List Int):((m.length:Int)==0)=decide (m= []):=by
 rw[vC];cases m<;>simp;omega
theorem Qf (m:List Int):decide (0<m.length)= !decide (m= []):=by cases m<;>simp
theorem vJ (neg:Bool) (m:List Int) (hm:m.length≤140737488351232):RO Tryz.prog 260 [.agg [.bool neg,.sl (iv m)]] (.bool (K7 neg m)):=by
 refine aI Tryz.func260 rfl rfl (by rw[Tryz.ntmps260];simp) fun bl=> ?_
 rw[Tryz.ntmps260,Tryz.results260]
 refine aC ?_
 simp
 intro g hg0 hg
 refine cH [(1,.loc g 2 0 0)] _ (upd bl g (some ⟨2,[[.bool neg,.sl (iv m)]]⟩)) 2 (.bool (K7 neg m)) (upd bl g (some ⟨2,[[.bool neg,.sl (iv m)]]⟩)) ⟨rfl,by simp,Sub.refl _⟩ rfl ?_ ?_
 ·simp
  refine aD (mN m hm) ?_
  simp[K7,Qf]
  cases nD m<;>cases neg<;>simp
 simp
 exact aK [_] 0 rfl rfl (by simp[hg])
def RT.bad (r:RT):Bool:=(((!(K7 r.neg r.m)|| !(nD r.d))|| decide (r.d= []))|| decide (24<r.m.length))|| decide (24<r.d.length)
theorem RT.Mz {r:RT} :r.ok ↔ r.bad=false∧Nat.gcd (val r.m) (val r.d)=1:=by
 unfold RT.ok RT.bad K7 nD
 simp
 constructor
 ·rintro⟨h1,h2,h3,h4,h5,h6,h7⟩
  exact⟨⟨⟨⟨⟨⟨⟨by omega,h1⟩,h6⟩,by omega,h2⟩,h5⟩,h3⟩,h4⟩,h7⟩
 ·rintro⟨⟨⟨⟨⟨⟨⟨_,h1⟩,h6⟩,_,h2⟩,h5⟩,h3⟩,h4⟩,h7⟩
  exact⟨h1,h2,h3,h4,h5,h6,h7⟩
theorem RT.aSG {r:RT} (h:r.bad=false):r.m=lim (val r.m)∧r.d=lim (val r.d)∧r.m.length≤24∧r.d.length≤24:=by
 unfold RT.bad K7 nD at h
 simp at h
 obtain⟨⟨⟨⟨⟨⟨_,h1⟩,_⟩,_,h2⟩,_⟩,h3⟩,h4⟩:=h
 exact⟨h1.symm,h2.symm,h3,h4⟩
theorem Fi :lim 1= [1]:=Hp (f:=1) (by decide) (by decide)
theorem Lk {a b:Nat} :iS a b=0 ↔ a=b:=by unfold iS;split<;>(try split)<;>omega
theorem Gh {a b:Nat} {k:Nat} (ha:(lim a).length≤k) (hb:(lim b).length≤k):(lim (Nat.gcd a b)).length≤k:=by
 rcases Nat.eq_zero_or_pos a with h | h
 ·rw[h,Nat.gcd_zero_left];exact hb
 ·exact Nat.le_trans (cI (Nat.gcd_le_left _ h)) ha

def biC (n:Int):List V:= [.bool (decide (n<0)),.sl (iv (lim n.natAbs))]
def sg (neg:Bool) (m:Nat):Int:=if neg then -(m:Int) else m
@[simp] theorem qD (neg : Bool) (m : Nat) : (sg neg m).natAbs = m := by unfold sg; split <;> simp
theorem Fk (neg:Bool) (m:Nat):decide (sg neg m<0)=(neg && decide (0<m)):=by
 unfold sg;cases neg<;>simp
theorem Hx (n:Int):sg (decide (n<0)) n.natAbs=n:=by
 unfold sg
 by_cases h:n<0
 ·simp[h];omega
 ·simp[h];omega
theorem pZ (m:Nat):0<(lim m).length ↔ 0<m:=by
 rw[List.length_pos_iff]
 constructor
 ·intro h;rcases Nat.eq_zero_or_pos m with h0 | h0
  ·rw[h0,aX] at h;exact absurd rfl h
  ·exact h0
 ·intro h h0;have:=eJ.1 h0;omega
@[simp] theorem aO8 (n : Int) : (biC n).length = 2 := rfl
@[simp] theorem aQZ (n : Int) : (biC n).all V.one = true := by simp [biC]
theorem Qc (n:Int):(biC n).all V.cl=true:=by simp[biC,V.cl]
@[simp] theorem aD7 (a b : V) (n : Int) : splice [a, b] 0 (biC n) = biC n := by simp [splice, biC]
theorem R9 (neg:Bool) (m:Nat):biC (sg neg m)= [.bool (neg && decide (0<(lim m).length)),.sl (iv (lim m))]:=by
 unfold biC
 rw[Fk,qD,decide_eq_decide.2 (pZ m)]
theorem kI {bl bl':Int→Option Blk} {n:Int} :frz (dropB bl' bl) 1 (.agg (biC n))=some (.agg (biC n)):=by
 unfold frz;rw[if_pos (Qc n)]
theorem Qt (x:Int):sg (!decide (x<0)) x.natAbs= -x:=by
 unfold sg
 by_cases h:x<0
 ·simp[h];omega
 ·simp[h];omega
theorem fW (neg:Bool) (m:Nat):RO Tryz.prog 229 [.bool neg,.sl (iv (lim m))] (.agg (biC (sg neg m))):=by
 refine aI Tryz.func229 rfl rfl (by rw[Tryz.ntmps229];simp) fun bl=> ?_
 rw[Tryz.ntmps229,Tryz.results229]
 refine aC ?_
 simp
 intro g hg0 hg
 refine cH [(0,.bool neg),(1,.sl (iv (lim m))),(4,.loc g 2 0 0)] _ (upd bl g (some ⟨2,[[.bool false,.nils]]⟩)) 4 (.loc g 2 0 0) (upd bl g (some ⟨2,[biC (sg neg m)]⟩)) ⟨rfl,by simp,Sub.refl _⟩ rfl ?_ ?_
 ·simp
  rw[R9]
  cases neg<;>simp
 simp
 exact aK [.agg (biC (sg neg m))] 1 (by simp[biC]) kI (by simp[hg])
theorem mE (x:Int):RO Tryz.prog 177 [.agg (biC x)] (.agg (biC (-x))):=by
 refine aI Tryz.func177 rfl rfl (by rw[Tryz.ntmps177];simp) fun bl=> ?_
 rw[Tryz.ntmps177,Tryz.results177]
 refine aC ?_
 rw[show biC x= [.bool (decide (x<0)),.sl (iv (lim x.natAbs))] from rfl]
 simp
 intro g hg0 hg g2 hg2 h2g hb2
 simp[h2g,Ne.symm h2g]
 refine aD (fW _ _) ?_
 rw[Qt]
 simp[h2g,Ne.symm h2g]
 exact aK [.agg (biC (-x))] 1 (by simp[biC]) kI (by simp[hg,hb2])
theorem lZ (x:Int):RO Tryz.prog 153 [.agg (biC x)] (.int .i64 x.sign):=by
 refine aI Tryz.func153 rfl rfl (by rw[Tryz.ntmps153];simp) fun bl=> ?_
 rw[Tryz.ntmps153,Tryz.results153]
 refine aC ?_
 rw[show biC x= [.bool (decide (x<0)),.sl (iv (lim x.natAbs))] from rfl]
 simp
 intro g hg0 hg
 refine⟨fun h=> ?_,fun h=> ?_⟩
 ·have h0:=eJ.1 h
  have:x=0:=by omega
  exact aK [.int .i64 0] 0 (by simp) (by simp[frz,this]) (by simp[hg])
 ·have h0:x≠0:=fun h1=>h (by rw[h1];exact aX)
  refine⟨fun h2=> ?_,fun h2=> ?_⟩
  ·exact aK [.int .i64 (-1)] 0 (by simp) (by simp[frz,Int.sign_eq_neg_one_of_neg h2]) (by simp[hg])
  ·exact aK [.int .i64 1] 0 (by simp) (by simp[frz,Int.sign_eq_one_of_pos (show 0<x by omega)]) (by simp[hg])
theorem wF {x y:Int} (h:x<0 ↔ y<0):sg (decide (x<0)) (x.natAbs+y.natAbs)=x+y:=by
 unfold sg
 by_cases hx:x<0
 ·have:=h.1 hx;simp[hx];omega
 ·have: ¬ y<0:=fun hh=>hx (h.2 hh);simp[hx];omega
theorem lV {x y:Int} (h: ¬ (x<0 ↔ y<0)) (hle:y.natAbs≤x.natAbs):sg (decide (x<0)) (x.natAbs - y.natAbs)=x+y:=by
 unfold sg
 by_cases hx:x<0
 ·have: ¬ y<0:=fun hh=>h ⟨fun _=>hh,fun _=>hx⟩;simp[hx];omega
 ·have:y<0:=by
   by_cases hy:y<0
   ·exact hy
   ·exact absurd ⟨fun hh=>absurd hh hx,fun hh=>absurd hh hy⟩ h
  simp[hx];omega
theorem sH (x y:Int):sg (decide (x<0) !=decide (y<0)) (x.natAbs*y.natAbs)=x*y:=by
 have e:(x.natAbs:Int)*y.natAbs=(x*y).natAbs:=by rw[Int.natAbs_mul];simp
 unfold sg
 by_cases hx:x<0<;>by_cases hy:y<0<;>simp only[hx,hy,decide_true,decide_false,bne_self_eq_false,Bool.bne_true,Bool.bne_false,Bool.not_false,if_true,if_false,Bool.false_eq_true,Int.natCast_mul]
 ·rw[Int.ofNat_natAbs_of_nonpos (by omega),Int.ofNat_natAbs_of_nonpos (by omega),Int.neg_mul_neg]
 ·rw[Int.ofNat_natAbs_of_nonpos (by omega),Int.natAbs_of_nonneg (by omega),Int.neg_mul,Int.neg_neg]
 ·rw[Int.natAbs_of_nonneg (by omega),Int.ofNat_natAbs_of_nonpos (by omega),Int.mul_neg,Int.neg_neg]
 ·rw[Int.natAbs_of_nonneg (by omega),Int.natAbs_of_nonneg (by omega)]
def gZ (x y:Int):Int:=if x<y then -1 else if x=y then 0 else 1
theorem Fy {a b:Nat} :0≤iS a b ↔ b≤a:=by unfold iS;split<;>(try split)<;>omega
theorem Ax (x y:Int) (hx:(lim x.natAbs).length≤1048576) (hy:(lim y.natAbs).length≤1048576):RO Tryz.prog 276 [.agg (biC x),.agg (biC y)] (.int .i64 (gZ x y)):=by
 refine aI Tryz.func276 rfl rfl (by rw[Tryz.ntmps276];simp) fun bl=> ?_
 rw[Tryz.ntmps276,Tryz.results276]
 refine aE ?_
 rw[show biC x= [.bool (decide (x<0)),.sl (iv (lim x.natAbs))] from rfl,show biC y= [.bool (decide (y<0)),.sl (iv (lim y.natAbs))] from rfl]
 simp
 intro g hg0 hg g2 hg2 h2g hb2
 refine aC ?_
 simp[h2g,Ne.symm h2g]
 refine cH [(2,.loc g 2 0 0),(3,.loc g2 2 0 0)] _ _ 5 (.bool ((decide (x<0) !=decide (y<0))&& decide (x<0))) (upd (upd bl g (some ⟨2,[[.bool (decide (x<0)),.sl (iv (lim x.natAbs))]]⟩)) g2 (some ⟨2,[[.bool (decide (y<0)),.sl (iv (lim y.natAbs))]]⟩)) ⟨rfl,by simp,Sub.refl _⟩ rfl ?_ ?_
 ·simp[h2g,Ne.symm h2g]
  by_cases h1:x<0<;>by_cases h2:y<0<;>simp[h1,h2,h2g,Ne.symm h2g]
 by_cases h1:x<0<;>by_cases h2:y<0<;>simp[h1,h2,h2g,Ne.symm h2g]
 ·refine aD (lF _ _ hy hx) ?_
  simp
  refine aK [.int .i64 (gZ x y)] 0 ?_ (by simp[frz]) (by simp[hg,hb2])
  have:iS y.natAbs x.natAbs=gZ x y:=by unfold iS gZ;split<;>split<;>(try split)<;>(try split)<;>omega
  simp[this]
 ·have:gZ x y= -1:=by unfold gZ;rw[if_pos (by omega)]
  exact aK [.int .i64 (-1)] 0 (by simp) (by simp[frz,this]) (by simp[hg,hb2])
 ·have:gZ x y=1:=by unfold gZ;rw[if_neg (by omega),if_neg (by omega)]
  exact aK [.int .i64 1] 0 (by simp) (by simp[frz,this]) (by simp[hg,hb2])
 ·refine aD (lF _ _ hx hy) ?_
  simp
  refine aK [.int .i64 (gZ x y)] 0 ?_ (by simp[frz]) (by simp[hg,hb2])
  have:iS x.natAbs y.natAbs=gZ x y:=by unfold iS gZ;split<;>split<;>(try split)<;>(try split)<;>omega
  simp[this]
theorem An (x y:Int) (hx:(lim x.natAbs).length≤1048575) (hy:(lim y.natAbs).length≤1048575):RO Tryz.prog 227 [.agg (biC x),.agg (biC y)] (.agg (biC (x+y))):=by
 refine aI Tryz.func227 rfl rfl (by rw[Tryz.ntmps227];simp) fun bl=> ?_
 rw[Tryz.ntmps227,Tryz.results227]
 refine aE ?_
 rw[show biC x= [.bool (decide (x<0)),.sl (iv (lim x.natAbs))] from rfl,show biC y= [.bool (decide (y<0)),.sl (iv (lim y.natAbs))] from rfl]
 simp
 intro g hg0 hg g2 hg2 h2g hb2 g3 hg3 h32 h3g hb3
 refine aC ?_
 simp[h2g,Ne.symm h2g,h32,Ne.symm h32,h3g,Ne.symm h3g]
 refine aD (lF _ _ (by omega) (by omega)) ?_
 simp[h2g,Ne.symm h2g,h32,Ne.symm h32,h3g,Ne.symm h3g,Fy]
 refine⟨fun hs=> ?_,fun hs=>⟨fun hle=> ?_,fun hle=> ?_⟩⟩
 ·refine aW aM (upd (upd bl g (some ⟨2,[[.bool (decide (x<0)),.sl (iv (lim x.natAbs))]]⟩)) g2 (some ⟨2,[[.bool (decide (y<0)),.sl (iv (lim y.natAbs))]]⟩)) (by simp[h32,h3g,hb3]) [0,1,2,3,4,5,6,7] 1 (by kernel_rfl) ?_
  simp[h2g,Ne.symm h2g,h32,Ne.symm h32,h3g,Ne.symm h3g]
  refine aO (Vj _ _ hx hy) ?_
  simp[h2g,Ne.symm h2g,h32,Ne.symm h32,h3g,Ne.symm h3g]
  refine aO (fW _ _) ?_
  simp[h2g,Ne.symm h2g,h32,Ne.symm h32,h3g,Ne.symm h3g]
  refine Dz 8 ?_
  simp[h2g,Ne.symm h2g,h32,Ne.symm h32,h3g,Ne.symm h3g]
  refine⟨by simp[h32,h3g,hb3],Dy ?_⟩
  rw[wF hs]
  simp[h2g,Ne.symm h2g,h32,Ne.symm h32,h3g,Ne.symm h3g]
  exact aK [.agg (biC (x+y))] 1 (by simp[biC,h2g,Ne.symm h2g,h32,Ne.symm h32,h3g,Ne.symm h3g]) kI (by simp[hg,hb2,hb3])
 ·refine aW aM (upd (upd bl g (some ⟨2,[[.bool (decide (x<0)),.sl (iv (lim x.natAbs))]]⟩)) g2 (some ⟨2,[[.bool (decide (y<0)),.sl (iv (lim y.natAbs))]]⟩)) (by simp[h32,h3g,hb3]) [0,1,2,3,4,5,6,7] 1 (by kernel_rfl) ?_
  simp[h2g,Ne.symm h2g,h32,Ne.symm h32,h3g,Ne.symm h3g]
  refine aO (W9 _ _ hle hx) ?_
  simp[h2g,Ne.symm h2g,h32,Ne.symm h32,h3g,Ne.symm h3g]
  refine aO (fW _ _) ?_
  simp[h2g,Ne.symm h2g,h32,Ne.symm h32,h3g,Ne.symm h3g]
  refine Dz 8 ?_
  simp[h2g,Ne.symm h2g,h32,Ne.symm h32,h3g,Ne.symm h3g]
  refine⟨by simp[h32,h3g,hb3],Dy ?_⟩
  rw[lV hs hle]
  simp[h2g,Ne.symm h2g,h32,Ne.symm h32,h3g,Ne.symm h3g]
  exact aK [.agg (biC (x+y))] 1 (by simp[biC,h2g,Ne.symm h2g,h32,Ne.symm h32,h3g,Ne.symm h3g]) kI (by simp[hg,hb2,hb3])
 ·refine aW aM (upd (upd bl g (some ⟨2,[[.bool (decide (x<0)),.sl (iv (lim x.natAbs))]]⟩)) g2 (some ⟨2,[[.bool (decide (y<0)),.sl (iv (lim y.natAbs))]]⟩)) (by simp[h32,h3g,hb3]) [0,1,2,3,4,5,6,7] 1 (by kernel_rfl) ?_
  simp[h2g,Ne.symm h2g,h32,Ne.symm h32,h3g,Ne.symm h3g]
  refine aO (W9 _ _ (by omega) hy) ?_
  simp[h2g,Ne.symm h2g,h32,Ne.symm h32,h3g,Ne.symm h3g]
  refine aO (fW _ _) ?_
  simp[h2g,Ne.symm h2g,h32,Ne.symm h32,h3g,Ne.symm h3g]
  refine Dz 8 ?_
  simp[h2g,Ne.symm h2g,h32,Ne.symm h32,h3g,Ne.symm h3g]
  refine⟨by simp[h32,h3g,hb3],Dy ?_⟩
  rw[lV (x:=y) (y:=x) (fun hh=>hs ⟨hh.2,hh.1⟩) (by omega),Int.add_comm y x]
  simp[h2g,Ne.symm h2g,h32,Ne.symm h32,h3g,Ne.symm h3g]
  exact aK [.agg (biC (x+y))] 1 (by simp[biC,h2g,Ne.symm h2g,h32,Ne.symm h32,h3g,Ne.symm h3g]) kI (by simp[hg,hb2,hb3])
theorem kR (x y:Int) (hx:(lim x.natAbs).length≤400000) (hy:(lim y.natAbs).length≤400000):RO Tryz.prog 231 [.agg (biC x),.agg (biC y)] (.agg (biC (x*y))):=by
 refine aI Tryz.func231 rfl rfl (by rw[Tryz.ntmps231];simp) fun bl=> ?_
 rw[Tryz.ntmps231,Tryz.results231]
 refine aE ?_
 rw[show biC x= [.bool (decide (x<0)),.sl (iv (lim x.natAbs))] from rfl,show biC y= [.bool (decide (y<0)),.sl (iv (lim y.natAbs))] from rfl]
 simp
 intro g hg0 hg g2 hg2 h2g hb2 g3 hg3 h32 h3g hb3
 refine aC ?_
 simp
 refine aW aM (upd (upd bl g (some ⟨2,[[.bool (decide (x<0)),.sl (iv (lim x.natAbs))]]⟩)) g2 (some ⟨2,[[.bool (decide (y<0)),.sl (iv (lim y.natAbs))]]⟩)) (by simp[h32,h3g,hb3]) [0,1,2,3,4,5,6,7,8,9,10] 1 (by kernel_rfl) ?_
 simp[h2g,Ne.symm h2g,h32,Ne.symm h32,h3g,Ne.symm h3g]
 refine aO (pH _ _ hx hy) ?_
 simp[h2g,Ne.symm h2g,h32,Ne.symm h32,h3g,Ne.symm h3g]
 refine aO (fW _ _) ?_
 simp[h2g,Ne.symm h2g,h32,Ne.symm h32,h3g,Ne.symm h3g]
 refine Dz 11 ?_
 simp[h2g,Ne.symm h2g,h32,Ne.symm h32,h3g,Ne.symm h3g]
 refine⟨by simp[h32,h3g,hb3],Dy ?_⟩
 rw[sH]
 simp[h2g,Ne.symm h2g,h32,Ne.symm h32,h3g,Ne.symm h3g]
 exact aK [.agg (biC (x*y))] 1 (by simp[biC,h2g,Ne.symm h2g,h32,Ne.symm h32,h3g,Ne.symm h3g]) kI (by simp[hg,hb2,hb3])

theorem bV (x:Int):biC x= [.bool (decide (x<0)),.sl (iv (lim x.natAbs))]:=rfl
theorem gV (q:Rat):(rq q).c= [.bool (decide (q.num<0)),.sl (iv (lim q.num.natAbs)),.sl (iv (lim q.den))]:=rfl
theorem Fx (n:Int) {d:Nat} (hd:d≠0):rq (mkRat n d)=⟨decide (n<0),lim (n.natAbs / Nat.gcd n.natAbs d),lim (d / Nat.gcd n.natAbs d)⟩:=by
 obtain⟨h1,h2,h3⟩:=Ka n hd
 unfold rq
 rw[h1,h2,decide_eq_decide.2 h3]
theorem N6 (x y:Int) (hx:(lim x.natAbs).length≤1048575) (hy:(lim y.natAbs).length≤1048575):RO Tryz.prog 239 [.agg (biC x),.agg (biC y)] (.agg (biC (x - y))):=by
 refine aI Tryz.func239 rfl rfl (by rw[Tryz.ntmps239];simp) fun bl=> ?_
 rw[Tryz.ntmps239,Tryz.results239]
 refine aE ?_
 simp
 intro g hg0 hg g2 hg2 h2g hb2 g3 hg3 h32 h3g hb3
 refine aC ?_
 simp
 refine aW aM (upd (upd bl g (some ⟨2,[biC x]⟩)) g2 (some ⟨2,[biC y]⟩)) (by simp[h32,h3g,hb3]) [0,1,2,3] 1 (by kernel_rfl) ?_
 simp[h2g,Ne.symm h2g,h32,Ne.symm h32,h3g,Ne.symm h3g]
 refine aO (mE y) ?_
 simp[h2g,Ne.symm h2g,h32,Ne.symm h32,h3g,Ne.symm h3g]
 refine aO (An x (-y) hx (by simpa using hy)) ?_
 rw[show x+ -y=x - y by omega]
 simp[h2g,Ne.symm h2g,h32,Ne.symm h32,h3g,Ne.symm h3g]
 refine Dz 4 ?_
 simp[h2g,Ne.symm h2g,h32,Ne.symm h32,h3g,Ne.symm h3g]
 refine⟨by simp[h32,h3g,hb3],Dy ?_⟩
 simp
 exact aK [.agg (biC (x - y))] 1 (by simp[biC,h2g,Ne.symm h2g,h32,Ne.symm h32,h3g,Ne.symm h3g]) kI (by simp[hg,hb2,hb3])
theorem M8 (q:Rat) (m:Nat) (hq:(lim q.num.natAbs).length≤400000) (hm:(lim m).length≤400000):RO Tryz.prog 226 [.ptr (rq q).c,.sl (iv (lim m))] (.agg (biC (q.num*m))):=by
 refine aI Tryz.func226 rfl rfl (by rw[Tryz.ntmps226];simp) fun bl=> ?_
 rw[Tryz.ntmps226,Tryz.results226]
 refine aC ?_
 rw[gV]
 simp
 intro g hg0 hg
 refine aW aM bl (by simp[hg]) [0,1,2,3,4,5,6,7,8,9,10,11,12] 1 (by kernel_rfl) ?_
 simp
 refine aO (pH _ _ hq hm) ?_
 simp
 refine aO (fW _ _) ?_
 simp
 refine Dz 13 ?_
 simp
 refine⟨by simp[hg],Dy ?_⟩
 have e:sg (decide (q.num<0)) (q.num.natAbs*m)=q.num*m:=by
  have:=sH q.num m
  have h0:decide ((m:Int)<0)=false:=decide_eq_false (by omega)
  rw[h0,Bool.bne_false,Int.natAbs_natCast] at this
  exact this
 rw[e]
 simp
 exact aK [.agg (biC (q.num*m))] 1 (by simp[biC]) kI (by simp[hg])
theorem vW (n:Int) (d:Nat) (hd:d≠0) (hn:(lim n.natAbs).length≤300000) (hdl:(lim d).length≤300000):RO Tryz.prog 221 [.agg (biC n),.sl (iv (lim d))] (.ptr (rq (mkRat n d)).c):=by
 refine aI Tryz.func221 rfl rfl (by rw[Tryz.ntmps221];simp) fun bl=> ?_
 rw[Tryz.ntmps221,Tryz.results221]
 refine aC ?_
 rw[bV]
 simp
 intro g hg0 hg
 refine⟨fun h=> ?_,fun h=> ?_⟩
 ·intro g1 hg1 h1g hb1 g2 hg2 h21 h2g hb2
  have h0:n=0:=by have:=eJ.1 h;omega
  subst h0
  rw[Rat.zero_mkRat]
  refine aK [.loc g2 3 0 0] 2 (by simp) ?_ (by simp[hg,hb1,hb2])
  simp[frz,dropB,V.cl,hb1,hb2,h1g,Ne.symm h1g,h21,Ne.symm h21,h2g,Ne.symm h2g,Int.not_lt.2 hg1,gV,aX]
  exact⟨rfl,by rw[Fi];rfl⟩
 ·have hz:n.natAbs≠0:=fun h0=>h (by rw[h0];exact aX)
  refine aD (Eu _ _ hn hdl) ?_
  simp
  intro g1 hg1 h1g hb1
  have hgl:=Gh hn hdl
  refine aU 1 (ys:= [.sl (iv (lim (Nat.gcd n.natAbs d))),.sl (iv (lim 1))]) ?_ (lF _ 1 (by omega) (by rw[Fi];simp)) rfl ?_
  ·simp[frzL,frz,Fi,iv,V.cl,Int.not_lt.2 hg1]
  simp[vC,Lk]
  refine⟨fun h1=> ?_,fun h1=> ?_⟩
  ·simp[h1g,Ne.symm h1g]
   intro g2 hg2 h21 h2g hb2
   refine aK [.loc g2 3 0 0] 2 (by simp) ?_ (by simp[hg,hb1,hb2])
   have e:rq (mkRat n d)=⟨decide (n<0),lim n.natAbs,lim d⟩:=by rw[Fx n hd,h1,Nat.div_one,Nat.div_one]
   rw[e]
   simp[frz,dropB,V.cl,hb1,hb2,h1g,Ne.symm h1g,h21,Ne.symm h21,h2g,Ne.symm h2g,RT.c]
  ·have aC6:0<Nat.gcd n.natAbs d:=Nat.gcd_pos_of_pos_right _ (by omega)
   simp[h1g,Ne.symm h1g]
   refine aD (xX _ _ aC6 hn hgl) ?_
   simp
   refine aD (xX _ _ aC6 hdl hgl) ?_
   simp[h1g,Ne.symm h1g]
   refine aD (fW _ _) ?_
   simp[h1g,Ne.symm h1g]
   rw[R9]
   simp[h1g,Ne.symm h1g]
   intro g2 hg2 h21 h2g hb2
   refine aK [.loc g2 3 0 0] 2 (by simp) ?_ (by simp[hg,hb1,hb2])
   have e3:0<n.natAbs / Nat.gcd n.natAbs d:=Nat.div_pos (Nat.gcd_le_left _ (by omega)) aC6
   rw[Fx n hd]
   simp[frz,dropB,V.cl,hb1,hb2,h1g,Ne.symm h1g,h21,Ne.symm h21,h2g,Ne.symm h2g,RT.c,pZ,e3]
theorem fP {a b k l:Nat} (ha:(lim a).length≤k) (hb:(lim b).length≤l):(lim (a*b)).length≤k+l:=by
 refine aL.2 ?_
 have h1:=aL.1 ha
 have h2:=aL.1 hb
 rw[Nat.pow_add]
 exact Nat.mul_lt_mul'' h1 h2
theorem tT {a b k:Nat} (ha:(lim a).length≤k) (hb:(lim b).length≤k):(lim (a+b)).length≤k+1:=by
 refine aL.2 ?_
 have h1:=aL.1 ha
 have h2:=aL.1 hb
 have:LB^(k+1)=LB^k*1000000000:=Nat.pow_succ ..
 omega
theorem kA {a b k:Nat} (h:a≤b) (hb:(lim b).length≤k):(lim a).length≤k:=Nat.le_trans (cI h) hb
def few (k:Nat) (q:Rat):Prop:=(lim q.num.natAbs).length≤k∧(lim q.den).length≤k
theorem Bl {k l:Nat} {q:Rat} (h:few k q) (hkl:k≤l):few l q:=⟨by have:=h.1;omega,by have:=h.2;omega⟩
def G1 (a b:Rat):Int:=gZ (a.num*b.den) (b.num*a.den)
theorem Qi (a b:Rat) (ha:few 100000 a) (hb:few 100000 b):RO Tryz.prog 159 [.ptr (rq a).c,.ptr (rq b).c] (.ptr (rq (a+b)).c):=by
 obtain⟨a1,a2⟩:=ha
 obtain⟨b1,b2⟩:=hb
 have n1:(lim (a.num*b.den).natAbs).length≤200000:=by rw[Int.natAbs_mul,Int.natAbs_natCast];have:=fP a1 b2;omega
 have n2:(lim (b.num*a.den).natAbs).length≤200000:=by rw[Int.natAbs_mul,Int.natAbs_natCast];have:=fP b1 a2;omega
 refine aI Tryz.func159 rfl rfl (by rw[Tryz.ntmps159];simp) fun bl=> ?_
 rw[Tryz.ntmps159,Tryz.results159]
 refine aC ?_
 simp
 refine cQ aM (by kernel_rfl) ?_
 rw[gV a,gV b]
 simp
 refine aO (M8 a b.den (by omega) (by omega)) ?_
 simp
 refine aO (M8 b a.den (by omega) (by omega)) ?_
 simp
 refine aO (An _ _ (by omega) (by omega)) ?_
 simp
 refine aO (pH _ _ (by omega) (by omega)) ?_
 simp
 refine aO (vW _ _ (Nat.mul_ne_zero a.den_nz b.den_nz) ?_ ?_) ?_
 ·exact kA (Int.natAbs_add_le _ _) (by have:=tT n1 n2;omega)
 ·have:=fP a2 b2;omega
 rw[←Rat.add_def']
 simp
 exact aR (by simp) rfl rfl
theorem Kl (a b:Rat) (ha:few 100000 a) (hb:few 100000 b):RO Tryz.prog 163 [.ptr (rq a).c,.ptr (rq b).c] (.ptr (rq (a*b)).c):=by
 obtain⟨a1,a2⟩:=ha
 obtain⟨b1,b2⟩:=hb
 refine aI Tryz.func163 rfl rfl (by rw[Tryz.ntmps163];simp) fun bl=> ?_
 rw[Tryz.ntmps163,Tryz.results163]
 refine aC ?_
 simp
 refine cQ aM (by kernel_rfl) ?_
 rw[gV a,gV b]
 simp
 refine aO (kR a.num b.num (by omega) (by omega)) ?_
 simp
 refine aO (pH _ _ (by omega) (by omega)) ?_
 simp
 refine aO (vW _ _ (Nat.mul_ne_zero a.den_nz b.den_nz) ?_ ?_) ?_
 ·rw[Int.natAbs_mul];have:=fP a1 b1;omega
 ·have:=fP a2 b2;omega
 rw[←Rat.mul_def']
 simp
 exact aR (by simp) rfl rfl
def fv :Option Rat→V
 | none => .nilp
 | some q => .ptr (rq q).c
theorem Ed {b:Int→Option Blk} {n:Nat} {x:Option Rat} :frz b n (fv x)=some (fv x):=by cases x<;>simp[fv,frz]
theorem Ns (q:Rat):RO Tryz.prog 158 [.ptr (rq q).c] (fv (fit q)):=by
 refine aI Tryz.func158 rfl rfl (by rw[Tryz.ntmps158];simp) fun bl=> ?_
 rw[Tryz.ntmps158,Tryz.results158]
 refine aC ?_
 simp
 refine bQ [(0,.ptr (rq q).c)] _ bl 17 (.bool (!decide (fits q))) ⟨rfl,by simp,Sub.refl _⟩ rfl ?_ ?_
 ·rw[gV]
  simp
  have hf:fits q ↔ (lim q.num.natAbs).length≤24∧(lim q.den).length≤24:=Iff.rfl
  refine⟨fun h hh=>by have:=hf.1 hh;omega,fun h=> ?_⟩
  rw[Bool.eq_iff_iff]
  simp[hf]
  omega
 simp
 refine⟨fun h=> ?_,fun h=> ?_⟩
 ·exact aR (by simp[fit,h,fv]) rfl Ed
 ·exact aR (by simp[fit,h,fv]) rfl Ed
def okQ (x:Option Rat):Prop:= ∀q,x=some q→fits q
def op2 (f:Rat→Rat→Rat) (x y:Option Rat):Option Rat:=match x,y with | some a,some b=>fit (f a b)| _,_=>none
end Go.Proofs.YticmgmemnpcbbaaGreat.Vm
