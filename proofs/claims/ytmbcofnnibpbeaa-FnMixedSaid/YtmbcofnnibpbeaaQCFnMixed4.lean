/- Data in blocks of the call's own, as trees; calls that make such data; calls that borrow. -/

import Derived.Test.YtmbcofnnibpbeaaQCFnMixed3

namespace Go.Proofs.Ytmbcofnnibpbeaa.Vm
open Go Go.RowKit
set_option linter.unusedSimpArgs false
set_option linter.unusedVariables false

/-- Data of the call's own: a cell, a slice, a place, a struct, several results. -/
inductive D where
  | c (x : V)
  | s (sz : Nat) (rows : List (List D))
  | p (row : List D)
  | a (cs : List D)
  | t (cs : List D)
  deriving Inhabited

mutual
def OwnD (bl : Int → Option Blk) : D → V → List Int → Prop
  | .c x, v, gs => v = x ∧ x.cl = true ∧ gs = []
  | .s sz rows, v, gs => (rows = [] ∧ v = .nils ∧ gs = []) ∨ ∃ g els gs', v = .lsl g sz 0 rows.length ∧ gs = g :: gs' ∧ g ∉ gs' ∧ bl g = some ⟨sz, els⟩ ∧ (g < 0 → els = []) ∧ OwnR bl sz rows els gs'
  | .p row, v, gs => ∃ g e gs', v = .loc g row.length 0 0 ∧ gs = g :: gs' ∧ g ∉ gs' ∧ 0 ≤ g ∧ bl g = some ⟨row.length, [e]⟩ ∧ OwnL bl row e gs'
  | .a cs, v, gs => ∃ vs, v = .agg vs ∧ OwnL bl cs vs gs
  | .t cs, v, gs => ∃ vs, v = .tup vs ∧ OwnL bl cs vs gs
def OwnL (bl : Int → Option Blk) : List D → List V → List Int → Prop
  | [], vs, gs => vs = [] ∧ gs = []
  | d :: ds, vs, gs => ∃ v vs' g1 g2, vs = v :: vs' ∧ gs = g1 ++ g2 ∧ (∀ g, g ∈ g1 → g ∉ g2) ∧ OwnD bl d v g1 ∧ OwnL bl ds vs' g2
def OwnR (bl : Int → Option Blk) (sz : Nat) : List (List D) → List (List V) → List Int → Prop
  | [], els, gs => els = [] ∧ gs = []
  | r :: rs, els, gs => ∃ e els' g1 g2, els = e :: els' ∧ gs = g1 ++ g2 ∧ (∀ g, g ∈ g1 → g ∉ g2) ∧ e.length = sz ∧ (e.all V.one = true) ∧ OwnL bl r e g1 ∧ OwnR bl sz rs els' g2
end

mutual
def D.fz : D → V
  | .c x => x
  | .s _ rows => .sl (D.fzR rows)
  | .p row => .ptr (D.fzL row)
  | .a cs => .agg (D.fzL cs)
  | .t cs => .tup (D.fzL cs)
def D.fzL : List D → List V
  | [] => []
  | d :: ds => d.fz :: D.fzL ds
def D.fzR : List (List D) → List (List V)
  | [] => []
  | r :: rs => D.fzL r :: D.fzR rs
end
theorem fzL_map : ∀ (ds : List D), D.fzL ds = ds.map D.fz
  | [] => by simp [D.fzL]
  | d :: ds => by simp [D.fzL, fzL_map ds]
theorem fzR_map : ∀ (rs : List (List D)), D.fzR rs = rs.map fun r => r.map D.fz
  | [] => by simp [D.fzR]
  | r :: rs => by simp [D.fzR, fzR_map rs, fzL_map]

/-! ### Only the blocks named matter -/
mutual
theorem OwnD.frame {bl bl' : Int → Option Blk} : ∀ {d : D} {v : V} {gs : List Int}, OwnD bl d v gs → (∀ g, g ∈ gs → bl' g = bl g) → OwnD bl' d v gs
  | .c x, v, gs, h, _ => by rw [OwnD] at h ⊢; exact h
  | .s sz rows, v, gs, h, hg => by
    rw [OwnD] at h ⊢
    rcases h with h | ⟨g, els, gs', h1, h2, h3, h4, h5, h6⟩
    · exact .inl h
    · subst h2
      exact .inr ⟨g, els, gs', h1, rfl, h3, by rw [hg g (by simp)]; exact h4, h5, OwnR.frame h6 fun g' hg' => hg g' (by simp [hg'])⟩
  | .p row, v, gs, h, hg => by
    rw [OwnD] at h ⊢
    obtain ⟨g, e, gs', h1, h2, h3, h0, h4, h5⟩ := h
    subst h2
    exact ⟨g, e, gs', h1, rfl, h3, h0, by rw [hg g (by simp)]; exact h4, OwnL.frame h5 fun g' hg' => hg g' (by simp [hg'])⟩
  | .a cs, v, gs, h, hg => by
    rw [OwnD] at h ⊢
    obtain ⟨vs, h1, h2⟩ := h
    exact ⟨vs, h1, OwnL.frame h2 hg⟩
  | .t cs, v, gs, h, hg => by
    rw [OwnD] at h ⊢
    obtain ⟨vs, h1, h2⟩ := h
    exact ⟨vs, h1, OwnL.frame h2 hg⟩
theorem OwnL.frame {bl bl' : Int → Option Blk} : ∀ {ds : List D} {vs : List V} {gs : List Int}, OwnL bl ds vs gs → (∀ g, g ∈ gs → bl' g = bl g) → OwnL bl' ds vs gs
  | [], vs, gs, h, _ => by rw [OwnL] at h ⊢; exact h
  | d :: ds, vs, gs, h, hg => by
    rw [OwnL] at h ⊢
    obtain ⟨v, vs', g1, g2, h1, h2, h3, h4, h5⟩ := h
    subst h2
    exact ⟨v, vs', g1, g2, h1, rfl, h3, OwnD.frame h4 fun g hgg => hg g (by simp [hgg]), OwnL.frame h5 fun g hgg => hg g (by simp [hgg])⟩
theorem OwnR.frame {bl bl' : Int → Option Blk} {sz : Nat} : ∀ {rs : List (List D)} {els : List (List V)} {gs : List Int}, OwnR bl sz rs els gs → (∀ g, g ∈ gs → bl' g = bl g) → OwnR bl' sz rs els gs
  | [], vs, gs, h, _ => by rw [OwnR] at h ⊢; exact h
  | r :: rs, els, gs, h, hg => by
    rw [OwnR] at h ⊢
    obtain ⟨e, els', g1, g2, h1, h2, h3, h4, h4', h5, h6⟩ := h
    subst h2
    exact ⟨e, els', g1, g2, h1, rfl, h3, h4, h4', OwnL.frame h5 fun g hgg => hg g (by simp [hgg]), OwnR.frame h6 fun g hgg => hg g (by simp [hgg])⟩
end

mutual
theorem OwnD.has {bl : Int → Option Blk} : ∀ {d : D} {v : V} {gs : List Int}, OwnD bl d v gs → ∀ g, g ∈ gs → ∃ b, bl g = some b
  | .c x, v, gs, h, g, hg => by rw [OwnD] at h; rw [h.2.2] at hg; cases hg
  | .s sz rows, v, gs, h, g, hg => by
    rw [OwnD] at h
    rcases h with ⟨_, _, h⟩ | ⟨g0, els, gs', h1, h2, h3, h4, h5, h6⟩
    · rw [h] at hg; cases hg
    · subst h2
      rcases List.mem_cons.1 hg with rfl | hg
      · exact ⟨_, h4⟩
      · exact OwnR.has h6 g hg
  | .p row, v, gs, h, g, hg => by
    rw [OwnD] at h
    obtain ⟨g0, e, gs', h1, h2, h3, h0, h4, h5⟩ := h
    subst h2
    rcases List.mem_cons.1 hg with rfl | hg
    · exact ⟨_, h4⟩
    · exact OwnL.has h5 g hg
  | .a cs, v, gs, h, g, hg => by
    rw [OwnD] at h
    obtain ⟨vs, h1, h2⟩ := h
    exact OwnL.has h2 g hg
  | .t cs, v, gs, h, g, hg => by
    rw [OwnD] at h
    obtain ⟨vs, h1, h2⟩ := h
    exact OwnL.has h2 g hg
theorem OwnL.has {bl : Int → Option Blk} : ∀ {ds : List D} {vs : List V} {gs : List Int}, OwnL bl ds vs gs → ∀ g, g ∈ gs → ∃ b, bl g = some b
  | [], vs, gs, h, g, hg => by rw [OwnL] at h; rw [h.2] at hg; cases hg
  | d :: ds, vs, gs, h, g, hg => by
    rw [OwnL] at h
    obtain ⟨v, vs', g1, g2, h1, h2, h3, h4, h5⟩ := h
    subst h2
    rcases List.mem_append.1 hg with hg | hg
    · exact OwnD.has h4 g hg
    · exact OwnL.has h5 g hg
theorem OwnR.has {bl : Int → Option Blk} {sz : Nat} : ∀ {rs : List (List D)} {els : List (List V)} {gs : List Int}, OwnR bl sz rs els gs → ∀ g, g ∈ gs → ∃ b, bl g = some b
  | [], vs, gs, h, g, hg => by rw [OwnR] at h; rw [h.2] at hg; cases hg
  | r :: rs, els, gs, h, g, hg => by
    rw [OwnR] at h
    obtain ⟨e, els', g1, g2, h1, h2, h3, h4, h4', h5, h6⟩ := h
    subst h2
    rcases List.mem_append.1 hg with hg | hg
    · exact OwnL.has h5 g hg
    · exact OwnR.has h6 g hg
end

theorem OwnD.sub {bl bl' : Int → Option Blk} {d : D} {v : V} {gs : List Int} (h : OwnD bl d v gs) (hs : Sub bl bl') : OwnD bl' d v gs := h.frame fun g hg => by
  obtain ⟨b, hb⟩ := h.has g hg
  rw [hb, hs g b hb]
theorem OwnL.sub {bl bl' : Int → Option Blk} {d : List D} {v : List V} {gs : List Int} (h : OwnL bl d v gs) (hs : Sub bl bl') : OwnL bl' d v gs := h.frame fun g hg => by
  obtain ⟨b, hb⟩ := h.has g hg
  rw [hb, hs g b hb]

theorem OwnL.length {bl : Int → Option Blk} : ∀ {ds : List D} {vs : List V} {gs : List Int}, OwnL bl ds vs gs → vs.length = ds.length
  | [], vs, gs, h => by rw [OwnL] at h; simp [h.1]
  | d :: ds, vs, gs, h => by
    rw [OwnL] at h
    obtain ⟨v, vs', g1, g2, h1, h2, h3, h4, h5⟩ := h
    rw [h1]; simp [OwnL.length h5]
theorem OwnR.length {bl : Int → Option Blk} {sz : Nat} : ∀ {ds : List (List D)} {vs : List (List V)} {gs : List Int}, OwnR bl sz ds vs gs → vs.length = ds.length
  | [], vs, gs, h => by rw [OwnR] at h; simp [h.1]
  | d :: ds, vs, gs, h => by
    rw [OwnR] at h
    obtain ⟨v, vs', g1, g2, h1, h2, h3, h4, h4', h5, h6⟩ := h
    rw [h1]; simp [OwnR.length h6]

/-! ### Freezing -/
theorem frz_cl {bl : Int → Option Blk} {n : Nat} {x : V} (h : x.cl = true) : frz bl n x = some x := by
  cases x <;> first | (simp [V.cl] at h; done) | (unfold frz; rfl)
theorem mapM_cl {bl : Int → Option Blk} {n : Nat} : ∀ {xs : List V}, xs.all V.cl = true → xs.mapM (frz bl n) = some xs
  | [], _ => rfl
  | x :: xs, h => by
    simp only [List.all_cons, Bool.and_eq_true] at h
    rw [List.mapM_cons, frz_cl h.1, mapM_cl h.2]; rfl
theorem mapMM_cl {bl : Int → Option Blk} {n : Nat} : ∀ {xs : List (List V)}, xs.all (fun e => e.all V.cl) = true → xs.mapM (fun e : List V => e.mapM (frz bl n)) = some xs
  | [], _ => rfl
  | x :: xs, h => by
    simp only [List.all_cons, Bool.and_eq_true] at h
    rw [List.mapM_cons, mapM_cl h.1, mapMM_cl h.2]; rfl
theorem frz_agg {bl : Int → Option Blk} {n : Nat} {cs : List V} : frz bl (n + 1) (.agg cs) = (cs.mapM (frz bl n)).map .agg := by
  simp only [frz]
  split
  · rename_i h; rw [mapM_cl h]; rfl
  · rfl
theorem frz_tup {bl : Int → Option Blk} {n : Nat} {cs : List V} : frz bl (n + 1) (.tup cs) = (cs.mapM (frz bl n)).map .tup := by
  simp only [frz]
  split
  · rename_i h; rw [mapM_cl h]; rfl
  · rfl
theorem frz_loc0 {bl : Int → Option Blk} {n sz : Nat} {g : Int} {e : List V} (hb : bl g = some ⟨sz, [e]⟩) : frz bl (n + 1) (.loc g sz 0 0) = (e.mapM (frz bl n)).map .ptr := by
  simp only [frz, hb]
  simp only [if_true, List.getElem?_cons_zero, List.drop_zero]
  split
  · rename_i h; rw [mapM_cl h]; rfl
  · rfl
theorem frz_lsl {bl : Int → Option Blk} {n sz : Nat} {g : Int} {els : List (List V)} (h0 : 0 ≤ g) (hb : bl g = some ⟨sz, els⟩) : frz bl (n + 1) (.lsl g sz 0 els.length) = (els.mapM (fun e : List V => e.mapM (frz bl n))).map .sl := by
  simp only [frz, hb]
  rw [if_neg (by omega), if_pos (by simp)]
  simp only [List.drop_zero, List.take_length]
  split
  · rename_i h; rw [mapMM_cl h]; rfl
  · rfl

mutual
def D.dep : Nat → D → Prop
  | _, .c _ => True
  | n, .s _ rows => 1 ≤ n ∧ D.depR (n - 1) rows
  | n, .p row => 1 ≤ n ∧ D.depL (n - 1) row
  | n, .a cs => 1 ≤ n ∧ D.depL (n - 1) cs
  | n, .t cs => 1 ≤ n ∧ D.depL (n - 1) cs
def D.depL : Nat → List D → Prop
  | _, [] => True
  | n, d :: ds => d.dep n ∧ D.depL n ds
def D.depR : Nat → List (List D) → Prop
  | _, [] => True
  | n, r :: rs => D.depL n r ∧ D.depR n rs
end

mutual
theorem OwnD.frz {bl : Int → Option Blk} : ∀ {d : D} {n : Nat} {v : V} {gs : List Int}, OwnD bl d v gs → d.dep n → Vm.frz bl n v = some d.fz
  | .c x, n, v, gs, h, _ => by rw [OwnD] at h; rw [h.1, frz_cl h.2.1, D.fz]
  | .s sz rows, n, v, gs, h, hn => by
    rw [OwnD] at h; rw [D.dep] at hn; rw [D.fz]
    obtain ⟨n, rfl⟩ : ∃ m, n = m + 1 := ⟨n - 1, by omega⟩
    rw [Nat.add_sub_cancel] at hn
    rcases h with ⟨rfl, rfl, _⟩ | ⟨g0, els, gs', h1, h2, h3, h4, h5, h6⟩
    · simp [Vm.frz, D.fzR]
    · have hl := OwnR.length h6
      rw [h1, ← hl]
      rcases Int.lt_or_le g0 0 with hg | hg
      · have := h5 hg
        subst this
        have : rows = [] := List.eq_nil_of_length_eq_zero (by simpa using hl.symm)
        subst this
        simp [Vm.frz, hg, D.fzR]
      · rw [frz_lsl hg h4, OwnR.frz h6 hn.2]; rfl
  | .p row, n, v, gs, h, hn => by
    rw [OwnD] at h; rw [D.dep] at hn; rw [D.fz]
    obtain ⟨n, rfl⟩ : ∃ m, n = m + 1 := ⟨n - 1, by omega⟩
    rw [Nat.add_sub_cancel] at hn
    obtain ⟨g0, e, gs', h1, h2, h3, h0, h4, h5⟩ := h
    rw [h1, frz_loc0 h4, OwnL.frz h5 hn.2]; rfl
  | .a cs, n, v, gs, h, hn => by
    rw [OwnD] at h; rw [D.dep] at hn; rw [D.fz]
    obtain ⟨n, rfl⟩ : ∃ m, n = m + 1 := ⟨n - 1, by omega⟩
    rw [Nat.add_sub_cancel] at hn
    obtain ⟨vs, h1, h2⟩ := h
    rw [h1, frz_agg, OwnL.frz h2 hn.2]; rfl
  | .t cs, n, v, gs, h, hn => by
    rw [OwnD] at h; rw [D.dep] at hn; rw [D.fz]
    obtain ⟨n, rfl⟩ : ∃ m, n = m + 1 := ⟨n - 1, by omega⟩
    rw [Nat.add_sub_cancel] at hn
    obtain ⟨vs, h1, h2⟩ := h
    rw [h1, frz_tup, OwnL.frz h2 hn.2]; rfl
theorem OwnL.frz {bl : Int → Option Blk} : ∀ {ds : List D} {n : Nat} {vs : List V} {gs : List Int}, OwnL bl ds vs gs → D.depL n ds → vs.mapM (Vm.frz bl n) = some (D.fzL ds)
  | [], n, vs, gs, h, _ => by rw [OwnL] at h; rw [h.1, D.fzL]; rfl
  | d :: ds, n, vs, gs, h, hn => by
    rw [OwnL] at h; rw [D.depL] at hn; rw [D.fzL]
    obtain ⟨v, vs', g1, g2, h1, h2, h3, h4, h5⟩ := h
    rw [h1, List.mapM_cons, OwnD.frz h4 hn.1, OwnL.frz h5 hn.2]; rfl
theorem OwnR.frz {bl : Int → Option Blk} {sz : Nat} : ∀ {rs : List (List D)} {n : Nat} {els : List (List V)} {gs : List Int}, OwnR bl sz rs els gs → D.depR n rs → els.mapM (fun e : List V => e.mapM (Vm.frz bl n)) = some (D.fzR rs)
  | [], n, vs, gs, h, _ => by rw [OwnR] at h; rw [h.1, D.fzR]; rfl
  | r :: rs, n, els, gs, h, hn => by
    rw [OwnR] at h; rw [D.depR] at hn; rw [D.fzR]
    obtain ⟨e, els', g1, g2, h1, h2, h3, h4, h4', h5, h6⟩ := h
    rw [h1, List.mapM_cons, OwnL.frz h5 hn.1, OwnR.frz h6 hn.2]; rfl
end

/-! ### Values that read the same whatever is frozen -/
mutual
def V.ow : V → Bool
  | .bool _ | .int _ _ | .str _ | .nilp | .nils | .sle | .lsl _ _ _ _ | .loc _ _ _ _ => true
  | .agg vs => V.owL vs
  | .tup vs => V.owL vs
  | _ => false
def V.owL : List V → Bool
  | [] => true
  | v :: vs => v.ow && V.owL vs
end
theorem owL_mem : ∀ {vs : List V}, V.owL vs = true → ∀ v, v ∈ vs → v.ow = true
  | [], _, v, hv => by cases hv
  | x :: vs, h, v, hv => by
    rw [V.owL, Bool.and_eq_true] at h
    rcases List.mem_cons.1 hv with rfl | hv
    · exact h.1
    · exact owL_mem h.2 v hv
theorem owL_of : ∀ {vs : List V}, (∀ v, v ∈ vs → v.ow = true) → V.owL vs = true
  | [], _ => by rw [V.owL]
  | x :: vs, h => by
    rw [V.owL, Bool.and_eq_true]
    exact ⟨h x List.mem_cons_self, owL_of fun v hv => h v (List.mem_cons_of_mem _ hv)⟩
section
variable {P : Program} {w0 : World} {M F : Nat → Prop} {w : World} {bl : Int → Option Blk}
theorem rep_ow {G : Nat → Prop} {x : V} {v : Value} (hx : x.ow = true) (h : Rep F w x v) : Rep G w x v := by
  induction h with
  | agg cs arr hlen hr ih => rw [V.ow] at hx; exact .agg cs arr hlen fun i x h => ih i x h (owL_mem hx x (List.mem_of_getElem? h))
  | tup cs arr hlen hr ih => rw [V.ow] at hx; exact .tup cs arr hlen fun i x h => ih i x h (owL_mem hx x (List.mem_of_getElem? h))
  | loc g sz k j => exact .loc g sz k j
  | lsl g sz o n cap hg hle hcap hb => exact .lsl g sz o n cap hg hle hcap hb
  | lsln g sz hg => exact .lsln g sz hg
  | bool b => exact .bool b
  | int k n => exact .int k n
  | str s => exact .str s
  | nilp => exact .nilp
  | nils => exact .nils
  | sle a cap => exact .sle a cap
  | _ => simp [V.ow] at hx

mutual
/-- No address of frozen data anywhere. -/
def D.sc : D → Bool
  | .c x => x.ow
  | .s _ rows => D.scR rows
  | .p row => D.scL row
  | .a cs => D.scL cs
  | .t cs => D.scL cs
def D.scL : List D → Bool
  | [] => true
  | d :: ds => d.sc && D.scL ds
def D.scR : List (List D) → Bool
  | [] => true
  | r :: rs => D.scL r && D.scR rs
end
def owB (bl : Int → Option Blk) (g : Int) : Prop := ∃ sz els, bl g = some ⟨sz, els⟩ ∧ ∀ e, e ∈ els → ∀ x, x ∈ e → x.ow = true

mutual
theorem OwnD.ow : ∀ {d : D} {v : V} {gs : List Int}, OwnD bl d v gs → d.sc = true → v.ow = true ∧ ∀ g, g ∈ gs → owB bl g
  | .c x, v, gs, h, hs => by
    rw [OwnD] at h; rw [D.sc] at hs
    obtain ⟨rfl, h2, rfl⟩ := h
    exact ⟨hs, fun g hg => by cases hg⟩
  | .s sz rows, v, gs, h, hs => by
    rw [OwnD] at h; rw [D.sc] at hs
    rcases h with ⟨rfl, rfl, rfl⟩ | ⟨g0, els, gs', rfl, rfl, h3, h4, h5, h6⟩
    · exact ⟨by rw [V.ow], fun g hg => by cases hg⟩
    · obtain ⟨k1, k2⟩ := OwnR.ow h6 hs
      refine ⟨by rw [V.ow], fun g hg => ?_⟩
      rcases List.mem_cons.1 hg with rfl | hg
      · exact ⟨sz, els, h4, k1⟩
      · exact k2 g hg
  | .p row, v, gs, h, hs => by
    rw [OwnD] at h; rw [D.sc] at hs
    obtain ⟨g0, e, gs', rfl, rfl, h3, h0, h4, h5⟩ := h
    obtain ⟨k1, k3⟩ := OwnL.ow h5 hs
    refine ⟨by rw [V.ow], fun g hg => ?_⟩
    rcases List.mem_cons.1 hg with rfl | hg
    · exact ⟨_, _, h4, fun e' he' => by
        obtain rfl : e' = e := by simpa using he'
        exact k1⟩
    · exact k3 g hg
  | .a cs, v, gs, h, hs => by
    rw [OwnD] at h; rw [D.sc] at hs
    obtain ⟨vs, rfl, h2⟩ := h
    obtain ⟨k1, k3⟩ := OwnL.ow h2 hs
    exact ⟨by rw [V.ow]; exact owL_of k1, k3⟩
  | .t cs, v, gs, h, hs => by
    rw [OwnD] at h; rw [D.sc] at hs
    obtain ⟨vs, rfl, h2⟩ := h
    obtain ⟨k1, k3⟩ := OwnL.ow h2 hs
    exact ⟨by rw [V.ow]; exact owL_of k1, k3⟩
theorem OwnL.ow : ∀ {ds : List D} {vs : List V} {gs : List Int}, OwnL bl ds vs gs → D.scL ds = true → (∀ x, x ∈ vs → x.ow = true) ∧ ∀ g, g ∈ gs → owB bl g
  | [], vs, gs, h, _ => by
    rw [OwnL] at h
    obtain ⟨rfl, rfl⟩ := h
    exact ⟨fun x hx => (by cases hx), fun g hg => by cases hg⟩
  | d :: ds, vs, gs, h, hs => by
    rw [OwnL] at h; rw [D.scL, Bool.and_eq_true] at hs
    obtain ⟨v, vs', g1, g2, rfl, rfl, h3, h4, h5⟩ := h
    obtain ⟨a1, a4⟩ := OwnD.ow h4 hs.1
    obtain ⟨b1, b3⟩ := OwnL.ow h5 hs.2
    refine ⟨fun x hx => ?_, fun g hg => ?_⟩
    · rcases List.mem_cons.1 hx with rfl | hx
      · exact a1
      · exact b1 x hx
    · rcases List.mem_append.1 hg with hg | hg
      · exact a4 g hg
      · exact b3 g hg
theorem OwnR.ow {sz : Nat} : ∀ {rs : List (List D)} {els : List (List V)} {gs : List Int}, OwnR bl sz rs els gs → D.scR rs = true → (∀ e, e ∈ els → ∀ x, x ∈ e → x.ow = true) ∧ ∀ g, g ∈ gs → owB bl g
  | [], vs, gs, h, _ => by
    rw [OwnR] at h
    obtain ⟨rfl, rfl⟩ := h
    exact ⟨fun e he => (by cases he), fun g hg => by cases hg⟩
  | r :: rs, els, gs, h, hs => by
    rw [OwnR] at h; rw [D.scR, Bool.and_eq_true] at hs
    obtain ⟨e, els', g1, g2, rfl, rfl, h3, h4, h4', h5, h6⟩ := h
    obtain ⟨a1, a3⟩ := OwnL.ow h5 hs.1
    obtain ⟨b1, b2⟩ := OwnR.ow h6 hs.2
    refine ⟨fun e' he => ?_, fun g hg => ?_⟩
    · rcases List.mem_cons.1 he with rfl | he
      · exact a1
      · exact b1 e' he
    · rcases List.mem_append.1 hg with hg | hg
      · exact a3 g hg
      · exact b2 g hg
end

/-! ### Calls that make data -/
theorem Mem.sub {bl2 : Int → Option Blk} (h : Mem w0 M F bl w) (hs : Sub bl2 bl) : Mem w0 M F bl2 w := by
  refine ⟨h.os, h.tape, h.output, h.size, h.frame, h.shapes, h.fr, ?_, fun g b hb => h.own g b (hs g b hb), fun g b hb => h.blk g b (hs g b hb)⟩
  obtain ⟨n, hn⟩ := h.fin
  refine ⟨n, fun g hg => ?_⟩
  cases hb : bl2 g with
  | none => rfl
  | some b => have := hs g b hb; rw [hn g hg] at this; cases this

/-- New data d, and nothing else. -/
def Made (bl : Int → Option Blk) (d : D) (v : V) (bl' : Int → Option Blk) : Prop := ∃ gs, OwnD bl' d v gs ∧ (∀ g, g ∈ gs → bl g = none) ∧ ∀ g, g ∉ gs → bl' g = bl g
/-- The function reads its arguments and makes d. -/
def NW (P : Program) (f : FuncId) (xs : List V) (d : D) : Prop := ∀ bl, CallP P f xs bl (Made bl d)
/-- .. but for what is left behind. -/
def MadeK (bl : Int → Option Blk) (d : D) (v : V) (bl' : Int → Option Blk) : Prop := ∃ gs, OwnD bl' d v gs ∧ (∀ g, g ∈ gs → bl g = none) ∧ Sub bl bl'

theorem callP_made {f : FuncId} {xs : List V} {d : D} (h : CallP P f xs bl (MadeK bl d)) : CallP P f xs bl (Made bl d) :=
  ⟨h.1, fun w0 M F w vs hm hr => (h.2 w0 M F w vs hm hr).mono fun e w' ⟨v, x, bl', F', h1, h2, h3, h4, h5, h6, gs, h7, h8, h9⟩ => by
    refine ⟨v, x, fun g => if g ∈ gs then bl' g else bl g, F', h1, h2, h3, h4, h5.sub fun g b hb => ?_, h6, gs, h7.frame fun g hg => by simp [hg], h8, fun g hg => by simp [hg]⟩
    split at hb
    · exact hb
    · exact h9 g b hb⟩

theorem nw_of {f : FuncId} {fn : Func} {c : Code} {xs : List V} {d : D} (hf : P.funcs[f]? = some fn) (hb : fn.body = some c) (hn : (fn.name == "runtime.NumGoroutine") = false) (hl : xs.length ≤ fn.ntmps)
    (h : ∀ bl, AW P c (retK P fn.results.toList (MadeK bl d)) ⟨fn.ntmps, fun t => xs.getD t .junk, bl⟩) : NW P f xs d := fun bl => callP_made (callP_of hf hb hn hl (h bl))

theorem retNW {rs : List ResultVar} {d : D} {σ : St} (vs : List V) (gs : List Int) (h : resV P σ rs = some vs) (ho : OwnD σ.bl d (retV vs) gs) (hf : ∀ g, g ∈ gs → bl g = none) (hs : Sub bl σ.bl) :
    retK P rs (MadeK bl d) .ret σ := by rw [retK_ret]; exact ⟨vs, h, gs, ho, hf, hs⟩

theorem callP_new {f : FuncId} {xs : List V} {d : D} {k : V → (Int → Option Blk) → Prop} (h : NW P f xs d)
    (hk : ∀ v gs bl', OwnD bl' d v gs → (∀ g, g ∈ gs → bl g = none) → (∀ g, g ∉ gs → bl' g = bl g) → k v bl') : CallP P f xs bl k :=
  (h bl).mono fun v bl' ⟨gs, h1, h2, h3⟩ => hk v gs bl' h1 h2 h3

theorem Made.sub {d : D} {v : V} {gs : List Int} {bl' : Int → Option Blk} (h2 : ∀ g, g ∈ gs → bl g = none) (h3 : ∀ g, g ∉ gs → bl' g = bl g) : Sub bl bl' := fun g b hb => by
  rw [h3 g (fun hg => by rw [h2 g hg] at hb; cases hb)]; exact hb

/-- What has been made may be frozen. -/
theorem ro_of_nw {f : FuncId} {xs : List V} {d : D} (n : Nat) (h : NW P f xs d) (hn : d.dep n) : RO P f xs d.fz := fun bl =>
  callP_frz ((h bl).mono fun v bl' ⟨gs, h1, h2, h3⟩ => ⟨n, (OwnD.frame h1 fun g hg => by unfold dropB; rw [h2 g hg]).frz hn, Made.sub (d := d) (v := v) h2 h3⟩) ⟨rfl, rfl⟩

/-- A call that makes plain data may be handed data of the call's own. -/
theorem callP_lend {f : FuncId} {xs ys : List V} {d : D} {k : V → (Int → Option Blk) → Prop} (n : Nat) (hx : frzL bl n xs = some ys) (h : NW P f ys d) (hd : d.sc = true)
    (hk : ∀ v gs bl', OwnD bl' d v gs → (∀ g, g ∈ gs → bl g = none) → (∀ g, g ∉ gs → bl' g = bl g) → k v bl') : CallP P f xs bl k := by
  have h0 := h (fun g => if g < 0 then bl g else none)
  refine ⟨h0.1, fun w0 M F w vs hm hrep => ?_⟩
  have hsub : Sub (fun g => if g < 0 then bl g else none) bl := fun g b hb => by
    simp only at hb; split at hb
    · exact hb
    · cases hb
  have hm1 := hm.start.freeze hsub
  have hown : ∀ g b, bl g = some b → 0 ≤ g → (F g.toNat ∨ Own (dropB bl fun g => if g < 0 then bl g else none) g.toNat) := fun g b hb h0 =>
    .inr ⟨g, b, by unfold dropB; simp only; rw [if_neg (by omega)]; exact hb, h0, rfl⟩
  have hlen := frzL_get hx
  have hreps : Reps (fun k => F k ∨ Own (dropB bl fun g => if g < 0 then bl g else none) k) w ys vs := by
    refine ⟨by rw [hrep.1, hlen.1], fun i y hy => ?_⟩
    obtain ⟨x, h1, h2⟩ := hlen.2 i y hy
    exact frz_sound (fun g b hb => hm.blk g b hb) hown (fun b hb => .inl hb) n x y _ (hrep.2 i x h1) h2
  refine (h0.2 w (Own bl) _ w vs hm1 hreps).mono fun e w' ⟨v, x, bl', F', h1, h2, h3, h4, h5, h6, gs, h7, h8, h9⟩ => ?_
  have hF : ∀ b, F b → w'.heap[b]? = w.heap[b]? := fun b hb => h3 b (.inl hb)
  have hO : ∀ g b, bl g = some b → 0 ≤ g → w'.heap[g.toNat]? = w.heap[g.toNat]? := fun g b hb h0 => h3 _ (hown g b hb h0)
  obtain ⟨k1, k2⟩ := h7.ow hd
  have hnew : ∀ g, g ∈ gs → bl g = none := fun g hg => by
    have h10 := h8 g hg
    simp only at h10
    split at h10
    · exact h10
    · rename_i hg0
      cases hb : bl g with
      | none => rfl
      | some b =>
        obtain ⟨b', hb'⟩ := h7.has g hg
        have := h5.blk g b' hb'
        unfold BlkIn at this
        rw [if_neg hg0] at this
        exact absurd (h2 _ (hown g b hb (by omega))) this.1
  refine ⟨v, x, fun g => if g ∈ gs then bl' g else bl g, F, h1, fun _ h => h, hF, h4, ?_, rep_ow k1 h6, hk x gs _ (h7.frame fun g hg => by simp [hg]) hnew fun g hg => by simp [hg]⟩
  refine hm.step h5.os h5.tape h5.output h5.size h4 (fun k => Own bl k) (fun k hk hX => h5.frame k hk hX) (fun k hk => by obtain ⟨g, b, hb, h0, rfl⟩ := hk; exact hm.own g b hb h0)
    (fun k hk => Nat.lt_of_lt_of_le (hm.fr k hk) h5.size) ?_ fun g b hb => ?_
  · obtain ⟨n1, hn1⟩ := hm.fin
    obtain ⟨n2, hn2⟩ := h5.fin
    refine ⟨min n1 n2, fun g hg => ?_⟩
    split
    · exact hn2 g (by omega)
    · exact hn1 g (by omega)
  · split at hb
    · rename_i hg
      have hB := h5.blk g b hb
      refine ⟨fun h0 => ?_, ?_⟩
      · rcases h5.own g b hb h0 with h11 | ⟨g', b', hb', h0', he⟩
        · exact .inl (Nat.le_trans hm.size h11)
        · have : g' = g := by omega
          subst this
          rw [hnew g' hg] at hb'; cases hb'
      · unfold BlkIn at hB ⊢
        split
        · rename_i hg0; rw [if_pos hg0] at hB; exact hB
        · rename_i hg0
          rw [if_neg hg0] at hB
          obtain ⟨c1, c, t, c2, c3, c4⟩ := hB
          refine ⟨fun hFg => c1 (h2 _ (.inl hFg)), c, t, c2, c3, fun k e he => ⟨(c4 k e he).1, fun j y hy => ?_⟩⟩
          obtain ⟨c5, u, c6, c7⟩ := (c4 k e he).2 j y hy
          obtain ⟨sz, els, c8, c9⟩ := k2 g hg
          rw [hb] at c8
          cases c8
          exact ⟨c5, u, c6, rep_ow (c9 e (List.mem_of_getElem? he) y (List.mem_of_getElem? hy)) c7⟩
    · refine ⟨hm.own g b hb, ?_⟩
      refine (hm.blk g b hb).mono (fun _ h => h) (fun h0 hFg => ?_) hF h4 (fun h0 => hO g b hb h0)
      have := hm.blk g b hb
      unfold BlkIn at this
      rw [if_neg (by omega)] at this
      exact this.1 hFg

/-- Arguments may be told with less. -/
theorem callP_wk {f : FuncId} {xs ys : List V} {k : V → (Int → Option Blk) → Prop} (n : Nat) (hx : frzL (fun _ => none) n xs = some ys) (h : CallP P f ys bl k) : CallP P f xs bl k := by
  refine ⟨h.1, fun w0 M F w vs hm hrep => h.2 w0 M F w vs hm ?_⟩
  have hlen := frzL_get hx
  refine ⟨by rw [hrep.1, hlen.1], fun i y hy => ?_⟩
  obtain ⟨x, h1, h2⟩ := hlen.2 i y hy
  exact frz_sound (bl := fun _ => none) (fun g b hb => by cases hb) (fun g b hb => by cases hb) (fun b hb => hb) n x y _ (hrep.2 i x h1) h2
end

/-! ### More on blocks -/
theorem fresh_of {bl bl' : Int → Option Blk} {g : Int} (hs : Sub bl bl') (h : bl' g = none) : bl g = none := by
  cases hb : bl g with
  | none => rfl
  | some b => have := hs g b hb; rw [h] at this; cases this
@[simp] theorem sub_rem {bl bl' : Int → Option Blk} {g : Int} (h : bl g = none) : Sub bl (rem bl' g) = Sub bl bl' := by
  apply propext
  constructor
  · intro hs g' b' hb
    have := hs g' b' hb
    unfold rem at this
    split at this
    · cases this
    · exact this
  · intro hs; exact hs.rem h
@[simp] theorem rem_apply (f : Int → Option Blk) (g x : Int) : rem f g x = if x = g then none else f x := rfl
theorem sub_same {bl bl' : Int → Option Blk} {g : Int} {b : Option Blk} (hs : Sub bl bl') : Sub (upd bl g b) (upd bl' g b) := fun g' b' hb => by
  rw [upd_apply] at hb ⊢
  split
  · rename_i h; rw [if_pos h] at hb; exact hb
  · rename_i h; rw [if_neg h] at hb; exact hs g' b' hb

theorem sub_put {bl bl' : Int → Option Blk} {g : Int} {sz : Nat} {els els' : List (List V)} (he : els = els') (hs : Sub bl bl') : Sub (upd bl g (some ⟨sz, els⟩)) (upd bl' g (some ⟨sz, els'⟩)) := by
  subst he; exact sub_same hs

/-- One slot is frozen; blocks are given up. -/
theorem AW_frzAt {P : Program} {c : Code} {K : Ex → St → Prop} {σ : St} (n t : Nat) (v : V) (bl2 : Int → Option Blk) (hs : Sub bl2 σ.bl) (hv : frz (dropB σ.bl bl2) n (σ.sl t) = some v) (h : AW P c K ⟨σ.n, upd σ.sl t v, bl2⟩) : AW P c K σ := by
  refine AW_frz n _ bl2 hs (fun t' => ?_) h
  by_cases e : t' = t
  · subst e; right; rw [upd_same]; exact hv
  · left; exact upd_ne _ _ _ _ e

/-- An empty slice is nil or it is not. -/
theorem callP_nilsplit {P : Program} {f : FuncId} {post : List V} {bl : Int → Option Blk} {k : V → (Int → Option Blk) → Prop} (h1 : CallP P f (.nils :: post) bl k) (h2 : CallP P f (.sle :: post) bl k) : CallP P f (.sl [] :: post) bl k := by
  refine ⟨h1.1, fun w0 M F w vs hm hr => ?_⟩
  have key : ∀ v, (∀ w, Rep F w (.sl []) v → Rep F w .nils v ∨ Rep F w .sle v) := by
    intro v w h
    generalize hx : V.sl [] = x at h
    cases h <;> cases hx
    · rename_i a cap ha
      cases a with
      | none => rw [ha rfl]; exact .inl .nils
      | some a => exact .inr (.sle a cap)
    · exact .inr (.sle _ _)
  have h0 := hr.2 0 _ rfl
  have put : ∀ y, Rep F w y (vs.getD 0 undef) → Reps F w (y :: post) vs := fun y hy => ⟨by rw [hr.1]; rfl, fun i x hx => by
    cases i with
    | zero => cases hx; exact hy
    | succ i => exact hr.2 (i + 1) x (by simpa using hx)⟩
  rcases key _ w h0 with h | h
  · exact h1.2 w0 M F w vs hm (put _ h)
  · exact h2.2 w0 M F w vs hm (put _ h)

/-- A nil slice in a block is seen as an empty one of the call's own. -/
theorem AW_ghostCell {P : Program} {c : Code} {K : Ex → St → Prop} {σ : St} {g : Int} {s : Nat} {els : List (List V)} {e : List V} (k j sz : Nat) (hb : σ.bl g = some ⟨s, els⟩) (he : els[k]? = some e) (hj : e[j]? = some .nils)
    (h : ∀ g' : Int, σ.bl g' = none → g' ≠ g → AW P c K ⟨σ.n, σ.sl, upd (upd σ.bl g (some ⟨s, els.set k (e.set j (.lsl g' sz 0 0))⟩)) g' (some ⟨sz, []⟩)⟩) : AW P c K σ := by
  intro w0 M F a w hs
  obtain ⟨g', hg0, hgn, hm⟩ := hs.mem.ghost sz
  have hne : g' ≠ g := fun h => by rw [h, hb] at hgn; cases hgn
  have hB := hs.mem.blk g _ hb
  unfold BlkIn at hB
  have hge : ¬ g < 0 := fun h => by rw [if_pos h] at hB; simp only at hB; rw [hB] at he; cases he
  rw [if_neg hge] at hB
  obtain ⟨h1, cs, t, h2, h3, h4⟩ := hB
  refine h g' hgn hne w0 M F a w ⟨?_, hs.size, hs.sl, hs.defers⟩
  have hkl := (List.getElem?_eq_some_iff.1 he).1
  have hjl := (List.getElem?_eq_some_iff.1 hj).1
  refine ⟨hm.os, hm.tape, hm.output, hm.size, hm.frame, hm.shapes, hm.fr, ?_, fun x b hx h0 => ?_, fun x b hx => ?_⟩
  · obtain ⟨n, hn⟩ := hm.fin
    refine ⟨min n 0, fun x hx => ?_⟩
    have := hn x (by omega)
    show upd _ _ _ x = none
    simp only [upd_apply] at this ⊢
    split
    · rename_i hh; rw [if_pos hh] at this; exact this
    · rename_i hh
      rw [if_neg hh] at this
      rw [if_neg (by omega)]; exact this
  · by_cases hxg : x = g
    · subst hxg; exact hs.mem.own x _ hb h0
    · refine hm.own x b ?_ h0
      simp only [upd_apply] at hx ⊢
      rw [if_neg hxg] at hx
      exact hx
  · by_cases hxg : x = g
    · subst hxg
      simp only [upd_apply] at hx
      rw [if_neg (Ne.symm hne), if_pos trivial] at hx
      cases hx
      unfold BlkIn
      rw [if_neg hge]
      refine ⟨h1, cs, t, h2, by simpa using h3, fun k' e' he' => ?_⟩
      simp only at he' ⊢
      by_cases hkk : k' = k
      · subst hkk
        rw [List.getElem?_set_self hkl] at he'
        cases he'
        obtain ⟨h5, h6⟩ := h4 k' e he
        refine ⟨by rw [List.length_set]; exact h5, fun j' x' hx' => ?_⟩
        by_cases hjj : j' = j
        · subst hjj
          rw [List.getElem?_set_self hjl] at hx'
          cases hx'
          obtain ⟨h7, v, h8, h9⟩ := h6 j' _ hj
          refine ⟨rfl, v, h8, ?_⟩
          cases h9
          exact .lsln g' sz hg0
        · rw [List.getElem?_set_ne (Ne.symm hjj)] at hx'
          exact h6 j' x' hx'
      · rw [List.getElem?_set_ne (Ne.symm hkk)] at he'
        exact h4 k' e' he'
    · refine hm.blk x b ?_
      simp only [upd_apply] at hx ⊢
      rw [if_neg hxg] at hx
      exact hx

/-- Rows of plain cells. -/
def fl (sz : Nat) (rows : List (List V)) : D := .s sz (rows.map fun r => r.map .c)
theorem fzL_c (r : List V) : D.fzL (r.map .c) = r := by
  rw [fzL_map, List.map_map]
  conv => rhs; rw [← List.map_id r]
  exact List.map_congr_left fun x _ => by simp [D.fz]
@[simp] theorem fl_fz (sz : Nat) (rows : List (List V)) : (fl sz rows).fz = .sl rows := by
  unfold fl
  rw [D.fz, fzR_map, List.map_map]
  congr 1
  conv => rhs; rw [← List.map_id rows]
  exact List.map_congr_left fun r _ => by
    show List.map D.fz (r.map .c) = r
    rw [← fzL_map, fzL_c]
theorem depL_c (n : Nat) : ∀ (r : List V), D.depL n (r.map .c)
  | [] => by simp [D.depL]
  | x :: r => by simp [D.depL, D.dep, depL_c n r]
theorem depR_c (n : Nat) : ∀ (rows : List (List V)), D.depR n (rows.map fun r => r.map .c)
  | [] => by simp [D.depR]
  | r :: rs => by simp [D.depR, depL_c, depR_c n rs]
theorem fl_dep (sz : Nat) (rows : List (List V)) (n : Nat) : (fl sz rows).dep (n + 1) := by
  unfold fl
  rw [D.dep]
  exact ⟨by omega, depR_c _ _⟩
theorem scL_c : ∀ (r : List V), r.all V.ow = true → D.scL (r.map .c) = true
  | [], _ => by simp [D.scL]
  | x :: r, h => by
    simp only [List.all_cons, Bool.and_eq_true] at h
    simp [D.scL, D.sc, h.1, scL_c r h.2]
theorem fl_sc {sz : Nat} : ∀ {rows : List (List V)}, rows.all (fun r => r.all V.ow) = true → (fl sz rows).sc = true
  | [], _ => by simp [fl, D.sc, D.scR]
  | r :: rows, h => by
    simp only [List.all_cons, Bool.and_eq_true] at h
    have := fl_sc (sz := sz) h.2
    unfold fl at this ⊢
    rw [D.sc] at this ⊢
    rw [List.map_cons, D.scR, scL_c r h.1, this]; rfl

theorem V.one_of_cl {x : V} (h : x.cl = true) : x.one = true := by cases x <;> first | rfl | (simp [V.cl] at h)
theorem ownL_c {bl : Int → Option Blk} : ∀ {r vs : List V} {gs : List Int}, r.all V.cl = true → (OwnL bl (r.map .c) vs gs ↔ vs = r ∧ gs = [])
  | [], vs, gs, _ => by rw [List.map_nil, OwnL]
  | x :: r, vs, gs, h => by
    simp only [List.all_cons, Bool.and_eq_true] at h
    rw [List.map_cons, OwnL]
    constructor
    · rintro ⟨v, vs', g1, g2, rfl, rfl, _, h1, h2⟩
      rw [OwnD] at h1
      obtain ⟨rfl, _, rfl⟩ := h1
      obtain ⟨rfl, rfl⟩ := (ownL_c h.2).1 h2
      exact ⟨rfl, rfl⟩
    · rintro ⟨rfl, rfl⟩
      exact ⟨x, r, [], [], rfl, rfl, fun g hg => (by cases hg), by rw [OwnD]; exact ⟨rfl, h.1, rfl⟩, (ownL_c h.2).2 ⟨rfl, rfl⟩⟩
theorem ownR_c {bl : Int → Option Blk} {sz : Nat} : ∀ {rows els : List (List V)} {gs : List Int}, rows.all (fun r => r.all V.cl) = true → (∀ r, r ∈ rows → r.length = sz) → (OwnR bl sz (rows.map fun r => r.map .c) els gs ↔ els = rows ∧ gs = [])
  | [], els, gs, _, _ => by rw [List.map_nil, OwnR]
  | r :: rows, els, gs, h, hl => by
    simp only [List.all_cons, Bool.and_eq_true] at h
    rw [List.map_cons, OwnR]
    constructor
    · rintro ⟨e, els', g1, g2, rfl, rfl, _, _, _, h1, h2⟩
      obtain ⟨rfl, rfl⟩ := (ownL_c h.1).1 h1
      obtain ⟨rfl, rfl⟩ := (ownR_c h.2 fun r hr => hl r (List.mem_cons_of_mem _ hr)).1 h2
      exact ⟨rfl, rfl⟩
    · rintro ⟨rfl, rfl⟩
      exact ⟨r, rows, [], [], rfl, rfl, fun g hg => (by cases hg), hl r List.mem_cons_self, List.all_eq_true.2 fun x hx => V.one_of_cl (List.all_eq_true.1 h.1 x hx), (ownL_c h.1).2 ⟨rfl, rfl⟩, (ownR_c h.2 fun r hr => hl r (List.mem_cons_of_mem _ hr)).2 ⟨rfl, rfl⟩⟩
/-- A slice of plain rows. -/
theorem own_fl {bl : Int → Option Blk} {sz : Nat} {rows : List (List V)} {v : V} {gs : List Int} (h : rows.all (fun r => r.all V.cl) = true) (hl : ∀ r, r ∈ rows → r.length = sz) :
    OwnD bl (fl sz rows) v gs ↔ (rows = [] ∧ v = .nils ∧ gs = []) ∨ ∃ g, v = .lsl g sz 0 rows.length ∧ gs = [g] ∧ bl g = some ⟨sz, rows⟩ ∧ (g < 0 → rows = []) := by
  unfold fl
  rw [OwnD]
  constructor
  · rintro (⟨h1, h2, h3⟩ | ⟨g, els, gs', h1, h2, h3, h4, h5, h6⟩)
    · exact .inl ⟨by simpa using h1, h2, h3⟩
    · obtain ⟨rfl, rfl⟩ := (ownR_c h hl).1 h6
      exact .inr ⟨g, by simpa using h1, h2, h4, h5⟩
  · rintro (⟨h1, h2, h3⟩ | ⟨g, h1, h2, h4, h5⟩)
    · exact .inl ⟨by simpa using h1, h2, h3⟩
    · exact .inr ⟨g, rows, [], by simpa using h1, h2, by simp, h4, h5, (ownR_c h hl).2 ⟨rfl, rfl⟩⟩
end Go.Proofs.Ytmbcofnnibpbeaa.Vm

namespace Go.Proofs.Ytmbcofnnibpbeaa.Vm
open Go Go.Proofs
set_option linter.unusedSimpArgs false
set_option linter.unusedVariables false

theorem iv_clen (ns : List Int) : ∀ r, r ∈ iv ns → r.length = 1 := by
  intro r hr
  obtain ⟨n, _, rfl⟩ := List.mem_map.1 hr
  rfl
theorem iv_ow (ns : List Int) : (iv ns).all (fun r => r.all V.ow) = true := by simp [iv, V.ow]
theorem iv_append (a b : List Int) : iv (a ++ b) = iv a ++ iv b := by simp [iv]
theorem iv_takeall (ns : List Int) : (iv ns).take ns.length = iv ns := by rw [← iv_length ns, List.take_length]
theorem own_iv {bl : Int → Option Blk} {ns : List Int} {v : V} {gs : List Int} : OwnD bl (fl 1 (iv ns)) v gs ↔ (ns = [] ∧ v = .nils ∧ gs = []) ∨ ∃ g, v = .lsl g 1 0 ns.length ∧ gs = [g] ∧ bl g = some ⟨1, iv ns⟩ ∧ (g < 0 → ns = []) := by
  rw [own_fl (iv_cl ns) (iv_clen ns)]
  simp [iv]

/-- The joints before n that are free. -/
def freesTo (js : List J) (n : Nat) : List Int := ((List.range n).filter fun i => !(js.getD i default).fixed).map fun (i : Nat) => (i : Int)
def frees (js : List J) : List Int := freesTo js js.length
theorem freesTo_succ (js : List J) (n : Nat) : freesTo js (n + 1) = freesTo js n ++ if (js.getD n default).fixed then [] else [(n : Int)] := by
  unfold freesTo
  rw [List.range_succ, List.filter_append, List.map_append]
  congr 1
  cases h : (js.getD n default).fixed <;> simp only [List.filter_cons, List.filter_nil, h] <;> simp
theorem freesTo_le (js : List J) (n : Nat) : (freesTo js n).length ≤ n := by
  unfold freesTo
  rw [List.length_map]
  exact Nat.le_trans (List.length_filter_le _ _) (by simp)
theorem getD_at {α : Type} (xs : List α) (i : Nat) (d : α) (h : i < xs.length) : xs.getD i d = xs[i] := by simp [h]

end Go.Proofs.Ytmbcofnnibpbeaa.Vm

namespace Go.Proofs.Ytmbcofnnibpbeaa.Vm
open Go Go.Proofs
set_option linter.unusedSimpArgs false
set_option linter.unusedVariables false

theorem own_pair {bl : Int → Option Blk} {d e : D} {vs : List V} {gs : List Int} : OwnL bl [d, e] vs gs ↔ ∃ v w g1 g2, vs = [v, w] ∧ gs = g1 ++ g2 ∧ (∀ g, g ∈ g1 → g ∉ g2) ∧ OwnD bl d v g1 ∧ OwnD bl e w g2 := by
  rw [OwnL]
  constructor
  · rintro ⟨v, vs', g1, g2, rfl, rfl, h1, h2, h3⟩
    rw [OwnL] at h3
    obtain ⟨w, vs'', g3, g4, rfl, rfl, h4, h5, h6⟩ := h3
    rw [OwnL] at h6
    obtain ⟨rfl, rfl⟩ := h6
    rw [List.append_nil] at h1 ⊢
    exact ⟨v, w, g1, g3, rfl, rfl, h1, h2, h5⟩
  · rintro ⟨v, w, g1, g2, rfl, rfl, h1, h2, h3⟩
    refine ⟨v, [w], g1, g2, rfl, rfl, h1, h2, ?_⟩
    rw [OwnL]
    exact ⟨w, [], g2, [], rfl, by simp, by simp, h3, by rw [OwnL]; exact ⟨rfl, rfl⟩⟩
theorem OwnD.one {bl : Int → Option Blk} {sz : Nat} {rows : List (List V)} {v : V} {gs : List Int} (h : OwnD bl (fl sz rows) v gs) : v.one = true ∧ v.cells = [v] := by
  unfold fl at h
  rw [OwnD] at h
  rcases h with ⟨_, rfl, _⟩ | ⟨g, els, gs', rfl, _⟩ <;> exact ⟨rfl, rfl⟩
theorem frz_iv {bl : Int → Option Blk} {ns : List Int} {v : V} {gs : List Int} (h : OwnD bl (fl 1 (iv ns)) v gs) (n : Nat) : frz bl (n + 1) v = some (.sl (iv ns)) := by
  rw [h.frz (fl_dep _ _ _), fl_fz]
theorem sc_iv (ns : List Int) : (fl 1 (iv ns)).sc = true := fl_sc (iv_ow ns)
theorem new_keep {bl bl' : Int → Option Blk} {gs : List Int} (h2 : ∀ g, g ∈ gs → bl g = none) (h3 : ∀ g, g ∉ gs → bl' g = bl g) {x : Int} {b : Blk} (hx : bl x = some b) : bl' x = some b :=
  Made.sub (d := default) (v := default) h2 h3 x b hx
theorem OwnD.keep {bl bl' : Int → Option Blk} {d : D} {v : V} {gs : List Int} (h : OwnD bl d v gs) (hg : ∀ x, x ∈ gs → ∀ b, bl x = some b → bl' x = some b) : OwnD bl' d v gs := h.frame fun x hx => by
  obtain ⟨b, hb⟩ := h.has x hx
  rw [hb, hg x hx b hb]
theorem OwnL.keep {bl bl' : Int → Option Blk} {d : List D} {v : List V} {gs : List Int} (h : OwnL bl d v gs) (hg : ∀ x, x ∈ gs → ∀ b, bl x = some b → bl' x = some b) : OwnL bl' d v gs := h.frame fun x hx => by
  obtain ⟨b, hb⟩ := h.has x hx
  rw [hb, hg x hx b hb]
theorem OwnL.not {bl : Int → Option Blk} {d : List D} {v : List V} {gs : List Int} (h : OwnL bl d v gs) {g : Int} (hg : bl g = none) : g ∉ gs := fun hh => by
  obtain ⟨b, hb⟩ := h.has g hh
  rw [hg] at hb; cases hb
theorem OwnD.not {bl : Int → Option Blk} {d : D} {v : V} {gs : List Int} (h : OwnD bl d v gs) {g : Int} (hg : bl g = none) : g ∉ gs := fun hh => by
  obtain ⟨b, hb⟩ := h.has g hh
  rw [hg] at hb; cases hb
theorem sub_new {bl bl' : Int → Option Blk} {g : Int} {b : Option Blk} (hs : Sub bl bl') (hg : bl' g = none) : Sub bl (upd bl' g b) := hs.upd (fresh_of hs hg) b
theorem OwnR.keep {bl bl' : Int → Option Blk} {sz : Nat} {d : List (List D)} {v : List (List V)} {gs : List Int} (h : OwnR bl sz d v gs) (hg : ∀ x, x ∈ gs → ∀ b, bl x = some b → bl' x = some b) : OwnR bl' sz d v gs := h.frame fun x hx => by
  obtain ⟨b, hb⟩ := h.has x hx
  rw [hb, hg x hx b hb]
theorem OwnR.not {bl : Int → Option Blk} {sz : Nat} {d : List (List D)} {v : List (List V)} {gs : List Int} (h : OwnR bl sz d v gs) {g : Int} (hg : bl g = none) : g ∉ gs := fun hh => by
  obtain ⟨b, hb⟩ := h.has g hh
  rw [hg] at hb; cases hb
theorem OwnR.snoc {bl : Int → Option Blk} {sz : Nat} {r : List D} {e : List V} {g2 : List Int} (hr : OwnL bl r e g2) (hl : e.length = sz) (ho : e.all V.one = true) : ∀ {rs : List (List D)} {els : List (List V)} {g1 : List Int}, OwnR bl sz rs els g1 → (∀ x, x ∈ g1 → x ∉ g2) → OwnR bl sz (rs ++ [r]) (els ++ [e]) (g1 ++ g2)
  | [], els, g1, h, hd => by
    rw [OwnR] at h
    obtain ⟨rfl, rfl⟩ := h
    show OwnR bl sz [r] [e] g2
    rw [OwnR]
    exact ⟨e, [], g2, [], rfl, by simp, by simp, hl, ho, hr, by rw [OwnR]; exact ⟨rfl, rfl⟩⟩
  | r1 :: rs, els, g1, h, hd => by
    rw [OwnR] at h
    obtain ⟨e1, els', ga, gb, rfl, rfl, h3, h4, h5, h6, h7⟩ := h
    have ih := OwnR.snoc hr hl ho h7 fun x hx => hd x (by simp [hx])
    show OwnR bl sz (r1 :: (rs ++ [r])) (e1 :: (els' ++ [e])) (ga ++ gb ++ g2)
    rw [OwnR]
    refine ⟨e1, els' ++ [e], ga, gb ++ g2, rfl, by simp, fun x hx hx2 => ?_, h4, h5, h6, ih⟩
    rcases List.mem_append.1 hx2 with hx2 | hx2
    · exact h3 x hx hx2
    · exact hd x (by simp [hx]) hx2
theorem OwnR.at {bl : Int → Option Blk} {sz : Nat} : ∀ {rs : List (List D)} {els : List (List V)} {gs : List Int} (i : Nat) (hi : i < rs.length), OwnR bl sz rs els gs →
    ∃ e gi, els[i]? = some e ∧ OwnL bl rs[i] e gi ∧ e.length = sz ∧ e.all V.one = true ∧ (∀ x, x ∈ gi → x ∈ gs) ∧
      ∀ bl' r' e', OwnL bl' r' e' gi → e'.length = sz → e'.all V.one = true → (∀ x, x ∈ gs → x ∉ gi → ∀ y, bl x = some y → bl' x = some y) → OwnR bl' sz (rs.set i r') (els.set i e') gs
  | [], els, gs, i, hi, _ => by simp at hi
  | r :: rs, els, gs, 0, hi, h => by
    rw [OwnR] at h
    obtain ⟨e, els', g1, g2, rfl, rfl, h3, h4, h5, h6, h7⟩ := h
    refine ⟨e, g1, rfl, h6, h4, h5, fun x hx => by simp [hx], fun bl' r' e' a1 a2 a3 a4 => ?_⟩
    show OwnR bl' sz (r' :: rs) (e' :: els') (g1 ++ g2)
    rw [OwnR]
    exact ⟨e', els', g1, g2, rfl, rfl, h3, a2, a3, a1, h7.keep fun x hx b hb => a4 x (by simp [hx]) (fun h => h3 x h hx) b hb⟩
  | r :: rs, els, gs, i + 1, hi, h => by
    rw [OwnR] at h
    obtain ⟨e, els', g1, g2, rfl, rfl, h3, h4, h5, h6, h7⟩ := h
    obtain ⟨e2, gi, b1, b2, b3, b4, b5, b6⟩ := OwnR.at (rs := rs) i (by simpa using hi) h7
    refine ⟨e2, gi, by simpa using b1, by simpa using b2, b3, b4, fun x hx => by simp [b5 x hx], fun bl' r' e' a1 a2 a3 a4 => ?_⟩
    show OwnR bl' sz (r :: rs.set i r') (e :: els'.set i e') (g1 ++ g2)
    rw [OwnR]
    refine ⟨e, els'.set i e', g1, g2, rfl, rfl, h3, h4, h5, h6.keep fun x hx b hb => a4 x (by simp [hx]) (fun h => h3 x hx (b5 x h)) b hb, b6 bl' r' e' a1 a2 a3 fun x hx hn y hy => a4 x (by simp [hx]) hn y hy⟩
theorem grow_get (els : List (List V)) (z : List V) (n : Nat) (h : els.length < n) : (els ++ List.replicate (n - els.length) z)[els.length]? = some z := by
  rw [List.getElem?_append_right (Nat.le_refl _), Nat.sub_self, List.getElem?_replicate, if_pos (by omega)]
theorem grow_set (els : List (List V)) (z x : List V) (n : Nat) (h : els.length < n) : (els ++ List.replicate (n - els.length) z).set els.length x = (els ++ [x]) ++ List.replicate (n - (els ++ [x]).length) z := by
  rw [List.set_append_right _ _ (Nat.le_refl _), Nat.sub_self]
  obtain ⟨m, hm⟩ : ∃ m, n - els.length = m + 1 := ⟨n - els.length - 1, by omega⟩
  have h2 : n - (els ++ [x]).length = m := by simp; omega
  rw [hm, h2, List.replicate_succ]
  simp
theorem grow_set' (els : List (List V)) (z x : List V) (n : Nat) (h : els.length < n) : els ++ (List.replicate (n - els.length) z).set 0 x = (els ++ [x]) ++ List.replicate (n - (els ++ [x]).length) z := by
  rw [← grow_set els z x n h, List.set_append_right _ _ (Nat.le_refl _), Nat.sub_self]
theorem own_single {bl : Int → Option Blk} {d : D} {v : V} {gs : List Int} : OwnL bl [d] [v] gs ↔ OwnD bl d v gs := by
  rw [OwnL]
  constructor
  · rintro ⟨v', vs', g1, g2, h1, rfl, _, h2, h3⟩
    cases h1
    rw [OwnL] at h3
    rw [h3.2, List.append_nil]; exact h2
  · intro h
    exact ⟨v, [], gs, [], rfl, by simp, by simp, h, by rw [OwnL]; exact ⟨rfl, rfl⟩⟩
theorem sub_new' {bl bl' : Int → Option Blk} {g : Int} {b : Option Blk} (hg : bl g = none) (hs : Sub bl bl') : Sub bl (upd bl' g b) := hs.upd hg b
structure Grow where
  els : List (List V)
  gs : List Int
  b : Int → Option Blk
theorem own_cons {bl : Int → Option Blk} {d : D} {ds : List D} {v : V} {vs : List V} {g1 g2 : List Int} (h1 : OwnD bl d v g1) (h2 : OwnL bl ds vs g2) (hd : ∀ g, g ∈ g1 → g ∉ g2) : OwnL bl (d :: ds) (v :: vs) (g1 ++ g2) := by
  rw [OwnL]; exact ⟨v, vs, g1, g2, rfl, rfl, hd, h1, h2⟩
theorem own_nil {bl : Int → Option Blk} : OwnL bl [] [] [] := by rw [OwnL]; exact ⟨rfl, rfl⟩
theorem own_int {bl : Int → Option Blk} (n : Int) : OwnD bl (.c (.int .i64 n)) (.int .i64 n) [] := by rw [OwnD]; exact ⟨rfl, rfl, rfl⟩
theorem own_bool {bl : Int → Option Blk} (b : Bool) : OwnD bl (.c (.bool b)) (.bool b) [] := by rw [OwnD]; exact ⟨rfl, rfl, rfl⟩

end Go.Proofs.Ytmbcofnnibpbeaa.Vm

namespace Go.Proofs.Ytmbcofnnibpbeaa.Vm
open Go Go.Proofs
set_option linter.unusedSimpArgs false
set_option linter.unusedVariables false

/-- Rows written over from the beginning. -/
def over (ys xs : List (List V)) (i : Nat) : List (List V) := ys.take i ++ xs.drop i
@[simp] theorem over_zero (ys xs : List (List V)) : over ys xs 0 = xs := by simp [over]
theorem over_length (ys xs : List (List V)) (i : Nat) (hl : ys.length = xs.length) : (over ys xs i).length = xs.length := by simp [over]; omega
theorem over_all (ys xs : List (List V)) (i : Nat) (hl : ys.length = xs.length) (hi : xs.length ≤ i) : over ys xs i = ys := by
  simp [over, List.take_of_length_le (show ys.length ≤ i by omega), List.drop_of_length_le hi]
theorem over_get (ys xs : List (List V)) (i : Nat) (hl : ys.length = xs.length) (hi : i < xs.length) : (over ys xs i)[i]? = some xs[i] := by
  unfold over
  rw [List.getElem?_append_right (by simp; omega), List.length_take, Nat.min_eq_left (by omega), Nat.sub_self, List.getElem?_drop]
  simp [hi]
theorem over_getE (ys xs : List (List V)) (i : Nat) (hl : ys.length = xs.length) (hi : i < xs.length) : (over ys xs i)[i]'(by rw [over_length ys xs i hl]; exact hi) = xs[i] := by
  have := over_get ys xs i hl hi
  rw [List.getElem?_eq_getElem (by rw [over_length ys xs i hl]; exact hi)] at this
  exact Option.some.inj this
theorem over_set (ys xs : List (List V)) (i : Nat) (hl : ys.length = xs.length) (hi : i < ys.length) (x : List V) (hx : x = ys[i]) : (over ys xs i).set i x = over ys xs (i + 1) := by
  subst hx
  apply List.ext_getElem?
  intro j
  have hz : ∀ k, k ≤ ys.length → ∀ j, (over ys xs k)[j]? = if j < k then ys[j]? else xs[j]? := by
    intro k hk j
    unfold over
    by_cases hj : j < k
    · rw [if_pos hj, List.getElem?_append_left (by simp; omega), List.getElem?_take_of_lt hj]
    · rw [if_neg hj, List.getElem?_append_right (by simp; omega), List.length_take, Nat.min_eq_left hk, List.getElem?_drop]
      congr 1; omega
  rw [List.getElem?_set, hz i (by omega), hz (i + 1) (by omega), over_length _ _ _ hl]
  by_cases hij : i = j
  · subst hij; simp [hi]; omega
  · rw [if_neg hij]
    by_cases h1 : j < i
    · simp [h1, show j < i + 1 by omega]
    · simp [h1, show ¬ j < i + 1 by omega]

def marks (k : Int) (n : Nat) : List Int := (List.range n).map fun (i : Nat) => k + i
@[simp] theorem marks_length (k : Int) (n : Nat) : (marks k n).length = n := by simp [marks]
@[simp] theorem marks_getE (k : Int) (n i : Nat) (h : i < (marks k n).length) : (marks k n)[i] = k + i := by simp [marks]
theorem marks_at (k : Int) (n i : Nat) (h : i < n) : (iv (marks k n))[i]'(by simpa using h) = [.int .i64 (k + i)] := by simp [marks]

end Go.Proofs.Ytmbcofnnibpbeaa.Vm

namespace Go.Proofs.Ytmbcofnnibpbeaa.Vm
open Go Go.Proofs
set_option linter.unusedSimpArgs false
set_option linter.unusedVariables false

/-! ### Copies that are the call's own -/

theorem jv_clen (ns : List J) : ∀ r, r ∈ jv ns → r.length = 4 := by
  intro r hr
  obtain ⟨n, _, rfl⟩ := List.mem_map.1 hr
  rfl
theorem mv_clen (ns : List Mb) : ∀ r, r ∈ mv ns → r.length = 3 := by
  intro r hr
  obtain ⟨n, _, rfl⟩ := List.mem_map.1 hr
  rfl
theorem jv_ow (ns : List J) : (jv ns).all (fun r => r.all V.ow) = true := by simp [jv, J.c, V.ow]
theorem mv_ow (ns : List Mb) : (mv ns).all (fun r => r.all V.ow) = true := by simp [mv, Mb.c, V.ow]
theorem own_jv {bl : Int → Option Blk} {ns : List J} {v : V} {gs : List Int} : OwnD bl (fl 4 (jv ns)) v gs ↔ (ns = [] ∧ v = .nils ∧ gs = []) ∨ ∃ g, v = .lsl g 4 0 ns.length ∧ gs = [g] ∧ bl g = some ⟨4, jv ns⟩ ∧ (g < 0 → ns = []) := by
  rw [own_fl (jv_cl ns) (jv_clen ns)]
  simp [jv]
theorem own_mv {bl : Int → Option Blk} {ns : List Mb} {v : V} {gs : List Int} : OwnD bl (fl 3 (mv ns)) v gs ↔ (ns = [] ∧ v = .nils ∧ gs = []) ∨ ∃ g, v = .lsl g 3 0 ns.length ∧ gs = [g] ∧ bl g = some ⟨3, mv ns⟩ ∧ (g < 0 → ns = []) := by
  rw [own_fl (mv_cl ns) (mv_clen ns)]
  simp [mv]

/-- A structure of the call's own. -/
def dStr (s : Str) : List D := [fl 4 (jv s.js), fl 3 (mv s.ms)]

/-- The names and sizes of a structure fit. -/
structure Str.sz (s : Str) : Prop where
  js : s.js.length ≤ 140737488351232
  ms : s.ms.length ≤ 140737488351232
  nm : ∀ j, j ∈ s.js → j.name.size ≤ 140737488351232
theorem frz_str {bl : Int → Option Blk} {s : Str} {vs : List V} {gs : List Int} (h : OwnL bl (dStr s) vs gs) (n : Nat) : frz bl (n + 2) (.agg vs) = some (.agg s.c) := by
  have h1 : OwnD bl (.a (dStr s)) (.agg vs) gs := by rw [OwnD]; exact ⟨vs, rfl, h⟩
  rw [h1.frz (n := n + 2) (by rw [D.dep]; refine ⟨by omega, ?_⟩; simp [dStr, D.depL, fl_dep])]
  simp [D.fz, dStr, D.fzL, Str.c]
theorem dStr_fz (s : Str) : (D.a (dStr s)).fz = .agg s.c := by simp [D.fz, dStr, D.fzL, Str.c]
theorem dStr_dep (s : Str) : (D.a (dStr s)).dep 2 := by
  rw [D.dep]; refine ⟨by omega, ?_⟩; simp [dStr, D.depL, fl_dep]
theorem dStr_sc (s : Str) : (D.a (dStr s)).sc = true := by
  simp [D.sc, dStr, D.scL, fl_sc (jv_ow _), fl_sc (mv_ow _)]
theorem own_agg {bl : Int → Option Blk} {s : Str} {v : V} {gs : List Int} (h : OwnD bl (.a (dStr s)) v gs) : ∃ v1 v2, v = .agg [v1, v2] ∧ OwnL bl (dStr s) [v1, v2] gs ∧ v1.one = true ∧ v1.cells = [v1] ∧ v2.one = true ∧ v2.cells = [v2] := by
  rw [OwnD] at h
  obtain ⟨vs, rfl, o⟩ := h
  obtain ⟨v1, v2, ga, gb, rfl, rfl, hd, o1, o2⟩ := own_pair.1 o
  exact ⟨v1, v2, rfl, o, o1.one.1, o1.one.2, o2.one.1, o2.one.2⟩

end Go.Proofs.Ytmbcofnnibpbeaa.Vm

namespace Go.Proofs.Ytmbcofnnibpbeaa.Vm
open Go Go.Proofs
set_option linter.unusedSimpArgs false
set_option linter.unusedVariables false

/-! ### Texts of marks -/
def digs (k : Nat) (out : ByteArray) : ByteArray := if h : k = 0 then out else digs (k / 10) (toBytes [IntKind.u8.wrap (IntKind.i64.wrap (48 + (k : Int).tmod 10))] ++ out)
termination_by k
decreasing_by omega
def mtext (k : Nat) : ByteArray := if k = 0 then { data := #[109, 48] } else ({ data := #[109] } : ByteArray) ++ digs k { data := #[] }
theorem digs_step {k : Nat} (h : k ≠ 0) (out : ByteArray) : digs k out = digs (k / 10) (toBytes [IntKind.u8.wrap (IntKind.i64.wrap (48 + (k : Int).tmod 10))] ++ out) := by
  rw [digs, dif_neg h]
theorem digs_zero (out : ByteArray) : digs 0 out = out := by rw [digs, dif_pos rfl]

/-! ### Joints and members -/
def mkJ (k n : Nat) : List J := (List.range n).map fun i => ⟨mtext (k + 4 * i), (k + 4 * i + 1 : Nat), (k + 4 * i + 2 : Nat), ((k + 4 * i + 3 : Nat) : Int).tmod 3 == 0⟩
@[simp] theorem mkJ_length (k n : Nat) : (mkJ k n).length = n := by simp [mkJ]
@[simp] theorem mkJ_getE (k n i : Nat) (h : i < (mkJ k n).length) : (mkJ k n)[i] = ⟨mtext (k + 4 * i), (k + 4 * i + 1 : Nat), (k + 4 * i + 2 : Nat), ((k + 4 * i + 3 : Nat) : Int).tmod 3 == 0⟩ := by simp [mkJ]
def mkM (k n : Nat) : List Mb := (List.range n).map fun i => ⟨(k + 3 * i : Nat), (k + 3 * i + 1 : Nat), (k + 3 * i + 2 : Nat)⟩
@[simp] theorem mkM_length (k n : Nat) : (mkM k n).length = n := by simp [mkM]
@[simp] theorem mkM_getE (k n i : Nat) (h : i < (mkM k n).length) : (mkM k n)[i] = ⟨(k + 3 * i : Nat), (k + 3 * i + 1 : Nat), (k + 3 * i + 2 : Nat)⟩ := by simp [mkM]

theorem upd_self {α β : Type} [DecidableEq α] (f : α → β) (a : α) (b : β) (h : f a = b) : upd f a b = f := by
  funext x
  simp only [upd_apply]
  split
  · rename_i hx; subst hx; exact h.symm
  · rfl

/-- The marks of a structure from k on. -/
def mkS (k : Nat) (s : Str) : Str := ⟨mkJ k s.js.length, mkM (k + 4 * s.js.length) s.ms.length⟩
def mkN (k : Nat) (s : Str) : Nat := k + 4 * s.js.length + 3 * s.ms.length

end Go.Proofs.Ytmbcofnnibpbeaa.Vm

namespace Go.Proofs.Ytmbcofnnibpbeaa.Vm
open Go Go.Proofs
set_option linter.unusedSimpArgs false
set_option linter.unusedVariables false

end Go.Proofs.Ytmbcofnnibpbeaa.Vm

namespace Go.Proofs.Ytmbcofnnibpbeaa.Vm
open Go Go.Proofs
set_option linter.unusedSimpArgs false
set_option linter.unusedVariables false


def noLoad (s : Str) : List Int := if sOk s = true then List.replicate (2 * s.js.length) 0 else []

theorem impl_NoLoad_nw (s : Str) (h : s.sz) : NW Try.prog 8 [.agg s.c] (fl 1 (iv (noLoad s))) := by
  have hj := h.js
  refine nw_of Try.func8 rfl rfl (by rw [Try.ntmps8]; simp) fun bl => ?_
  rw [Try.ntmps8, Try.results8]
  refine AW_run ?_
  simp [Str.c]
  intro g hg0 hg
  refine callP_ro (impl_StructureOk_ro s h.js h.ms h.nm) ?_
  simp
  refine ⟨fun h => ?_, fun h => ?_⟩
  · refine retNW [.nils] [] rfl ?_ (by simp) (by simp [hg])
    exact own_iv.2 (.inl ⟨by simp [noLoad, h], rfl, rfl⟩)
  · have h6 := (sOk_of h).nj
    simp (disch := omega) [i64_in]
    refine ⟨2 * s.js.length, by simp, by simp, by omega, by unfold maxLen; omega, fun g1 hg1 hb1 => ?_⟩
    simp at hb1
    obtain ⟨h1g, hb1⟩ := hb1
    simp
    refine retNW [.lsl g1 1 0 (2 * s.js.length)] [g1] (by simp) ?_ (by simpa using hb1) (by simp [hg, hb1])
    refine own_iv.2 (.inr ⟨g1, by simp [noLoad, h], rfl, ?_, by omega⟩)
    simp [noLoad, h, iv]

theorem impl_NoLoad_ro (s : Str) (h : s.sz) : RO Try.prog 8 [.agg s.c] (.sl (iv (noLoad s))) := by
  have := ro_of_nw 1 (impl_NoLoad_nw s h) (fl_dep _ _ 0)
  simpa using this


theorem noLoad_le (s : Str) : (noLoad s).length ≤ 12 := by
  unfold noLoad
  split
  · rename_i h; have := (sOk_of h).nj; simp; omega
  · simp

end Go.Proofs.Ytmbcofnnibpbeaa.Vm

namespace Go.Proofs.Ytmbcofnnibpbeaa.Vm
open Go Go.Proofs
set_option linter.unusedSimpArgs false
set_option linter.unusedVariables false

def freeL (s : Str) : List Int := if sOk s = true then frees s.js else []
theorem freeL_le (s : Str) : (freeL s).length ≤ 12 := by
  unfold freeL
  split
  · rename_i h; have := (sOk_of h).nj; have := freesTo_le s.js s.js.length; unfold frees; omega
  · simp

def degOf (s : Str) : Int := if sOk s = true then s.ms.length - 2 * (frees s.js).length else 0

end Go.Proofs.Ytmbcofnnibpbeaa.Vm

namespace Go.Proofs.Ytmbcofnnibpbeaa.Vm
open Go Go.Proofs
set_option linter.unusedSimpArgs false
set_option linter.unusedVariables false

theorem vecX_le (s : Str) (k : Int) : -100 ≤ vecX s k ∧ vecX s k ≤ 100 := by
  unfold vecX
  split
  · rename_i h
    simp at h
    have hs := sOk_of h.2
    obtain ⟨⟨a1, a2⟩, ⟨b1, b2⟩⟩ := hs.ix _ (mat_mem h.1.1 h.1.2)
    have ca := hs.at a1 a2
    have cb := hs.at b1 b2
    unfold vx
    omega
  · omega
theorem vecY_le (s : Str) (k : Int) : -100 ≤ vecY s k ∧ vecY s k ≤ 100 := by
  unfold vecY
  split
  · rename_i h
    simp at h
    have hs := sOk_of h.2
    obtain ⟨⟨a1, a2⟩, ⟨b1, b2⟩⟩ := hs.ix _ (mat_mem h.1.1 h.1.2)
    have ca := hs.at a1 a2
    have cb := hs.at b1 b2
    unfold vy
    omega
  · omega
def sqOf (s : Str) (k : Int) : Int := IntKind.i64.wrap (IntKind.i64.wrap (vecX s k * vecX s k) + IntKind.i64.wrap (vecY s k * vecY s k))
end Go.Proofs.Ytmbcofnnibpbeaa.Vm

namespace Go.Proofs.Ytmbcofnnibpbeaa.Vm
open Go Go.Proofs
set_option linter.unusedSimpArgs false
set_option linter.unusedVariables false

/-- A number of a load. -/
def lat (l : List Int) (i : Nat) : Int := l.getD i 0
theorem iv_at {l : List Int} {i : Nat} (h : i < l.length) : (iv l)[i]? = some [.int .i64 (lat l i)] := by simp [lat, h]
structure LOk (s : Str) (l : List Int) : Prop where
  sok : SOk s
  n : l.length = 2 * s.js.length
  f : ∀ i, i < l.length → -100 ≤ lat l i ∧ lat l i ≤ 100
theorem fitsL_of {js : List J} {l : List Int} (h : fitsL js l = true) : l.length = 2 * js.length ∧ ∀ i, i < l.length → -100 ≤ lat l i ∧ lat l i ≤ 100 := by
  unfold fitsL at h
  simp only [Bool.and_eq_true, decide_eq_true_eq] at h
  refine ⟨h.1, fun i hi => ?_⟩
  have := List.all_eq_true.1 h.2 l[i] (List.getElem_mem hi)
  simp [forceOk] at this
  simpa [lat, hi] using this
theorem lOk_of {s : Str} {l : List Int} (h : lOk s l = true) : LOk s l := by
  unfold lOk at h
  simp only [Bool.and_eq_true] at h
  obtain ⟨h1, h2⟩ := fitsL_of h.2
  exact ⟨sOk_of h.1, h1, h2⟩

def sumX (l : List Int) : Nat → Int
  | 0 => 0
  | n + 1 => sumX l n + lat l (2 * n)
def sumY (l : List Int) : Nat → Int
  | 0 => 0
  | n + 1 => sumY l n + lat l (2 * n + 1)
theorem sumX_le {s : Str} {l : List Int} (h : LOk s l) : ∀ n, n ≤ s.js.length → -(100 * n : Int) ≤ sumX l n ∧ sumX l n ≤ 100 * n
  | 0, _ => by simp [sumX]
  | n + 1, hn => by
    have := sumX_le h n (by omega)
    have := h.f (2 * n) (by have := h.n; omega)
    simp only [sumX]; omega
theorem sumY_le {s : Str} {l : List Int} (h : LOk s l) : ∀ n, n ≤ s.js.length → -(100 * n : Int) ≤ sumY l n ∧ sumY l n ≤ 100 * n
  | 0, _ => by simp [sumY]
  | n + 1, hn => by
    have := sumY_le h n (by omega)
    have := h.f (2 * n + 1) (by have := h.n; omega)
    simp only [sumY]; omega
def totX (s : Str) (l : List Int) : Int := if lOk s l = true then sumX l s.js.length else 0
def totY (s : Str) (l : List Int) : Int := if lOk s l = true then sumY l s.js.length else 0

theorem impl_TotalOf_ro (s : Str) (l : List Int) (hs : s.sz) (hl : l.length ≤ 140737488351232) : RO Try.prog 9 [.agg s.c, .sl (iv l)] (.tup [.int .i64 (totX s l), .int .i64 (totY s l)]) := by
  refine ro_of2 Try.func9 rfl rfl (by rw [Try.ntmps9]; simp) fun bl => ?_
  rw [Try.ntmps9, Try.results9]
  refine AW_run ?_
  simp [Str.c]
  intro g hg0 hg
  refine callP_ro (impl_LoadOk_ro s l hs.js hs.ms hs.nm hl) ?_
  simp
  refine ⟨fun h => ?_, fun h => ?_⟩
  · exact retRO [_, _] 1 rfl (by simp [frz, V.cl, totX, totY, h]) (by simp [hg])
  have h0 := lOk_of h
  have h6 := h0.sok.nj
  have hn := h0.n
  refine AW_for (fun i : Nat => [(1, .sl (iv l)), (6, .int .i64 (sumX l i)), (7, .int .i64 (sumY l i)), (14, .sl (jv s.js)), (15, .int .i64 s.js.length), (16, .int .i64 i)]) (fun _ => bl) (fun i => i ≤ s.js.length) (fun i => s.js.length - i) _ 0 (Nat.zero_le _) ⟨rfl, by simp [sumX, sumY], by simp [hg]⟩ ?_
  intro i hi
  have bx := sumX_le h0 i hi
  have by' := sumY_le h0 i hi
  refine AW_run ?_
  simp
  refine ⟨fun h1 => ?_, fun h1 => ?_⟩
  · have f1 := h0.f (2 * i) (by omega)
    have f2 := h0.f (2 * i + 1) (by omega)
    have e1 : (2 * (i : Int)).toNat = 2 * i := by omega
    have e2 : (2 * (i : Int) + 1).toNat = 2 * i + 1 := by omega
    have e3 : (0 : Int) ≤ 2 * (i : Int) := by omega
    have e4 : (0 : Int) ≤ 2 * (i : Int) + 1 := by omega
    simp (disch := omega) [-iv_get, h1, i64_in, e1, e2, e3, e4, iv_at]
    simp only [loopQ_normal]
    exact ⟨i + 1, by omega, by omega, rfl, by simp [sumX, sumY], by simp⟩
  · have : i = s.js.length := by omega
    subst this
    exact retRO [_, _] 1 rfl (by simp [frz, V.cl, totX, totY, h]) (Sub.refl _)

def momTo (s : Str) (l : List Int) (x y : Int) : Nat → Int
  | 0 => 0
  | n + 1 => momTo s l x y n + ((jat s.js n).x - x) * lat l (2 * n + 1) - ((jat s.js n).y - y) * lat l (2 * n)
theorem mul_le {a b p q : Int} (ha : -p ≤ a ∧ a ≤ p) (hb : -q ≤ b ∧ b ≤ q) : -(p * q) ≤ a * b ∧ a * b ≤ p * q := by
  have hp : 0 ≤ p := by omega
  have hq : 0 ≤ q := by omega
  have h1 : a.natAbs ≤ p.natAbs := by omega
  have h2 : b.natAbs ≤ q.natAbs := by omega
  have h3 : (a * b).natAbs ≤ (p * q).natAbs := by rw [Int.natAbs_mul, Int.natAbs_mul]; exact Nat.mul_le_mul h1 h2
  have h4 : 0 ≤ p * q := Int.mul_nonneg hp hq
  omega
theorem mom_step {s : Str} {l : List Int} {x y : Int} (h : LOk s l) (hx : -1000 ≤ x ∧ x ≤ 1000) (hy : -1000 ≤ y ∧ y ≤ 1000) {n : Nat} (hn : n < s.js.length) :
    (-1050 ≤ (jat s.js n).x - x ∧ (jat s.js n).x - x ≤ 1050) ∧ (-1050 ≤ (jat s.js n).y - y ∧ (jat s.js n).y - y ≤ 1050) ∧
    (-105000 ≤ ((jat s.js n).x - x) * lat l (2 * n + 1) ∧ ((jat s.js n).x - x) * lat l (2 * n + 1) ≤ 105000) ∧ (-105000 ≤ ((jat s.js n).y - y) * lat l (2 * n) ∧ ((jat s.js n).y - y) * lat l (2 * n) ≤ 105000) := by
  have c := h.sok.at (n := n) (by omega) (by omega)
  have f1 := h.f (2 * n) (by have := h.n; omega)
  have f2 := h.f (2 * n + 1) (by have := h.n; omega)
  have a1 : -1050 ≤ (jat s.js n).x - x ∧ (jat s.js n).x - x ≤ 1050 := by omega
  have a2 : -1050 ≤ (jat s.js n).y - y ∧ (jat s.js n).y - y ≤ 1050 := by omega
  have m1 := mul_le a1 f2
  have m2 := mul_le a2 f1
  refine ⟨a1, a2, ?_, ?_⟩ <;> omega
theorem mom_le {s : Str} {l : List Int} {x y : Int} (h : LOk s l) (hx : -1000 ≤ x ∧ x ≤ 1000) (hy : -1000 ≤ y ∧ y ≤ 1000) : ∀ n, n ≤ s.js.length → -(210000 * n : Int) ≤ momTo s l x y n ∧ momTo s l x y n ≤ 210000 * n
  | 0, _ => by simp [momTo]
  | n + 1, hn => by
    have := mom_le h hx hy n (by omega)
    have := mom_step h hx hy (n := n) (by omega)
    simp only [momTo]; omega
def momOk (s : Str) (l : List Int) (x y : Int) : Bool := lOk s l && (decide (-1000 ≤ x) && decide (x ≤ 1000)) && (decide (-1000 ≤ y) && decide (y ≤ 1000))
def momOf (s : Str) (l : List Int) (x y : Int) : Int := if momOk s l x y = true then momTo s l x y s.js.length else 0
theorem jat_nat {js : List J} {i : Nat} (h : i < js.length) : jat js i = js[i] := by simp [jat, h]

theorem impl_MomentOf_ro (s : Str) (l : List Int) (x y : Int) (hs : s.sz) (hl : l.length ≤ 140737488351232) : RO Try.prog 11 [.agg s.c, .sl (iv l), .int .i64 x, .int .i64 y] (.int .i64 (momOf s l x y)) := by
  refine ro_of2 Try.func11 rfl rfl (by rw [Try.ntmps11]; simp) fun bl => ?_
  rw [Try.ntmps11, Try.results11]
  refine AW_run ?_
  simp [Str.c]
  intro g hg0 hg
  refine AW_way0 [(1, .sl (iv l)), (2, .int .i64 x), (3, .int .i64 y), (4, .loc g 2 0 0)] _ _ 31 (.bool (!momOk s l x y)) ⟨rfl, by simp, Sub.refl _⟩ rfl ?_ ?_
  · simp
    refine callP_ro (impl_LoadOk_ro s l hs.js hs.ms hs.nm hl) ?_
    simp [momOk]
    refine ⟨fun h => by simp [h], fun h => ?_⟩
    simp [h]
    grind
  simp
  refine ⟨fun h => ?_, fun h => ?_⟩
  · exact retRO [_] 0 rfl (by simp [frz, momOf, h]) (by simp [hg])
  have hh := h
  unfold momOk at hh
  simp only [Bool.and_eq_true, decide_eq_true_eq] at hh
  obtain ⟨⟨hlo, hx⟩, hy⟩ := hh
  have h0 := lOk_of hlo
  have h6 := h0.sok.nj
  have hn := h0.n
  refine AW_for (fun i : Nat => [(1, .sl (iv l)), (2, .int .i64 x), (3, .int .i64 y), (9, .int .i64 (momTo s l x y i)), (33, .sl (jv s.js)), (34, .int .i64 s.js.length), (35, .int .i64 i)]) (fun _ => bl) (fun i => i ≤ s.js.length) (fun i => s.js.length - i) _ 0 (Nat.zero_le _) ⟨rfl, by simp [momTo], by simp [hg]⟩ ?_
  intro i hi
  have bm := mom_le h0 hx hy i hi
  refine AW_run ?_
  simp
  refine ⟨fun h1 => ?_, fun h1 => ?_⟩
  · have st := mom_step h0 hx hy h1
    rw [jat_nat h1] at st
    have e1 : (2 * (i : Int)).toNat = 2 * i := by omega
    have e2 : (2 * (i : Int) + 1).toNat = 2 * i + 1 := by omega
    have e3 : (0 : Int) ≤ 2 * (i : Int) := by omega
    have e4 : (0 : Int) ≤ 2 * (i : Int) + 1 := by omega
    simp [h1, J.c]
    intro g1 hg1 hb1
    refine AW_quiet mixedO (by kernel_rfl) ?_
    have w1 : IntKind.i64.wrap (2 * (i : Int)) = 2 * i := i64_in (by omega) (by omega)
    have w2 : IntKind.i64.wrap (2 * (i : Int) + 1) = 2 * i + 1 := i64_in (by omega) (by omega)
    have q1 := iv_at (l := l) (i := 2 * i) (by omega)
    have q2 := iv_at (l := l) (i := 2 * i + 1) (by omega)
    simp [-iv_get, h1, w1, w2, q1, q2, e1, e2, e3, e4]
    simp (disch := omega) [i64_in]
    simp only [loopQ_normal]
    refine ⟨i + 1, by omega, by omega, rfl, ?_, by simp [hb1]⟩
    simp [momTo, jat_nat h1]
    omega
  · have : i = s.js.length := by omega
    subst this
    exact retRO [_] 0 rfl (by simp [frz, momOf, h]) (Sub.refl _)

end Go.Proofs.Ytmbcofnnibpbeaa.Vm

namespace Go.Proofs.Ytmbcofnnibpbeaa.Vm
open Go Go.Proofs
set_option linter.unusedSimpArgs false
set_option linter.unusedVariables false

/-! ### Clones -/
theorem Clone_ints_nw (a : List Int) (ha : a.length ≤ 1048576) : NW Try.prog 20 [.sl (iv a)] (fl 1 (iv a)) := by
  cases a with
  | nil =>
    intro bl
    refine callP_nilsplit ?_ ?_
    · refine callP_made ?_
      refine callP_of Try.func20 rfl rfl (by rw [Try.ntmps20]; simp) ?_
      rw [Try.ntmps20, Try.results20]
      refine AW_run ?_
      simp
      exact retNW [.nils] [] rfl (own_iv.2 (.inl ⟨rfl, rfl, rfl⟩)) (by simp) (Sub.refl _)
    · refine callP_made ?_
      refine callP_of Try.func20 rfl rfl (by rw [Try.ntmps20]; simp) ?_
      rw [Try.ntmps20, Try.results20]
      refine AW_run ?_
      simp
      intro g hg0 hg
      simp [appV, elsV]
      intro g' hb'
      refine retNW [.lsl g' 1 0 0] [g'] (by simp) (own_iv.2 (.inr ⟨g', rfl, rfl, by simp [iv], fun _ => rfl⟩)) ?_ ?_
      · simp; grind
      · have : bl g' = none := by grind
        simp [hg, this]
  | cons x a =>
    simp only [List.length_cons] at ha
    refine nw_of Try.func20 rfl rfl (by rw [Try.ntmps20]; simp) fun bl => ?_
    rw [Try.ntmps20, Try.results20]
    refine AW_run ?_
    simp [iv]
    intro g hg0 hg
    simp [appV, elsV]
    refine ⟨by omega, fun g' hg' hb' => ?_⟩
    have hbn : bl g' = none := by grind
    refine retNW [.lsl g' 1 0 (a.length + 1)] [g'] (by simp) ?_ (by simpa using hbn) (by simp [hg, hbn])
    exact (own_iv (ns := x :: a)).2 (.inr ⟨g', by simp, rfl, by simp [iv], by omega⟩)
theorem Clone_ints_ro (a : List Int) (ha : a.length ≤ 1048576) : RO Try.prog 20 [.sl (iv a)] (.sl (iv a)) := by
  have := ro_of_nw 1 (Clone_ints_nw a ha) (fl_dep _ _ 0)
  simpa using this

end Go.Proofs.Ytmbcofnnibpbeaa.Vm

namespace Go.Proofs.Ytmbcofnnibpbeaa.Vm
open Go Go.Proofs
set_option linter.unusedSimpArgs false
set_option linter.unusedVariables false

theorem any_eq (l : List Int) (k : Int) : (l.any fun x => decide (k = x)) = decide (k ∈ l) := by
  rw [Bool.eq_iff_iff]; simp

end Go.Proofs.Ytmbcofnnibpbeaa.Vm

namespace Go.Proofs.Ytmbcofnnibpbeaa.Vm
open Go Go.Proofs
set_option linter.unusedSimpArgs false
set_option linter.unusedVariables false

/-- The members before n whose numbers are not in a list. -/
def keptTo (ms : List Mb) (l : List Int) (n : Nat) : List Mb := ((List.range n).filter fun (i : Nat) => !decide ((i : Int) ∈ l)).map fun (i : Nat) => ms.getD i default
theorem keptTo_succ (ms : List Mb) (l : List Int) (n : Nat) : keptTo ms l (n + 1) = keptTo ms l n ++ if (n : Int) ∈ l then [] else [ms.getD n default] := by
  unfold keptTo
  rw [List.range_succ, List.filter_append, List.map_append]
  congr 1
  by_cases h : (n : Int) ∈ l <;> simp only [List.filter_cons, List.filter_nil, h] <;> simp
theorem keptTo_le (ms : List Mb) (l : List Int) (n : Nat) : (keptTo ms l n).length ≤ n := by
  unfold keptTo
  rw [List.length_map]
  exact Nat.le_trans (List.length_filter_le _ _) (by simp)
theorem mv_append (a b : List Mb) : mv (a ++ b) = mv a ++ mv b := by simp [mv]
theorem mv_takeall (ns : List Mb) : (mv ns).take ns.length = mv ns := by rw [← mv_length ns, List.take_length]
def without (s : Str) (l : List Int) : Str := ⟨s.js, keptTo s.ms l s.ms.length⟩

end Go.Proofs.Ytmbcofnnibpbeaa.Vm

namespace Go.Proofs.Ytmbcofnnibpbeaa.Vm
open Go Go.Proofs
set_option linter.unusedSimpArgs false
set_option linter.unusedVariables false

end Go.Proofs.Ytmbcofnnibpbeaa.Vm

namespace Go.Proofs.Ytmbcofnnibpbeaa.Vm
open Go Go.Proofs
set_option linter.unusedSimpArgs false
set_option linter.unusedVariables false





/-! ### Lists of lists of numbers -/
def ivv (ws : List (List Int)) : List (List V) := ws.map fun w => [.sl (iv w)]
def dII (ws : List (List Int)) : D := .s 1 (ws.map fun w => [fl 1 (iv w)])
@[simp] theorem ivv_length (ws : List (List Int)) : (ivv ws).length = ws.length := by simp [ivv]
@[simp] theorem ivv_getE (ws : List (List Int)) (i : Nat) (h : i < (ivv ws).length) : (ivv ws)[i] = [.sl (iv (ws[i]'(by simpa using h)))] := by simp [ivv]
theorem dII_fz (ws : List (List Int)) : (dII ws).fz = .sl (ivv ws) := by
  unfold dII ivv
  rw [D.fz, fzR_map, List.map_map]
  congr 1
  exact List.map_congr_left fun w _ => by simp
theorem dII_dep (ws : List (List Int)) : (dII ws).dep 2 := by
  unfold dII
  rw [D.dep]
  refine ⟨by omega, ?_⟩
  induction ws with
  | nil => simp [D.depR]
  | cons w ws ih => simp [D.depR, D.depL, fl_dep] at ih ⊢; exact ih
theorem frz_ivv {bl : Int → Option Blk} {ws : List (List Int)} {v : V} {gs : List Int} (h : OwnD bl (dII ws) v gs) (n : Nat) : frz bl (n + 2) v = some (.sl (ivv ws)) := by
  have hd : (dII ws).dep (n + 2) := by
    unfold dII
    rw [D.dep]
    refine ⟨by omega, ?_⟩
    clear h
    induction ws with
    | nil => simp [D.depR]
    | cons w ws ih => simp [D.depR, D.depL, fl_dep] at ih ⊢; exact ih
  rw [h.frz hd, dII_fz]


end Go.Proofs.Ytmbcofnnibpbeaa.Vm

namespace Go.Proofs.Ytmbcofnnibpbeaa.Vm
open Go Go.Proofs
set_option linter.unusedSimpArgs false
set_option linter.unusedVariables false

def rowX (s : Str) (j : Int) : List Int := s.ms.map (eqX s j)
def rowY (s : Str) (j : Int) : List Int := s.ms.map (eqY s j)
def eqRows (s : Str) : List (List Int) := (frees s.js).flatMap fun j => [rowX s j, rowY s j]
def eqTo (s : Str) (n : Nat) : List (List Int) := ((frees s.js).take n).flatMap fun j => [rowX s j, rowY s j]
theorem eqTo_succ (s : Str) (n : Nat) (h : n < (frees s.js).length) : eqTo s (n + 1) = eqTo s n ++ [rowX s (frees s.js)[n], rowY s (frees s.js)[n]] := by
  unfold eqTo
  rw [List.take_add_one, List.getElem?_eq_getElem h, List.flatMap_append]
  simp
theorem eqTo_length (s : Str) : ∀ n, n ≤ (frees s.js).length → (eqTo s n).length = 2 * n
  | 0, _ => by simp [eqTo]
  | n + 1, h => by
    rw [eqTo_succ s n (by omega), List.length_append, eqTo_length s n (by omega)]
    simp; omega
@[simp] theorem rowX_length (s : Str) (j : Int) : (rowX s j).length = s.ms.length := by simp [rowX]
@[simp] theorem rowY_length (s : Str) (j : Int) : (rowY s j).length = s.ms.length := by simp [rowY]
theorem mat_nat {s : Str} {k : Nat} (h : k < s.ms.length) : mat s k = s.ms[k] := by simp [mat, h]
theorem v_le {s : Str} (hs : SOk s) {m : Mb} (hm : m ∈ s.ms) : (-100 ≤ vx s m ∧ vx s m ≤ 100) ∧ (-100 ≤ vy s m ∧ vy s m ≤ 100) := by
  obtain ⟨⟨a1, a2⟩, ⟨b1, b2⟩⟩ := hs.ix _ hm
  have ca := hs.at a1 a2
  have cb := hs.at b1 b2
  unfold vx vy
  omega

structure GrowG where
  i : Nat
  g : Int
  els : List (List V)
  gs : List Int
  b : Int → Option Blk

theorem part_next (xs : List (List V)) (z : List V) (i : Nat) (h : i < xs.length) (hz : xs[i] = z) : part xs z i = part xs z (i + 1) := by
  rw [← part_set xs z i h z hz.symm]
  have := part_get xs z i h
  apply List.ext_getElem?
  intro j
  rw [List.getElem?_set]
  split
  · rename_i e; subst e; rw [if_pos (by rw [part_length]; exact h)]; exact this
  · rfl

def eqInv (bl : Int → Option Blk) (s : Str) (p : GrowG) : Prop :=
  p.i ≤ (frees s.js).length ∧ p.b p.g = some ⟨1, p.els⟩ ∧ p.els.length = 2 * p.i ∧ OwnR p.b 1 ((eqTo s p.i).map fun w => [fl 1 (iv w)]) p.els p.gs ∧ p.g ∉ p.gs ∧ bl p.g = none ∧ (∀ x, x ∈ p.gs → bl x = none) ∧ Sub bl p.b ∧ (p.g < 0 → p.els = [])

theorem eqInv_next {bl : Int → Option Blk} {s : Str} {i : Nat} {g : Int} {els : List (List V)} {gs : List Int} {b : Int → Option Blk} (H : eqInv bl s ⟨i, g, els, gs, b⟩) (h : i < (frees s.js).length)
    {ga gb gp gn : Int} (hga : 0 ≤ ga) (hba : b ga = none) (hgb : 0 ≤ gb) (hab : ¬gb = ga) (hbb : b gb = none) (hpa : ¬gp = ga) (hpb : ¬gp = gb) (hbp : b gp = none) (hgn : 0 ≤ gn)
    (hbn : ¬gn = g → ¬gn = gp ∧ ¬gn = gb ∧ ¬gn = ga ∧ b gn = none) :
    eqInv bl s ⟨i + 1, gn, els ++ [[.lsl ga 1 0 s.ms.length]] ++ [[.lsl gb 1 0 s.ms.length]], gs ++ [ga] ++ [gb],
      upd (rem (upd (upd (upd b ga (some ⟨1, iv (rowX s (frees s.js)[i])⟩)) gb (some ⟨1, iv (rowY s (frees s.js)[i])⟩)) gp (some ⟨1, [[.lsl ga 1 0 s.ms.length], [.lsl gb 1 0 s.ms.length]]⟩)) g) gn
        (some ⟨1, els.take (2 * i) ++ [[.lsl ga 1 0 s.ms.length], [.lsl gb 1 0 s.ms.length]]⟩)⟩ := by
  obtain ⟨hi, hb, hel, ho, hn, hg, hf, hsb, hneg⟩ := H
  simp only at hi hb hel ho hn hg hf hsb hneg
  have nga : ga ≠ g := fun e => by rw [e, hb] at hba; cases hba
  have ngb : gb ≠ g := fun e => by rw [e, hb] at hbb; cases hbb
  have ngp : gp ≠ g := fun e => by rw [e, hb] at hbp; cases hbp
  have fa := fresh_of hsb hba
  have fb := fresh_of hsb hbb
  have fp := fresh_of hsb hbp
  have na : gn ≠ ga := fun e => by
    by_cases c : gn = g
    · exact nga (e.symm.trans c)
    · exact (hbn c).2.2.1 e
  have nb : gn ≠ gb := fun e => by
    by_cases c : gn = g
    · exact ngb (e.symm.trans c)
    · exact (hbn c).2.1 e
  have fn : bl gn = none := by
    by_cases c : gn = g
    · rw [c]; exact hg
    · exact fresh_of hsb (hbn c).2.2.2
  have nn : gn ∉ gs := by
    by_cases c : gn = g
    · rw [c]; exact hn
    · exact ho.not (hbn c).2.2.2
  have key : ∀ (B : Int → Option Blk) (u v w z : Option Blk), B = upd (rem (upd (upd (upd b ga u) gb v) gp w) g) gn z → ∀ x y, x ≠ g → x ≠ gn → b x = some y → B x = some y := by
    intro B u v w z hB x y c1 c2 hx
    have c3 : x ≠ ga := fun e => by rw [e, hba] at hx; cases hx
    have c4 : x ≠ gb := fun e => by rw [e, hbb] at hx; cases hx
    have c5 : x ≠ gp := fun e => by rw [e, hbp] at hx; cases hx
    rw [hB]; simp [c1, c2, c3, c4, c5, hx]
  have vx1 : ∀ xs : List Int, (iv xs).all (fun r => r.all V.cl) = true := fun xs => by simp [iv, V.cl]
  have vx2 : ∀ (xs : List Int) r, r ∈ iv xs → r.length = 1 := fun xs r hr => by
    simp [iv] at hr
    obtain ⟨_, _, rfl⟩ := hr; rfl
  have et : els.take (2 * i) = els := List.take_of_length_le (by omega)
  refine ⟨by simp only; omega, by simp [et], by simp [hel]; omega, ?_, ?_, fn, ?_, ?_, fun e => by simp only at e; omega⟩
  · simp only
    rw [eqTo_succ s i h, List.map_append, show (∀ (A : List (List D)) (x y : List Int), A ++ [x, y].map (fun w => [fl 1 (iv w)]) = A ++ [[fl 1 (iv x)]] ++ [[fl 1 (iv y)]]) from fun A x y => by simp]
    generalize hB : upd (rem (upd (upd (upd b ga (some ⟨1, iv (rowX s (frees s.js)[i])⟩)) gb (some ⟨1, iv (rowY s (frees s.js)[i])⟩)) gp (some ⟨1, [[.lsl ga 1 0 s.ms.length], [.lsl gb 1 0 s.ms.length]]⟩)) g) gn
        (some ⟨1, els.take (2 * i) ++ [[.lsl ga 1 0 s.ms.length], [.lsl gb 1 0 s.ms.length]]⟩) = B
    have o0 := ho.keep fun x hx y hy => key _ _ _ _ _ hB.symm x y (fun e => hn (e ▸ hx)) (fun e => nn (e ▸ hx)) hy
    have oa : OwnD B (fl 1 (iv (rowX s (frees s.js)[i]))) (.lsl ga 1 0 s.ms.length) [ga] := (own_fl (vx1 _) (vx2 _)).2 (.inr ⟨ga, by simp, rfl, by rw [← hB]; simp [Ne.symm na, Ne.symm hpa, Ne.symm hab, nga], by omega⟩)
    have ob : OwnD B (fl 1 (iv (rowY s (frees s.js)[i]))) (.lsl gb 1 0 s.ms.length) [gb] := (own_fl (vx1 _) (vx2 _)).2 (.inr ⟨gb, by simp, rfl, by rw [← hB]; simp [Ne.symm nb, Ne.symm hpb, ngb], by omega⟩)
    refine OwnR.snoc (own_single.2 ob) rfl (by simp) (OwnR.snoc (own_single.2 oa) rfl (by simp) o0 ?_) ?_
    · intro x hx hx2
      rw [List.mem_singleton] at hx2
      exact ho.not hba (hx2 ▸ hx)
    · intro x hx hx2
      rw [List.mem_singleton] at hx2
      subst hx2
      rcases List.mem_append.1 hx with hx | hx
      · exact ho.not hbb hx
      · rw [List.mem_singleton] at hx; exact hab hx
  · simp [nn, na, nb]
  · intro x hx
    simp at hx
    rcases hx with hx | hx | hx
    · exact hf x hx
    · rw [hx]; exact fa
    · rw [hx]; exact fb
  · intro x y hx
    exact key _ _ _ _ _ rfl x y (fun e => by rw [e, hg] at hx; cases hx) (fun e => by rw [e, fn] at hx; cases hx) (hsb x y hx)

end Go.Proofs.Ytmbcofnnibpbeaa.Vm

namespace Go.Proofs.Ytmbcofnnibpbeaa.Vm
open Go Go.Proofs
set_option linter.unusedSimpArgs false
set_option linter.unusedVariables false

def colK (m : Mb) (k : Nat) : List (Int × Int) := (if m.kind = 2 then [] else [((k : Int), 1)]) ++ (if m.kind = 1 then [] else [((k : Int), -1)])
def colsTo (ms : List Mb) (n : Nat) : List (Int × Int) := (List.range n).flatMap fun k => colK (ms.getD k default) k
def cols (ms : List Mb) : List (Int × Int) := colsTo ms ms.length
def cv (cs : List (Int × Int)) : List (List V) := cs.map fun p => [.int .i64 p.1, .int .i64 p.2]
theorem colsTo_succ (ms : List Mb) (n : Nat) : colsTo ms (n + 1) = colsTo ms n ++ colK (ms.getD n default) n := by
  unfold colsTo
  rw [List.range_succ, List.flatMap_append]; simp
theorem colK_le (m : Mb) (k : Nat) : (colK m k).length ≤ 2 := by
  unfold colK; split <;> split <;> simp
theorem colsTo_le (ms : List Mb) : ∀ n, (colsTo ms n).length ≤ 2 * n
  | 0 => by simp [colsTo]
  | n + 1 => by
    rw [colsTo_succ, List.length_append]
    have := colsTo_le ms n
    have := colK_le (ms.getD n default) n
    omega
theorem cv_append (a b : List (Int × Int)) : cv (a ++ b) = cv a ++ cv b := by simp [cv]
@[simp] theorem cv_length (a : List (Int × Int)) : (cv a).length = a.length := by simp [cv]
theorem cv_takeall (a : List (Int × Int)) : (cv a).take a.length = cv a := by rw [← cv_length a, List.take_length]
theorem cv_cl (a : List (Int × Int)) : (cv a).all (fun e => e.all V.cl) = true := by simp [cv, V.cl]
theorem cv_clen (a : List (Int × Int)) : ∀ r, r ∈ cv a → r.length = 2 := by
  intro r hr
  obtain ⟨n, _, rfl⟩ := List.mem_map.1 hr
  rfl
theorem own_cv {bl : Int → Option Blk} {ns : List (Int × Int)} {v : V} {gs : List Int} : OwnD bl (fl 2 (cv ns)) v gs ↔ (ns = [] ∧ v = .nils ∧ gs = []) ∨ ∃ g, v = .lsl g 2 0 ns.length ∧ gs = [g] ∧ bl g = some ⟨2, cv ns⟩ ∧ (g < 0 → ns = []) := by
  rw [own_fl (cv_cl ns) (cv_clen ns)]
  simp [cv]

theorem iv_two (a b : Int) : iv [a, b] = [[.int .i64 a], [.int .i64 b]] := rfl
theorem iv_one (a : Int) : iv [a] = [[.int .i64 a]] := rfl

def who (s : Str) : List Int := (cols s.ms).map (·.1)
def sgn (s : Str) : List Int := (cols s.ms).map (·.2)
def dWS (s : Str) : D := .t [fl 1 (iv (who s)), fl 1 (iv (sgn s))]
structure Two where
  i : Nat
  g : Int
  h : Int
  b : Int → Option Blk
def twoInv (bl : Int → Option Blk) (A B : Nat → List Int) (n : Nat) (p : Two) : Prop :=
  p.i ≤ n ∧ p.g ≠ p.h ∧ p.b p.g = some ⟨1, iv (A p.i)⟩ ∧ p.b p.h = some ⟨1, iv (B p.i)⟩ ∧ bl p.g = none ∧ bl p.h = none ∧ Sub bl p.b ∧ (p.g < 0 → A p.i = []) ∧ (p.h < 0 → B p.i = [])

end Go.Proofs.Ytmbcofnnibpbeaa.Vm

namespace Go.Proofs.Ytmbcofnnibpbeaa.Vm
open Go Go.RowKit
set_option linter.unusedVariables false

section
variable {P : Program} {ops : Array Oper} {w0 : World} {M F : Nat → Prop} {a : Act} {w : World}

/-- i is one of the last, or one of the last is done. -/
def late (tl : Nat → Bool) (l : Array Bool) (i : Nat) : Bool := tl i || (List.range l.size).any fun k => tl k && l.getD k false
/-- DAny, where nothing is kept once one of the last operations is done. -/
def DL (P : Program) (ops : Array Oper) (blK : Int → Option Blk) (tl : Nat → Bool) (K : St → Prop) : Nat → Array Bool → St → Prop
  | 0, l, σ => Region.ready .any ops l = [] ∧ K σ
  | fuel + 1, l, σ => (Region.ready .any ops l = [] → K σ) ∧ ∀ i ∈ Region.ready .any ops l, D1 P ops i (fun σ' => (late tl l i = false → Sub blK σ'.bl) ∧ DL P ops blK tl K fuel (l.setIfInBounds i true) σ') σ

theorem DL_sound {blK : Int → Option Blk} {tl : Nat → Bool} {K : St → Prop} {Q : Exit → Act → World → Prop} {F0 : Nat → Prop} (hQ : ∀ σ F a w, (∀ b, F0 b → F b) → Sim w0 M F σ a w → K σ → Q .normal a w) :
    ∀ (fuel : Nat) (l : Array Bool) (σ : St) (F : Nat → Prop) (a : Act) (w : World), (∀ b, F0 b → F b) → DL P ops blK tl K fuel l σ → Sim w0 M F σ a w → wpAny P .any ops Q fuel l a w
  | 0, l, σ, F, a, w, hF, h, hs => ⟨h.1, hQ σ F a w hF hs h.2⟩
  | fuel + 1, l, σ, F, a, w, hF, h, hs => ⟨fun h0 => hQ σ F a w hF hs (h.1 h0), fun i hi => D1_sound (h.2 i hi) hs fun σ' F' a' w' hF' hs' hk => DL_sound hQ fuel _ σ' F' a' w' (fun b hb => hF' b (hF b hb)) hk.2 hs'⟩

theorem AW_drawL {id : Nat} {K : Ex → St → Prop} {σ : St} (hm : P.follows .mixedOrders = true) (blK : Int → Option Blk) {tl : Nat → Bool} (h : DL P ops blK tl (K .normal) ops.size (Array.replicate ops.size false) σ) : AW P (.region id ops true) K σ := by
  intro w0 M F a w hs
  refine wp_region_any hm (DL_sound (F0 := F) (w0 := w0) (M := M) (fun σ' F' a' w' hF' hs' hK => ⟨.normal, σ', F', rfl, hF', hs', hK⟩) _ _ σ F a _ (fun _ h => h) h ?_)
  have hsh : Shapes w { w with drawn := w.drawn + 1 } := fun b c t f hc => ⟨c, f, hc, rfl⟩
  refine ⟨⟨hs.mem.os, hs.mem.tape, hs.mem.output, hs.mem.size, hs.mem.frame, hs.mem.shapes, hs.mem.fr, hs.mem.fin, hs.mem.own, fun g b hb => ?_⟩, hs.size, fun t ht => ?_, hs.defers⟩
  · have hh : ∀ b, F b → ({ w with drawn := w.drawn + 1 } : World).heap[b]? = w.heap[b]? := fun _ _ => rfl
    have hg : 0 ≤ g → ({ w with drawn := w.drawn + 1 } : World).heap[g.toNat]? = w.heap[g.toNat]? := fun _ => rfl
    refine BlkIn.mono (fun _ h => h) (fun h0 hFg => ?_) hh hsh hg (hs.mem.blk g b hb)
    have := hs.mem.blk g b hb
    unfold BlkIn at this
    rw [if_neg (by omega)] at this
    exact this.1 hFg
  · have hh : ∀ b, F b → ({ w with drawn := w.drawn + 1 } : World).heap[b]? = w.heap[b]? := fun _ _ => rfl
    exact Rep.mono (fun _ h => h) hh hsh (hs.sl t ht)

theorem DL_first {blK : Int → Option Blk} {tl : Nat → Bool} {K : St → Prop} {i : Nat} {oi : Oper} {v : V} (hi : ops[i]? = some oi) (hti : tl i = false) (hT : ∀ j oj, tl j = true → ops[j]? = some oj → ∃ e ∈ oj.after, Region.binds .any e = true ∧ e.on = i) : ∀ (fuel : Nat) (l : Array Bool) (σ : St),
    (∀ j oj, ops[j]? = some oj → j ≠ i → l.getD j true = false → (∀ e ∈ oj.after, Region.binds .any e = true → e.on ≠ i) → oi.apart ops oj = true) → (∀ k, tl k = true → l.getD k false = false) →
    i ∈ Region.ready .any ops l → Sub blK σ.bl → DY P ops blK oi σ v → DL P ops blK tl K fuel (l.setIfInBounds i true) (σ.put oi.dst v) → DL P ops blK tl K (fuel + 1) l σ := by
  have hbl : ∀ (σ : St), (σ.put oi.dst v).bl = σ.bl := fun σ => by cases oi.dst <;> rfl
  intro fuel
  induction fuel with
  | zero =>
    intro l σ _ hN hr hs hy H
    refine ⟨fun h => (by rw [h] at hr; cases hr), fun j hj => ?_⟩
    by_cases hji : j = i
    · subst hji; exact hy.step hi hs ⟨fun _ => by rw [hbl]; exact hs, H⟩
    · have := ready_mono hj hji
      rw [H.1] at this
      cases this
  | succ fuel ih =>
    intro l σ hfree hN hr hs hy H
    refine ⟨fun h => (by rw [h] at hr; cases hr), fun j hj => ?_⟩
    by_cases hji : j = i
    · subst hji; exact hy.step hi hs ⟨fun _ => by rw [hbl]; exact hs, H⟩
    · have h1 := H.2 j (ready_mono hj hji)
      obtain ⟨hjun, oj, hoj, hall⟩ := mem_ready.1 hj
      have hnot : ∀ e ∈ oj.after, Region.binds .any e = true → e.on ≠ i := fun e he hb heq => by
        have h1 := hall e he hb
        have h0 := (mem_ready.1 hr).1
        rw [heq] at h1
        rcases Nat.lt_or_ge i l.size with h' | h'
        · simp [h'] at h0 h1; rw [h0] at h1; cases h1
        · simp [Array.getElem?_eq_none h'] at h1
      have h2 := DY.put hoj (hfree j oj hoj hji hjun hnot) hy h1
      have hfree' : ∀ k ok, ops[k]? = some ok → k ≠ i → (l.setIfInBounds j true).getD k true = false →
          (∀ e ∈ ok.after, Region.binds .any e = true → e.on ≠ i) → oi.apart ops ok = true := fun k ok hk hki hun hno => by
        refine hfree k ok hk hki ?_ hno
        by_cases hjk : j = k
        · subst hjk; exact hjun
        · rw [getD_set_ne true hjk] at hun; exact hun
      refine D1_mono h2 fun σ' ⟨h3, h4, h5⟩ => ?_
      have htj : tl j = false := by
        cases htl : tl j with
        | false => rfl
        | true =>
          obtain ⟨e, he, hb, hon⟩ := hT j oj htl hoj
          exact absurd hon (hnot e he hb)
      have hlate : late tl (l.setIfInBounds i true) j = false := by
        unfold late
        rw [htj, Bool.false_or, List.any_eq_false]
        intro k _ hk
        simp only [Bool.and_eq_true] at hk
        by_cases hki : i = k
        · subst hki; rw [hti] at hk; cases hk.1
        · rw [getD_set_ne false hki, hN k hk.1] at hk; cases hk.2
      have hN' : ∀ k, tl k = true → (l.setIfInBounds j true).getD k false = false := fun k hk => by
        by_cases hkj : j = k
        · subst hkj; rw [htj] at hk; cases hk
        · rw [getD_set_ne false hkj]; exact hN k hk
      have h4 := h4 hlate
      rw [hbl] at h4
      refine ⟨fun _ => h4, ih (l.setIfInBounds j true) σ' hfree' hN' (ready_mono hr (Ne.symm hji)) h4 h3 ?_⟩
      rw [Array.setIfInBounds_comm _ _ hji]
      exact h5

theorem DL_hoist {blK : Int → Option Blk} {tl : Nat → Bool} {K : St → Prop} (fuel : Nat) : ∀ (is : List Nat) (l : Array Bool) (σ : St), (∀ i, i ∈ is → tl i = false) → (∀ k, tl k = true → l.getD k false = false) → (∀ i, i ∈ is → ∀ j oj, tl j = true → ops[j]? = some oj → ∃ e ∈ oj.after, Region.binds .any e = true ∧ e.on = i) → hoistB ops is l = true → Sub blK σ.bl →
    Hoist P ops blK is (DL P ops blK tl K fuel (setAll is l)) σ → DL P ops blK tl K (fuel + is.length) l σ
  | [], l, σ, _, _, _, _, _, h => h
  | i :: is, l, σ, hI, hN, hT, hB, hs, h => by
    simp only [hoistB, Bool.and_eq_true] at hB
    obtain ⟨⟨hr, hf⟩, hB'⟩ := hB
    unfold Hoist at h
    split at h
    · rename_i o ho
      obtain ⟨v, hy, hK⟩ := h
      have : fuel + (i :: is).length = (fuel + is.length) + 1 := by simp; omega
      rw [this]
      refine DL_first ho (hI i List.mem_cons_self) (hT i List.mem_cons_self) _ _ _ (Region.free_spec ho hf) hN (by simpa using hr) hs hy (DL_hoist fuel is _ _ (fun i hi => hI i (List.mem_cons_of_mem _ hi)) (fun k hk => ?_) (fun i hi => hT i (List.mem_cons_of_mem _ hi)) hB' ?_ hK)
      · by_cases hki : i = k
        · subst hki; rw [hI i List.mem_cons_self] at hk; cases hk
        · rw [getD_set_ne false hki]; exact hN k hk
      cases o.dst <;> exact hs
    · exact h.elim

end

theorem AW_mixedL {P : Program} {id : Nat} {ops : Array Oper} {K : Ex → St → Prop} {σ : St} (hm : P.follows .mixedOrders = true) (blK : Int → Option Blk) (hs : Sub blK σ.bl) (is : List Nat) (fuel n : Nat) (hn : (ops.size == fuel + is.length && is.all (fun i => decide (i < ops.size)) && hoistB ops is (Array.replicate ops.size false) && tailB ops (fun j => decide (n ≤ j)) is && is.all (fun i => decide (i < n))) = true)
    (h : HoistF P (ops.toList.map (·.dst)) blK (is.filterMap fun i => ops[i]?) (DL P ops blK (fun j => decide (n ≤ j)) (K .normal) fuel (setAll is (Array.replicate ops.size false))) σ) : AW P (.region id ops true) K σ := by
  simp only [Bool.and_eq_true, beq_iff_eq] at hn
  refine AW_drawL hm blK (tl := fun j => decide (n ≤ j)) ?_
  have := DL_hoist (P := P) (ops := ops) (blK := blK) (tl := fun j => decide (n ≤ j)) (K := K .normal) fuel is (Array.replicate ops.size false) σ
    (fun i hi => by have := List.all_eq_true.1 hn.2 i hi; simp at this ⊢; exact this) (fun k _ => by
      rw [Array.getD_eq_getD_getElem?, Array.getElem?_replicate]; split <;> rfl) (tailB_spec hn.1.2) hn.1.1.2 hs (Hoist_is _ is σ (filter_some is hn.1.1.1.2) h)
  rw [← hn.1.1.1.1] at this
  exact this

section
variable {P : Program} {ops : Array Oper} {blK : Int → Option Blk} {tl : Nat → Bool} {K : St → Prop} {fuel : Nat} {l : Array Bool} {σ : St}
theorem DL_done (hr : Region.ready .any ops l = []) (h : K σ) : DL P ops blK tl K fuel l σ := by
  cases fuel with
  | zero => exact ⟨hr, h⟩
  | succ n => exact ⟨fun _ => h, fun i hi => by rw [hr] at hi; cases hi⟩
theorem DL_op {i : Nat} {o : Oper} {e : Bool} (ho : ops[i]? = some o) (hg : o.guard = none) (he : late tl l i = e) (h : T P o (fun σ' => (e = false → Sub blK σ'.bl) ∧ DL P ops blK tl K fuel (l.setIfInBounds i true) σ') σ) :
    D1 P ops i (fun σ' => (late tl l i = false → Sub blK σ'.bl) ∧ DL P ops blK tl K fuel (l.setIfInBounds i true) σ') σ := by
  subst he; unfold D1; rw [ho]; simp only [hg]; exact h
theorem DL_one {i : Nat} {o : Oper} (e : Bool) (hr : Region.ready .any ops l = [i]) (ho : ops[i]? = some o) (hg : o.guard = none) (he : late tl l i = e) (h : T P o (fun σ' => (e = false → Sub blK σ'.bl) ∧ DL P ops blK tl K fuel (l.setIfInBounds i true) σ') σ) : DL P ops blK tl K (fuel + 1) l σ := by
  refine ⟨fun h0 => (by rw [hr] at h0; cases h0), fun k hk => ?_⟩
  rw [hr] at hk
  obtain rfl : k = i := by simpa using hk
  exact DL_op ho hg he h
theorem DL_two {i j : Nat} {o p : Oper} (e f : Bool) (hr : Region.ready .any ops l = [i, j]) (ho : ops[i]? = some o) (hg : o.guard = none) (he : late tl l i = e) (ho' : ops[j]? = some p) (hg' : p.guard = none) (he' : late tl l j = f)
    (h : T P o (fun σ' => (e = false → Sub blK σ'.bl) ∧ DL P ops blK tl K fuel (l.setIfInBounds i true) σ') σ)
    (h' : T P p (fun σ' => (f = false → Sub blK σ'.bl) ∧ DL P ops blK tl K fuel (l.setIfInBounds j true) σ') σ) : DL P ops blK tl K (fuel + 1) l σ := by
  refine ⟨fun h0 => (by rw [hr] at h0; cases h0), fun k hk => ?_⟩
  rw [hr] at hk
  rcases List.mem_cons.1 hk with rfl | hk
  · exact DL_op ho hg he h
  · obtain rfl : k = j := by simpa using hk
    exact DL_op ho' hg' he' h'
theorem DL_three {i j m : Nat} {o p q : Oper} (e f g : Bool) (hr : Region.ready .any ops l = [i, j, m]) (ho : ops[i]? = some o) (hg : o.guard = none) (he : late tl l i = e) (ho' : ops[j]? = some p) (hg' : p.guard = none) (he' : late tl l j = f) (ho2 : ops[m]? = some q) (hg2 : q.guard = none) (he2 : late tl l m = g)
    (h : T P o (fun σ' => (e = false → Sub blK σ'.bl) ∧ DL P ops blK tl K fuel (l.setIfInBounds i true) σ') σ)
    (h' : T P p (fun σ' => (f = false → Sub blK σ'.bl) ∧ DL P ops blK tl K fuel (l.setIfInBounds j true) σ') σ)
    (h2 : T P q (fun σ' => (g = false → Sub blK σ'.bl) ∧ DL P ops blK tl K fuel (l.setIfInBounds m true) σ') σ) : DL P ops blK tl K (fuel + 1) l σ := by
  refine ⟨fun h0 => (by rw [hr] at h0; cases h0), fun k hk => ?_⟩
  rw [hr] at hk
  rcases List.mem_cons.1 hk with rfl | hk
  · exact DL_op ho hg he h
  · rcases List.mem_cons.1 hk with rfl | hk
    · exact DL_op ho' hg' he' h'
    · obtain rfl : k = m := by simpa using hk
      exact DL_op ho2 hg2 he2 h2
end

/-! ### A middle that is stated -/
def seqA (P : Program) (y : Code) (K : Ex → St → Prop) (e : Ex) (σ : St) : Prop := match e with | .normal => AW P y K σ | .exit i => K (.exit i) σ | .ret => K .ret σ
@[simp] theorem seqA_normal (P : Program) (y : Code) (K : Ex → St → Prop) (σ : St) : seqA P y K .normal σ = AW P y K σ := rfl
@[simp] theorem seqA_exit (P : Program) (y : Code) (K : Ex → St → Prop) (i : Nat) (σ : St) : seqA P y K (.exit i) σ = K (.exit i) σ := rfl
@[simp] theorem seqA_ret (P : Program) (y : Code) (K : Ex → St → Prop) (σ : St) : seqA P y K .ret σ = K .ret σ := rfl
/-- Runs up to the first semicolon. -/
theorem AW_runA {P : Program} {x y : Code} {K : Ex → St → Prop} {σ : St} (h : runC P x (seqA P y K) σ) : AW P (.seq x y) K σ := by
  refine AW_seq ((AW_run h).mono fun e σ' h' => ?_)
  cases e with
  | normal => exact h'
  | exit i => exact h'
  | ret => exact h'
def midQ {α : Type} (S : α → List (Nat × V)) (B : α → Int → Option Blk) (I : α → Prop) (n : Nat) (e : Ex) (σ : St) : Prop := e = .normal ∧ ∃ a, I a ∧ Fit (S a) n (B a) σ
theorem midQ_normal {α : Type} (S : α → List (Nat × V)) (B : α → Int → Option Blk) (I : α → Prop) (n : Nat) (σ : St) : midQ S B I n .normal σ = ∃ a, I a ∧ Fit (S a) n (B a) σ := by simp [midQ]
/-- Whatever way the first goes: these slots and blocks. -/
theorem AW_mid {α : Type} {P : Program} {x y : Code} {K : Ex → St → Prop} {σ : St} (S : α → List (Nat × V)) (B : α → Int → Option Blk) (I : α → Prop) (n : Nat) (h1 : AW P x (midQ S B I n) σ)
    (h2 : ∀ a, I a → AW P y K ⟨n, hv (S a), B a⟩) : AW P (.seq x y) K σ := by
  refine AW_seq (h1.mono fun e σ' ⟨he, a, hI, hf⟩ => ?_)
  subst he
  exact AW_at _ _ _ hf (h2 a hI)

/-! ### The rules of reading regions, not by definition (else the kernel unfolds the whole region) -/
section
variable (P : Program) (ds : List (Option Tmp)) (blK : Int → Option Blk) (rest : List Oper) (K : St → Prop) (σ : St) (d : Option Tmp) (ty : TypeId) (pos : String) (af : Array Edge)
@[simp high] theorem HoistF_call_x (f : Operand) (args : Array Operand) (ats : Array TypeId) : HoistF P ds blK (⟨d, .call ⟨.value f, args, ats⟩, ty, pos, af, none⟩ :: rest) K σ = hcQ P ds blK rest K σ d (callV σ f args.toList) := (rfl)
@[simp high] theorem HoistF_len_x (x : Operand) (t : TypeId) : HoistF P ds blK (⟨d, .call ⟨.builtin .len, #[x], #[t]⟩, ty, pos, af, none⟩ :: rest) K σ = hoQ P ds blK rest K σ d (lenV P t (σ.ev x)) := (rfl)
@[simp high] theorem HoistF_pick_x (c a b : Operand) : HoistF P ds blK (⟨d, .pick c a b, ty, pos, af, none⟩ :: rest) K σ = hoQ P ds blK rest K σ d (qval P blK σ (.pick c a b)) := (rfl)
@[simp high] theorem HoistF_load_x (t : TypeId) (x : Operand) : HoistF P ds blK (⟨d, .load t x, ty, pos, af, none⟩ :: rest) K σ = hoQ P ds blK rest K σ d (qval P blK σ (.load t x)) := (rfl)
@[simp high] theorem HoistF_nilCheck_x (x : Operand) : HoistF P ds blK (⟨d, .nilCheck x, ty, pos, af, none⟩ :: rest) K σ = hoQ P ds blK rest K σ d (nilV (σ.ev x)) := (rfl)
@[simp high] theorem HoistF_binOp_x (op : BinOp) (t : TypeId) (x y : Operand) (t' : TypeId) : HoistF P ds blK (⟨d, .binOp op t x y t', ty, pos, af, none⟩ :: rest) K σ = hoQ P ds blK rest K σ d (binV P op t (σ.ev x) (σ.ev y)) := (rfl)
@[simp high] theorem HoistF_unOp_x (op : UnOp) (t : TypeId) (x : Operand) : HoistF P ds blK (⟨d, .unOp op t x, ty, pos, af, none⟩ :: rest) K σ = hoQ P ds blK rest K σ d (unV op (σ.ev x)) := (rfl)
@[simp high] theorem HoistF_convert_x (s t : TypeId) (x : Operand) : HoistF P ds blK (⟨d, .convert s t x, ty, pos, af, none⟩ :: rest) K σ = hoQ P ds blK rest K σ d (cvtV P blK s t (σ.ev x)) := (rfl)
@[simp high] theorem HoistF_slice_x (t : TypeId) (x : Operand) (lo hi : Option Operand) : HoistF P ds blK (⟨d, .slice t x lo hi none, ty, pos, af, none⟩ :: rest) K σ = hoQ P ds blK rest K σ d (sliV P t (σ.ev x) (lo.map σ.ev) (hi.map σ.ev)) := (rfl)
@[simp high] theorem HoistF_fieldAddr_x (t : TypeId) (x : Operand) (i : Nat) : HoistF P ds blK (⟨d, .fieldAddr t x i, ty, pos, af, none⟩ :: rest) K σ = hoQ P ds blK rest K σ d (fldV P t i (σ.ev x)) := (rfl)
@[simp high] theorem HoistF_field_x (t : TypeId) (x : Operand) (i : Nat) : HoistF P ds blK (⟨d, .field t x i, ty, pos, af, none⟩ :: rest) K σ = hoQ P ds blK rest K σ d (fieldV P t i (σ.ev x)) := (rfl)
@[simp high] theorem HoistF_indexAddr_x (t : TypeId) (x i : Operand) : HoistF P ds blK (⟨d, .indexAddr t x i, ty, pos, af, none⟩ :: rest) K σ = hoQ P ds blK rest K σ d (idxV P t (σ.ev x) (σ.ev i)) := (rfl)
@[simp high] theorem HoistF_index_x (t : TypeId) (x i : Operand) : HoistF P ds blK (⟨d, .index t x i, ty, pos, af, none⟩ :: rest) K σ = hoQ P ds blK rest K σ d (idsV P t (σ.ev x) (σ.ev i)) := (rfl)
@[simp high] theorem HoistF_extract_x (x : Operand) (i : Nat) : HoistF P ds blK (⟨d, .extract x i, ty, pos, af, none⟩ :: rest) K σ = hoQ P ds blK rest K σ d (extV i (σ.ev x)) := (rfl)
end

/-! ### Guards in regions that draw and read -/
def hgQ (P : Program) (ds : List (Option Tmp)) (blK : Int → Option Blk) (rest : List Oper) (K : St → Prop) (σ : St) (d : Option Tmp) (op : Op) (b : Bool) (v : V) : Prop := match v with
  | .bool q => if q = b then bindP (qval P blK σ op) fun v => HoistF P ds blK rest K (σ.put d v) else HoistF P ds blK rest K (σ.put d (.tup []))
  | .tup [] => HoistF P ds blK rest K (σ.put d (.tup []))
  | _ => False
def hgS (P : Program) (ds : List (Option Tmp)) (blK : Int → Option Blk) (rest : List Oper) (K : St → Prop) (σ : St) (d : Option Tmp) (op : Op) (b : Bool) (x : Option (Option Tmp)) : Prop := match x with
  | some (some t) => hgQ P ds blK rest K σ d op b (σ.ev (.tmp t))
  | _ => False
section
variable (P : Program) (ds : List (Option Tmp)) (blK : Int → Option Blk) (rest : List Oper) (K : St → Prop) (σ : St) (d : Option Tmp) (op : Op) (ty : TypeId) (pos : String) (af : Array Edge) (b : Bool)
@[simp] theorem HoistF_guard (j : Nat) : HoistF P ds blK (⟨d, op, ty, pos, af, some (j, b)⟩ :: rest) K σ = hgS P ds blK rest K σ d op b (ds[j]?) := (rfl)
@[simp] theorem hgS_some (t : Tmp) : hgS P ds blK rest K σ d op b (some (some t)) = hgQ P ds blK rest K σ d op b (σ.ev (.tmp t)) := (rfl)
@[simp] theorem hgQ_tt : hgQ P ds blK rest K σ d op true (.bool true) = hoQ P ds blK rest K σ d (qval P blK σ op) := by simp [hgQ, hoQ]
@[simp] theorem hgQ_ff : hgQ P ds blK rest K σ d op false (.bool false) = hoQ P ds blK rest K σ d (qval P blK σ op) := by simp [hgQ, hoQ]
@[simp] theorem hgQ_tf : hgQ P ds blK rest K σ d op true (.bool false) = HoistF P ds blK rest K (σ.put d (.tup [])) := by simp [hgQ]
@[simp] theorem hgQ_ft : hgQ P ds blK rest K σ d op false (.bool true) = HoistF P ds blK rest K (σ.put d (.tup [])) := by simp [hgQ]
@[simp] theorem hgQ_skip : hgQ P ds blK rest K σ d op b (.tup []) = HoistF P ds blK rest K (σ.put d (.tup [])) := (rfl)
end

/-! ### Regions that draw and read, by way of a few slots -/
theorem HoistF_frame {P : Program} {ds : List (Option Tmp)} {blK : Int → Option Blk} {K : St → Prop} (S : List (Option Tmp)) (σ0 : St) : ∀ (l : List Oper) (σ : St), HoistF P ds blK l K σ → (∀ o, o ∈ l → o.dst ∈ S) → (σ.n = σ0.n ∧ ∀ t, some t ∉ S → σ.sl t = σ0.sl t) →
    HoistF P ds blK l (fun σ' => K σ' ∧ σ'.n = σ0.n ∧ ∀ t, some t ∉ S → σ'.sl t = σ0.sl t) σ
  | [], σ, h, _, h0 => ⟨h, h0⟩
  | o :: rest, σ, h, hS, h0 => by
    have next : ∀ v, HoistF P ds blK rest K (σ.put o.dst v) → HoistF P ds blK rest (fun σ' => K σ' ∧ σ'.n = σ0.n ∧ ∀ t, some t ∉ S → σ'.sl t = σ0.sl t) (σ.put o.dst v) := fun v hv =>
      HoistF_frame S σ0 rest _ hv (fun o' ho' => hS o' (List.mem_cons_of_mem _ ho')) (by
        have hd := hS o List.mem_cons_self
        cases hod : o.dst with
        | none => exact h0
        | some d =>
          rw [hod] at hd
          exact ⟨h0.1, fun t ht => by
            show upd σ.sl d v t = _
            rw [upd_ne _ _ _ _ (fun e => ht (by rw [e]; exact hd))]; exact h0.2 t ht⟩)
    unfold HoistF at h ⊢
    cases hg : o.guard with
    | none =>
      simp only [hg] at h ⊢
      split at h
      · obtain ⟨p, h1, v, n, ys, h2, h3⟩ := h
        exact ⟨p, h1, v, n, ys, h2, next v h3⟩
      · obtain ⟨v, h1, h2⟩ := h
        exact ⟨v, h1, next v h2⟩
    | some jb =>
      obtain ⟨j, b⟩ := jb
      simp only [hg] at h ⊢
      split at h
      · rename_i d hd
        split at h
        · split at h
          · rename_i hq
            obtain ⟨v, h1, h2⟩ := h
            rw [if_pos hq]
            exact ⟨v, h1, next v h2⟩
          · rename_i hq
            rw [if_neg hq]
            exact next _ h
        · exact next _ h
        · exact h.elim
      · exact h.elim
theorem hv_of {f : Nat → V} : ∀ (l : List (Nat × V)), (∀ p, p ∈ l → f p.1 = p.2) → ∀ p, p ∈ l → hv l p.1 = f p.1
  | [], _, p, hp => by cases hp
  | (u, y) :: r, h, p, hp => by
    unfold hv
    by_cases e : p.1 = u
    · rw [if_pos e, e]; exact (h (u, y) List.mem_cons_self).symm
    · rw [if_neg e]
      rcases List.mem_cons.1 hp with rfl | hp
      · exact absurd rfl e
      · exact hv_of r (fun q hq => h q (List.mem_cons_of_mem _ hq)) p hp
theorem AW_qway {P : Program} {id : Nat} {ops : Array Oper} {K : Ex → St → Prop} {σ : St} (hm : P.follows .mixedOrders = true) (hB : quietB ops = true) (l : List (Nat × V)) (n : Nat) (bl : Int → Option Blk) (t : Nat) (v : V) (hf : Fit l n bl σ) (hd : (l.all fun p => !(ops.toList.map (·.dst)).contains (some p.1)) = true)
    (h1 : HoistF P (ops.toList.map (·.dst)) bl ops.toList (fun σ' => σ'.sl t = v ∧ σ'.bl = bl) ⟨n, hv l, bl⟩) (h2 : K .normal ⟨n, hv ((t, v) :: l), bl⟩) : AW P (.region id ops true) K σ := by
  refine AW_at l n bl hf ?_
  have hq : AW P (.region id ops true) (fun e σ' => e = .normal ∧ (σ'.sl t = v ∧ σ'.bl = bl) ∧ σ'.n = n ∧ ∀ u, some u ∉ ops.toList.map (·.dst) → σ'.sl u = hv l u) ⟨n, hv l, bl⟩ := by
    refine AW_quiet hm hB ?_
    have := HoistF_frame (ops.toList.map (·.dst)) ⟨n, hv l, bl⟩ ops.toList ⟨n, hv l, bl⟩ h1 (fun o ho => List.mem_map_of_mem ho) ⟨rfl, fun _ _ => rfl⟩
    simpa using this
  intro w0 M F a w hs
  refine wp_mono (hq w0 M F a w hs) fun e a' w' hp => ?_
  obtain ⟨ex, σ', F', e1, e2, e3, rfl, ⟨k1, k2⟩, k3, k4⟩ := hp
  refine ⟨.normal, ⟨n, hv ((t, v) :: l), bl⟩, F', e1, e2, e3.le ?_, h2⟩
  refine le_hv ⟨k3, fun p hp => ?_, by rw [k2]; exact Sub.refl _⟩
  rcases List.mem_cons.1 hp with rfl | hp
  · exact k1
  · have := List.all_eq_true.1 hd p hp
    have h5 : some p.1 ∉ ops.toList.map (·.dst) := by
      intro hc
      rw [Bool.not_eq_true'] at this
      have h6 := List.contains_iff_mem.2 hc
      rw [this] at h6; cases h6
    rw [k4 _ h5, hv_of l hf.2.1 p hp, hf.2.1 p hp]

/-- Whatever way a region goes, it keeps these slots and blocks, and sets one slot; what it makes besides is let go. -/
theorem AW_wayS {P : Program} {id : Nat} {ops : Array Oper} {K : Ex → St → Prop} {σ : St} (l : List (Nat × V)) (n : Nat) (bl : Int → Option Blk) (t : Nat) (v : V) (hf : Fit l n bl σ) (hd : (l.all fun p => !(ops.toList.map (·.dst)).contains (some p.1)) = true)
    (h1 : OpsF P (ops.toList.map (·.dst)) ops.toList (fun σ' => σ'.sl t = v ∧ Sub bl σ'.bl) ⟨n, hv l, bl⟩) (h2 : K .normal ⟨n, hv ((t, v) :: l), bl⟩) : AW P (.region id ops false) K σ := by
  refine AW_at l n bl hf ?_
  have hq : AW P (.region id ops false) (fun e σ' => e = .normal ∧ (σ'.sl t = v ∧ Sub bl σ'.bl) ∧ σ'.n = n ∧ ∀ u, some u ∉ ops.toList.map (·.dst) → σ'.sl u = hv l u) ⟨n, hv l, bl⟩ := by
    refine AW_region ?_
    exact Ops_mono _ (Ops_frame _ (Ops_of h1)) fun σ' h => ⟨rfl, h⟩
  intro w0 M F a w hs
  refine wp_mono (hq w0 M F a w hs) fun e a' w' hp => ?_
  obtain ⟨ex, σ', F', e1, e2, e3, rfl, ⟨k1, k2⟩, k3, k4⟩ := hp
  refine ⟨.normal, ⟨n, hv ((t, v) :: l), bl⟩, F', e1, e2, e3.le ?_, h2⟩
  refine le_hv ⟨k3, fun p hp => ?_, k2⟩
  rcases List.mem_cons.1 hp with rfl | hp
  · exact k1
  · have := List.all_eq_true.1 hd p hp
    have h5 : some p.1 ∉ ops.toList.map (·.dst) := by
      intro hc
      rw [Bool.not_eq_true'] at this
      have h6 := List.contains_iff_mem.2 hc
      rw [this] at h6; cases h6
    rw [k4 _ h5, hv_of l hf.2.1 p hp, hf.2.1 p hp]

/-! ### A call that is handed data of the call's own for good -/
theorem callP_give {P : Program} {f : FuncId} {xs ys : List V} {bl bl2 : Int → Option Blk} {k : V → (Int → Option Blk) → Prop} (n : Nat) (hs : Sub bl2 bl) (hx : frzL (dropB bl bl2) n xs = some ys) (h : CallP P f ys bl2 k) : CallP P f xs bl k := by
  refine ⟨h.1, fun w0 M F w vs hm hrep => ?_⟩
  have hlen := frzL_get hx
  have hreps : Reps (fun k => F k ∨ Own (dropB bl bl2) k) w ys vs := by
    refine ⟨by rw [hrep.1, hlen.1], fun i y hy => ?_⟩
    obtain ⟨x, h1, h2⟩ := hlen.2 i y hy
    exact frz_sound (fun g b hb => dropB_blk hm g b hb) (fun g b hb h0 => .inr ⟨g, b, hb, h0, rfl⟩) (fun b hb => .inl hb) n x y _ (hrep.2 i x h1) h2
  exact (h.2 w0 M _ w vs (hm.freeze hs) hreps).mono fun e w' ⟨v, r, bl', F', h1, h2, h3, h4, h5, h6, h7⟩ => ⟨v, r, bl', F', h1, fun b hb => h2 b (.inl hb), fun b hb => h3 b (.inl hb), h4, h5, h6, h7⟩
theorem callP_gro {P : Program} {f : FuncId} {xs : List V} {bl : Int → Option Blk} {r : V} {k : V → (Int → Option Blk) → Prop} (n : Nat) (bl2 : Int → Option Blk) (ys : List V) (hs : Sub bl2 bl) (hx : frzL (dropB bl bl2) n xs = some ys) (h : RO P f ys r) (hk : k r bl2) : CallP P f xs bl k :=
  callP_give n hs hx (callP_ro h hk)

/-- Less is held fast than there is. -/
theorem AW_mixedB {P : Program} {id : Nat} {ops : Array Oper} {K : Ex → St → Prop} {σ : St} (hm : P.follows .mixedOrders = true) (blK : Int → Option Blk) (hs : Sub blK σ.bl) (is : List Nat) (fuel : Nat) (hn : (ops.size == fuel + is.length && is.all (fun i => decide (i < ops.size)) && hoistB ops is (Array.replicate ops.size false)) = true)
    (h : HoistF P (ops.toList.map (·.dst)) blK (is.filterMap fun i => ops[i]?) (DAny P ops blK (fun _ => false) (K .normal) fuel (setAll is (Array.replicate ops.size false))) σ) : AW P (.region id ops true) K σ := by
  simp only [Bool.and_eq_true, beq_iff_eq] at hn
  exact AW_draw_mixed hm is fuel blK hs hn.1.1 hn.2 (tl := fun _ => false) (fun _ _ _ _ h => by cases h) (Hoist_is _ is σ (filter_some is hn.1.2) h)

end Go.Proofs.Ytmbcofnnibpbeaa.Vm

namespace Go.Proofs.Ytmbcofnnibpbeaa.Vm
open Go Go.Proofs
set_option linter.unusedSimpArgs false
set_option linter.unusedVariables false

def rowsTo (s : Str) (n : Nat) : List Int := ((frees s.js).take n).flatMap fun j => rowX s j ++ rowY s j
def rowsF (s : Str) : List Int := (frees s.js).flatMap fun j => rowX s j ++ rowY s j
theorem rowsTo_succ (s : Str) (n : Nat) (h : n < (frees s.js).length) : rowsTo s (n + 1) = rowsTo s n ++ rowX s (frees s.js)[n] ++ rowY s (frees s.js)[n] := by
  unfold rowsTo
  rw [List.take_add_one, List.getElem?_eq_getElem h, List.flatMap_append]; simp
theorem rowsTo_length (s : Str) : ∀ n, n ≤ (frees s.js).length → (rowsTo s n).length = 2 * s.ms.length * n
  | 0, _ => by simp [rowsTo]
  | n + 1, h => by
    rw [rowsTo_succ s n (by omega), List.length_append, List.length_append, rowsTo_length s n (by omega), rowX_length, rowY_length, Nat.mul_add]; omega

structure Three where
  i : Nat
  g : Int
  b : Int → Option Blk
def threeInv (bl : Int → Option Blk) (s : Str) (gs : Int) (p : Three) : Prop :=
  p.i ≤ (frees s.js).length ∧ p.g ≠ gs ∧ p.b p.g = some ⟨1, iv (rowsTo s p.i)⟩ ∧ p.b gs = some ⟨2, [[.sl (jv s.js), .sl (mv s.ms)]]⟩ ∧ bl p.g = none ∧ Sub bl p.b ∧ (p.g < 0 → rowsTo s p.i = [])

def xTo (s : Str) (j : Int) (n : Nat) : List Int := (s.ms.take n).map (eqX s j)
def yTo (s : Str) (j : Int) (n : Nat) : List Int := (s.ms.take n).map (eqY s j)
theorem xTo_succ (s : Str) (j : Int) (n : Nat) (h : n < s.ms.length) : xTo s j (n + 1) = xTo s j n ++ [eqX s j s.ms[n]] := by
  unfold xTo; rw [List.take_add_one, List.getElem?_eq_getElem h, List.map_append]; rfl
theorem yTo_succ (s : Str) (j : Int) (n : Nat) (h : n < s.ms.length) : yTo s j (n + 1) = yTo s j n ++ [eqY s j s.ms[n]] := by
  unfold yTo; rw [List.take_add_one, List.getElem?_eq_getElem h, List.map_append]; rfl
theorem xTo_all (s : Str) (j : Int) : xTo s j s.ms.length = rowX s j := by simp [xTo, rowX]
theorem yTo_all (s : Str) (j : Int) : yTo s j s.ms.length = rowY s j := by simp [yTo, rowY]
theorem xTo_length (s : Str) (j : Int) (n : Nat) (h : n ≤ s.ms.length) : (xTo s j n).length = n := by simp [xTo]; omega
theorem yTo_length (s : Str) (j : Int) (n : Nat) (h : n ≤ s.ms.length) : (yTo s j n).length = n := by simp [yTo]; omega

/-- Minus the load at the free joints. -/
def rightTo (s : Str) (l : List Int) (n : Nat) : List Int := ((frees s.js).take n).flatMap fun j => [-lat l (2 * j).toNat, -lat l (2 * j + 1).toNat]
def right (s : Str) (l : List Int) : List Int := (frees s.js).flatMap fun j => [-lat l (2 * j).toNat, -lat l (2 * j + 1).toNat]
theorem rightTo_succ (s : Str) (l : List Int) (n : Nat) (h : n < (frees s.js).length) : rightTo s l (n + 1) = rightTo s l n ++ [-lat l (2 * (frees s.js)[n]).toNat, -lat l (2 * (frees s.js)[n] + 1).toNat] := by
  unfold rightTo
  rw [List.take_add_one, List.getElem?_eq_getElem h, List.flatMap_append]; simp
theorem rightTo_length (s : Str) (l : List Int) : ∀ n, n ≤ (frees s.js).length → (rightTo s l n).length = 2 * n
  | 0, _ => by simp [rightTo]
  | n + 1, h => by
    rw [rightTo_succ s l n (by omega), List.length_append, rightTo_length s l n (by omega)]; simp; omega
theorem frees_range {s : Str} {j : Int} (h : j ∈ frees s.js) : 0 ≤ j ∧ j < s.js.length := by
  unfold frees freesTo at h
  obtain ⟨k, hk, rfl⟩ := List.mem_map.1 h
  have := List.mem_range.1 (List.mem_filter.1 hk).1
  omega

end Go.Proofs.Ytmbcofnnibpbeaa.Vm

namespace Go.Proofs.Ytmbcofnnibpbeaa.Vm
open Go Go.RowKit
set_option linter.unusedSimpArgs false
set_option linter.unusedVariables false

theorem Hoist_append {P : Program} {ops : Array Oper} {blK : Int → Option Blk} {K : St → Prop} : ∀ (is js : List Nat) (σ : St), Hoist P ops blK is (fun σ' => Hoist P ops blK js K σ') σ → Hoist P ops blK (is ++ js) K σ
  | [], js, σ, h => h
  | i :: is, js, σ, h => by
    rw [List.cons_append]
    unfold Hoist at h ⊢
    split at h
    · obtain ⟨v, h1, h2⟩ := h
      exact ⟨v, h1, Hoist_append is js _ h2⟩
    · exact h.elim
theorem HoistF_mono {P : Program} {ds : List (Option Tmp)} {blK : Int → Option Blk} {K K' : St → Prop} (hK : ∀ σ, K σ → K' σ) : ∀ (l : List Oper) (σ : St), HoistF P ds blK l K σ → HoistF P ds blK l K' σ
  | [], σ, h => hK σ h
  | o :: rest, σ, h => by
    have next : ∀ v, HoistF P ds blK rest K (σ.put o.dst v) → HoistF P ds blK rest K' (σ.put o.dst v) := fun v hv => HoistF_mono hK rest _ hv
    unfold HoistF at h ⊢
    cases hg : o.guard with
    | none =>
      simp only [hg] at h ⊢
      split at h
      · obtain ⟨p, h1, v, n, ys, h2, h3⟩ := h
        exact ⟨p, h1, v, n, ys, h2, next v h3⟩
      · obtain ⟨v, h1, h2⟩ := h
        exact ⟨v, h1, next v h2⟩
    | some jb =>
      obtain ⟨j, b⟩ := jb
      simp only [hg] at h ⊢
      split at h
      · rename_i d hd
        split at h
        · split at h
          · rename_i hq
            obtain ⟨v, h1, h2⟩ := h
            rw [if_pos hq]
            exact ⟨v, h1, next v h2⟩
          · rename_i hq
            rw [if_neg hq]
            exact next _ h
        · exact next _ h
        · exact h.elim
      · exact h.elim
/-- One operation, guarded or not, as what it yields. -/
def HStep (P : Program) (ops : Array Oper) (blK : Int → Option Blk) (i : Nat) (K : St → Prop) (σ : St) : Prop := match ops[i]? with
  | some o => ∃ v, DY P ops blK o σ v ∧ K (σ.put o.dst v)
  | none => False
theorem HStep_call {P : Program} {ops : Array Oper} {blK : Int → Option Blk} {K : St → Prop} {σ : St} {i j d : Nat} {o : Oper} {b : Bool} {f : Operand} {args : Array Operand} {ats : Array TypeId} {fid : FuncId} {xs : List V} {v : V}
    (ho : ops[i]? = some o) (hop : o.op = .call ⟨.value f, args, ats⟩) (hg : o.guard = some (j, b)) (hd : (ops[j]?).bind (·.dst) = some d) (hb : σ.ev (.tmp d) = .bool b) (hc : callV σ f args.toList = some (fid, xs)) (hr : RO P fid xs v) (hK : K (σ.put o.dst v)) : HStep P ops blK i K σ := by
  unfold HStep
  rw [ho]
  refine ⟨v, ?_, hK⟩
  unfold DY
  simp only [hg, hd, hb]
  exact ⟨fun _ => .inr ⟨_, f, (fid, xs), 0, [], hop, rfl, hc, .inr hr⟩, fun hh => by cases b <;> cases hh⟩
theorem HStep_skip {P : Program} {ops : Array Oper} {blK : Int → Option Blk} {K : St → Prop} {σ : St} {i j d : Nat} {o : Oper} {b : Bool}
    (ho : ops[i]? = some o) (hg : o.guard = some (j, b)) (hd : (ops[j]?).bind (·.dst) = some d) (hb : σ.ev (.tmp d) = .bool (!b)) (hK : K (σ.put o.dst (.tup []))) : HStep P ops blK i K σ := by
  unfold HStep
  rw [ho]
  refine ⟨.tup [], ?_, hK⟩
  unfold DY
  simp only [hg, hd, hb]
  cases b
  · exact ⟨fun hh => (by cases hh), fun _ => by first | trivial | rfl⟩
  · exact ⟨fun hh => (by cases hh), fun _ => by first | trivial | rfl⟩
/-- As AW_mixedB, with the guarded call i between the lists is1 and is2. -/
theorem AW_mixedC {P : Program} {id : Nat} {ops : Array Oper} {K : Ex → St → Prop} {σ : St} (hm : P.follows .mixedOrders = true) (blK : Int → Option Blk) (hs : Sub blK σ.bl) (is1 : List Nat) (i : Nat) (is2 : List Nat) (fuel : Nat)
    (hn : (ops.size == fuel + (is1 ++ i :: is2).length && (is1 ++ i :: is2).all (fun i => decide (i < ops.size)) && hoistB ops (is1 ++ i :: is2) (Array.replicate ops.size false)) = true)
    (h : HoistF P (ops.toList.map (·.dst)) blK (is1.filterMap fun i => ops[i]?) (HStep P ops blK i (HoistF P (ops.toList.map (·.dst)) blK (is2.filterMap fun i => ops[i]?) (DAny P ops blK (fun _ => false) (K .normal) fuel (setAll (is1 ++ i :: is2) (Array.replicate ops.size false))))) σ) : AW P (.region id ops true) K σ := by
  simp only [Bool.and_eq_true, beq_iff_eq] at hn
  have hall := List.all_eq_true.1 hn.1.2
  have f1 : is1.all (fun i => decide (i < ops.size)) = true := List.all_eq_true.2 fun x hx => hall x (List.mem_append_left _ hx)
  have f2 : is2.all (fun i => decide (i < ops.size)) = true := List.all_eq_true.2 fun x hx => hall x (List.mem_append_right _ (List.mem_cons_of_mem _ hx))
  refine AW_draw_mixed hm (is1 ++ i :: is2) fuel blK hs hn.1.1 hn.2 (tl := fun _ => false) (fun _ _ _ _ h => by cases h) (Hoist_append is1 (i :: is2) σ (Hoist_is _ is1 σ (filter_some is1 f1) ?_))
  refine HoistF_mono (fun σ' h' => ?_) _ _ h
  unfold HStep at h'
  unfold Hoist
  split at h'
  · rename_i o ho
    obtain ⟨v, h1, h2⟩ := h'
    rw [ho]
    exact ⟨v, h1, Hoist_is _ is2 _ (filter_some is2 f2) h2⟩
  · exact h'.elim

/-- AW_mixedB where the last operations may store. -/
theorem AW_mixedBT {P : Program} {id : Nat} {ops : Array Oper} {K : Ex → St → Prop} {σ : St} (hm : P.follows .mixedOrders = true) (blK : Int → Option Blk) (hs : Sub blK σ.bl) (is : List Nat) (fuel n : Nat) (hn : (ops.size == fuel + is.length && is.all (fun i => decide (i < ops.size)) && hoistB ops is (Array.replicate ops.size false) && tailB ops (fun j => decide (n ≤ j)) is) = true)
    (h : HoistF P (ops.toList.map (·.dst)) blK (is.filterMap fun i => ops[i]?) (DAny P ops blK (fun j => decide (n ≤ j)) (K .normal) fuel (setAll is (Array.replicate ops.size false))) σ) : AW P (.region id ops true) K σ := by
  simp only [Bool.and_eq_true, beq_iff_eq] at hn
  exact AW_draw_mixed hm is fuel blK hs hn.1.1.1 hn.1.2 (tl := fun j => decide (n ≤ j)) (tailB_spec hn.2) (Hoist_is _ is σ (filter_some is hn.1.1.2) h)

end Go.Proofs.Ytmbcofnnibpbeaa.Vm

namespace Go.Proofs.Ytmbcofnnibpbeaa.Vm
open Go Go.Proofs
set_option linter.unusedSimpArgs false
set_option linter.unusedVariables false

/-- A linear program. -/
structure Pg where
  rows : Int
  cols : Int
  a : List Int
  b : List Int
  c : List Int
def Pg.v (p : Pg) : List V := [.int .i64 p.rows, .int .i64 p.cols, .sl (iv p.a), .sl (iv p.b), .sl (iv p.c)]
def nR (s : Str) : Nat := 2 * (frees s.js).length
def nC (s : Str) : Nat := (cols s.ms).length
def colAt (s : Str) (c : Nat) : Int × Int := (cols s.ms).getD c (0, 0)
def ent (s : Str) (i c : Nat) : Int := (colAt s c).2 * lat (rowsF s) (i * s.ms.length + (colAt s c).1.toNat)
def aTo (s : Str) (n : Nat) : List Int := (List.range n).map fun t => ent s (t / nC s) (t % nC s)
def fprog (s : Str) (l : List Int) : Pg := ⟨nR s, nC s, aTo s (nR s * nC s), right s l, List.replicate (nC s) 0⟩
@[simp] theorem aTo_length (s : Str) (n : Nat) : (aTo s n).length = n := by simp [aTo]
theorem aTo_succ (s : Str) (i c : Nat) (h : c < nC s) : aTo s (i * nC s + c + 1) = aTo s (i * nC s + c) ++ [ent s i c] := by
  unfold aTo
  rw [List.range_succ, List.map_append]
  congr 1
  simp only [List.map_cons, List.map_nil]
  rw [Nat.mul_comm i, Nat.mul_add_div (by omega), Nat.mul_add_mod, Nat.div_eq_of_lt h, Nat.mod_eq_of_lt h, Nat.add_zero]

theorem rowsF_length (s : Str) : (rowsF s).length = nR s * s.ms.length := by
  have e : rowsF s = rowsTo s (frees s.js).length := by simp [rowsF, rowsTo]
  rw [e, rowsTo_length s _ (Nat.le_refl _), nR, Nat.mul_right_comm]
theorem cols_mem {ms : List Mb} {n : Nat} {p : Int × Int} (h : p ∈ colsTo ms n) : (0 ≤ p.1 ∧ p.1 < n) ∧ (p.2 = 1 ∨ p.2 = -1) := by
  unfold colsTo at h
  obtain ⟨k, hk, hp⟩ := List.mem_flatMap.1 h
  have := List.mem_range.1 hk
  unfold colK at hp
  rcases List.mem_append.1 hp with hp | hp <;> split at hp <;> simp at hp <;> subst hp <;> simp <;> omega
theorem colAt_ok (s : Str) (c : Nat) (h : c < nC s) : (0 ≤ (colAt s c).1 ∧ (colAt s c).1 < s.ms.length) ∧ ((colAt s c).2 = 1 ∨ (colAt s c).2 = -1) := by
  unfold nC at h
  have : colAt s c = (cols s.ms)[c] := by simp [colAt, h]
  rw [this]
  exact cols_mem (List.getElem_mem h)
theorem who_at (s : Str) (c : Nat) (h : c < nC s) : (iv (who s))[c]? = some [.int .i64 (colAt s c).1] := by
  unfold nC at h
  simp [who, colAt, h, iv]
theorem sgn_at (s : Str) (c : Nat) (h : c < nC s) : (iv (sgn s))[c]? = some [.int .i64 (colAt s c).2] := by
  unfold nC at h
  simp [sgn, colAt, h, iv]
theorem rowsF_le {s : Str} (hs : SOk s) (n : Nat) : -100 ≤ lat (rowsF s) n ∧ lat (rowsF s) n ≤ 100 := by
  have key : ∀ x, x ∈ rowsF s → -100 ≤ x ∧ x ≤ 100 := by
    intro x hx
    unfold rowsF at hx
    obtain ⟨j, _, hx⟩ := List.mem_flatMap.1 hx
    rcases List.mem_append.1 hx with hx | hx
    · obtain ⟨m, hm, rfl⟩ := List.mem_map.1 hx
      have := v_le hs hm
      unfold eqX; split
      · omega
      · split <;> omega
    · obtain ⟨m, hm, rfl⟩ := List.mem_map.1 hx
      have := v_le hs hm
      unfold eqY; split
      · omega
      · split <;> omega
  unfold lat
  rw [List.getD_eq_getElem?_getD]
  cases h : (rowsF s)[n]? with
  | none => simp
  | some x => exact key x (List.mem_of_getElem? h)


structure PS where
  n : Nat
  g : Int
  b : Int → Option Blk
structure PI (bl : Int → Option Blk) (s : Str) (l : List Int) (gr gp gc : Int) (p : PS) : Prop where
  hr : p.b gr = some ⟨5, [[.int .i64 0, .int .i64 0, .nils, .nils, .nils]]⟩
  hp : p.b gp = some ⟨5, [[.int .i64 (nR s), .int .i64 (nC s), .lsl p.g 1 0 p.n, .sl (iv (right s l)), .lsl gc 1 0 (nC s)]]⟩
  hc : p.b gc = some ⟨1, iv (List.replicate (nC s) 0)⟩
  ha : p.b p.g = some ⟨1, iv (aTo s p.n)⟩
  pr : p.g ≠ gr
  pp : p.g ≠ gp
  pc : p.g ≠ gc
  f : bl p.g = none
  sub : Sub bl p.b
  neg : p.g < 0 → aTo s p.n = []

end Go.Proofs.Ytmbcofnnibpbeaa.Vm

namespace Go.Proofs.Ytmbcofnnibpbeaa.Vm
open Go Go.Proofs
set_option linter.unusedSimpArgs false
set_option linter.unusedVariables false

theorem flat_at {n : Nat} : ∀ (rs : List (List Int)), (∀ r, r ∈ rs → r.length = n) → ∀ (i k : Nat) (hi : i < rs.length), k < n → lat rs.flatten (i * n + k) = lat rs[i] k
  | [], _, i, k, hi, _ => by simp at hi
  | r :: rs, h, 0, k, hi, hk => by
    have := h r List.mem_cons_self
    simp [lat, List.flatten_cons, List.getElem?_append_left (show k < r.length by omega)]
  | r :: rs, h, i + 1, k, hi, hk => by
    have hr := h r List.mem_cons_self
    have ih := flat_at rs (fun r hr => h r (List.mem_cons_of_mem _ hr)) i k (by simpa using hi) hk
    have e : (i + 1) * n + k = r.length + (i * n + k) := by rw [hr, Nat.add_mul]; omega
    rw [List.flatten_cons, e]
    simp only [lat, List.getD_eq_getElem?_getD] at ih ⊢
    rw [List.getElem?_append_right (by omega), Nat.add_sub_cancel_left, ih]; rfl
theorem rowsF_flat (s : Str) : rowsF s = (eqRows s).flatten := by
  unfold rowsF eqRows
  induction frees s.js with
  | nil => rfl
  | cons j js ih => simp [ih]
theorem eqRows_len (s : Str) : ∀ r, r ∈ eqRows s → r.length = s.ms.length := by
  intro r hr
  unfold eqRows at hr
  obtain ⟨j, _, hr⟩ := List.mem_flatMap.1 hr
  simp at hr
  rcases hr with rfl | rfl <;> simp
theorem aTo_at (s : Str) (n m : Nat) (h : m < n) : (iv (aTo s n))[m]'(by simpa using h) = [.int .i64 (ent s (m / nC s) (m % nC s))] := by simp [aTo]
theorem right_length (s : Str) (l : List Int) : (right s l).length = nR s := by
  have e : right s l = rightTo s l (frees s.js).length := by simp [right, rightTo]
  rw [e, rightTo_length s l _ (Nat.le_refl _)]; rfl
theorem right_at (s : Str) (l : List Int) : ∀ (fs : List Int) (i : Nat) (h : i < fs.length), lat (fs.flatMap fun j => [-lat l (2 * j).toNat, -lat l (2 * j + 1).toNat]) (2 * i) = -lat l (2 * fs[i]).toNat ∧ lat (fs.flatMap fun j => [-lat l (2 * j).toNat, -lat l (2 * j + 1).toNat]) (2 * i + 1) = -lat l (2 * fs[i] + 1).toNat
  | [], i, h => by simp at h
  | f :: fs, 0, _ => by simp [lat]
  | f :: fs, i + 1, h => by
    have ih := right_at s l fs i (by simpa using h)
    have e1 : 2 * (i + 1) = (2 * i) + 1 + 1 := by omega
    have e2 : 2 * (i + 1) + 1 = (2 * i + 1) + 1 + 1 := by omega
    rw [e2, e1]
    simpa [lat] using ih


def dPg (p : Pg) : D := .a [.c (.int .i64 p.rows), .c (.int .i64 p.cols), fl 1 (iv p.a), fl 1 (iv p.b), fl 1 (iv p.c)]

structure ABC where
  a : Int
  b : Int
  c : Int
structure abcOk (bl : Int → Option Blk) (gr gp : Int) (p : ABC) : Prop where
  a0 : 0 ≤ p.a
  b0 : 0 ≤ p.b
  c0 : 0 ≤ p.c
  ba : ¬p.b = p.a
  ca : ¬p.c = p.a
  cb : ¬p.c = p.b
  ar : ¬p.a = gr
  ap : ¬p.a = gp
  br : ¬p.b = gr
  bp : ¬p.b = gp
  cr : ¬p.c = gr
  cp : ¬p.c = gp
  fa : bl p.a = none
  fb : bl p.b = none
  fc : bl p.c = none

end Go.Proofs.Ytmbcofnnibpbeaa.Vm

namespace Go.Proofs.Ytmbcofnnibpbeaa.Vm
open Go Go.Proofs
set_option linter.unusedSimpArgs false
set_option linter.unusedVariables false

theorem own_pg {bl : Int → Option Blk} {p : Pg} {v : V} {gs : List Int} : OwnD bl (dPg p) v gs ↔ ∃ va vb vc ga gb gc, v = .agg [.int .i64 p.rows, .int .i64 p.cols, va, vb, vc] ∧ gs = ga ++ (gb ++ gc) ∧ (∀ g, g ∈ ga → g ∉ gb ++ gc) ∧ (∀ g, g ∈ gb → g ∉ gc) ∧
    OwnD bl (fl 1 (iv p.a)) va ga ∧ OwnD bl (fl 1 (iv p.b)) vb gb ∧ OwnD bl (fl 1 (iv p.c)) vc gc := by
  unfold dPg
  rw [OwnD]
  constructor
  · rintro ⟨vs, rfl, h⟩
    rw [OwnL] at h
    obtain ⟨v1, vs1, g1, r1, rfl, rfl, _, h1, h⟩ := h
    rw [OwnD] at h1
    obtain ⟨rfl, _, rfl⟩ := h1
    rw [OwnL] at h
    obtain ⟨v2, vs2, g2, r2, rfl, rfl, _, h2, h⟩ := h
    rw [OwnD] at h2
    obtain ⟨rfl, _, rfl⟩ := h2
    rw [OwnL] at h
    obtain ⟨va, vs3, ga, r3, rfl, rfl, ha, h3, h⟩ := h
    obtain ⟨vb, vc, gb, gc, rfl, rfl, hd, h4, h5⟩ := own_pair.1 h
    exact ⟨va, vb, vc, ga, gb, gc, rfl, rfl, ha, hd, h3, h4, h5⟩
  · rintro ⟨va, vb, vc, ga, gb, gc, rfl, rfl, ha, hb, h1, h2, h3⟩
    refine ⟨_, rfl, ?_⟩
    show OwnL bl [_, _, _, _, _] [_, _, _, _, _] ([] ++ ([] ++ (ga ++ (gb ++ gc))))
    exact own_cons (own_int _) (own_cons (own_int _) (own_cons h1 (own_pair.2 ⟨vb, vc, gb, gc, rfl, rfl, hb, h2, h3⟩) ha) (fun x hx => by cases hx)) (fun x hx => by cases hx)
theorem frz_pg {bl : Int → Option Blk} {p : Pg} {v : V} {gs : List Int} (h : OwnD bl (dPg p) v gs) (n : Nat) : frz bl (n + 2) v = some (.agg p.v) := by
  obtain ⟨va, vb, vc, ga, gb, gc, rfl, rfl, _, _, h1, h2, h3⟩ := own_pg.1 h
  rw [frz_agg, List.mapM_cons, frz_cl rfl, List.mapM_cons, frz_cl rfl, List.mapM_cons, frz_iv h1 n, List.mapM_cons, frz_iv h2 n, List.mapM_cons, frz_iv h3 n]
  simp [Pg.v]
theorem sc_pg (p : Pg) : (dPg p).sc = true := by simp [dPg, D.sc, D.scL, sc_iv, V.ow]

def noPg : Pg := ⟨0, 0, [], [], []⟩
def fpOf (s : Str) (l : List Int) : Pg := if lOk s l = true then fprog s l else noPg

def pgEq (p q : Pg) : Bool := decide (p.rows = q.rows) && (decide (p.cols = q.cols) && (decide (p.a = q.a) && (decide (p.b = q.b) && decide (p.c = q.c))))
@[simp] theorem pgEq_self (p : Pg) : pgEq p p = true := by simp [pgEq]
/-- The marks of a program from k on. -/
def mkP (k : Nat) (p : Pg) : Pg := ⟨p.rows, p.cols, marks k p.a.length, marks (k + p.a.length : Nat) p.b.length, marks (k + p.a.length + p.b.length : Nat) p.c.length⟩
def mkPN (k : Nat) (p : Pg) : Nat := k + p.a.length + p.b.length + p.c.length

end Go.Proofs.Ytmbcofnnibpbeaa.Vm

namespace Go.Proofs.Ytmbcofnnibpbeaa.Vm
open Go Go.Proofs
set_option linter.unusedSimpArgs false
set_option linter.unusedVariables false

theorem dPg_dep (p : Pg) : (dPg p).dep 2 := by simp [dPg, D.dep, D.depL, fl_dep]
theorem dPg_fz (p : Pg) : (dPg p).fz = .agg p.v := by simp [dPg, D.fz, D.fzL, Pg.v]
theorem fpOf_len (s : Str) (l : List Int) : (fpOf s l).a.length ≤ 1048576 ∧ (fpOf s l).b.length ≤ 1048576 ∧ (fpOf s l).c.length ≤ 1048576 := by
  unfold fpOf
  split
  · rename_i h
    have hs := (lOk_of h).sok
    have h6 := hs.nj
    have h8 := hs.nm
    have hfr := freesTo_le s.js s.js.length
    change (frees s.js).length ≤ s.js.length at hfr
    have hcn : nC s ≤ 2 * s.ms.length := colsTo_le s.ms s.ms.length
    have hrn : nR s ≤ 12 := by unfold nR; omega
    have : nR s * nC s ≤ 12 * 16 := Nat.mul_le_mul (by omega) (by omega)
    simp [fprog, right_length]; omega
  · simp [noPg]

end Go.Proofs.Ytmbcofnnibpbeaa.Vm

namespace Go.Proofs.Ytmbcofnnibpbeaa.Vm
open Go Go.Proofs
set_option linter.unusedSimpArgs false
set_option linter.unusedVariables false

def bv (bs : List Int) : List (List V) := bs.map fun b => [.int .u8 b]
@[simp] theorem bv_length (bs : List Int) : (bv bs).length = bs.length := by simp [bv]
theorem bv_get (bs : List Int) (i : Nat) (h : i < bs.length) : (bv bs)[i]? = some [.int .u8 bs[i]] := by simp [bv, h]
@[simp] theorem bv_getE (bs : List Int) (i : Nat) (h : i < (bv bs).length) : (bv bs)[i] = [.int .u8 (bs[i]'(by simpa using h))] := by simp [bv]
/-- A cursor over a code. -/
def cur (bs : List Int) (i h : Int) : Blk := ⟨3, [[.sl (bv bs), .int .i64 i, .int .i64 h]]⟩
theorem and255 (x : BitVec 64) : (x &&& 255#64).toNat ≤ 255 := by
  rw [BitVec.toNat_and]; exact Nat.and_le_right
/-- The last eight bits. -/
def lo8 (a : Int) : Int := IntKind.i64.wrap ((BitVec.ofInt 64 a &&& BitVec.ofInt 64 255).toNat)
theorem lo8_le (a : Int) : 0 ≤ lo8 a ∧ lo8 a ≤ 255 := by
  have h : (BitVec.ofInt 64 a &&& BitVec.ofInt 64 255).toNat ≤ 255 := by
    rw [BitVec.toNat_and]
    exact Nat.le_trans Nat.and_le_right (by decide)
  unfold lo8
  rw [i64_in (by omega) (by omega)]
  omega
@[simp high] theorem binV_lo8 (P : Program) (t : TypeId) (a : Int) : binV P .and t (.int .i64 a) (.int .i64 255) = some (.int .i64 (lo8 a)) := rfl
def shrN (a : Int) (n : Nat) : Int := a.fdiv (2 ^ n)
def xorI (a b : Int) : Int := IntKind.i64.wrap ((BitVec.ofInt 64 a ^^^ BitVec.ofInt 64 b).toNat)
@[simp high] theorem binV_33 (P : Program) (t : TypeId) (a : Int) : binV P .shr t (.int .i64 a) (.int .u64 33) = some (.int .i64 (shrN a 33)) := rfl
@[simp high] theorem binV_45 (P : Program) (t : TypeId) (a : Int) : binV P .shr t (.int .i64 a) (.int .u64 45) = some (.int .i64 (shrN a 45)) := rfl
@[simp high] theorem binV_xorI (P : Program) (t : TypeId) (a b : Int) : binV P .xor t (.int .i64 a) (.int .i64 b) = some (.int .i64 (xorI a b)) := rfl
structure CurOk (bs : List Int) (i : Int) : Prop where
  n : bs.length ≤ 1048576
  b : ∀ x, x ∈ bs → 0 ≤ x ∧ x < 256
  i0 : 0 ≤ i
  i1 : i ≤ bs.length

theorem l01Byte_cp {bl : Int → Option Blk} {K : V → (Int → Option Blk) → Prop} (bs : List Int) (i h g : Int) (hc : CurOk bs i) (hb : bl g = some (cur bs i h))
    (hK : ∀ (x i' h' : Int), 0 ≤ x ∧ x ≤ 255 → CurOk bs i' → K (.int .i64 x) (upd bl g (some (cur bs i' h')))) : CallP Try.prog 16 [.loc g 3 0 0] bl K := by
  obtain ⟨hn, hbs, h0, h1⟩ := hc
  obtain ⟨k, rfl⟩ : ∃ k : Nat, i = k := ⟨i.toNat, by omega⟩
  refine callP_of Try.func16 rfl rfl (by rw [Try.ntmps16]; simp) ?_
  rw [Try.ntmps16, Try.results16]
  refine AW_run ?_
  simp [hb, cur]
  generalize IntKind.i64.wrap (IntKind.i64.wrap (h * 6364136223846793005) + 1442695040888963407) = h2
  refine AW_quiet mixedO (by kernel_rfl) ?_
  simp [-binV, -intV, binV_lo8, binV_33, binV_45, binV_xorI]
  obtain ⟨x0, hx0⟩ : ∃ x, x = lo8 (xorI (shrN h2 33) (shrN h2 45)) := ⟨_, rfl⟩
  have bx := lo8_le (xorI (shrN h2 33) (shrN h2 45))
  rw [← hx0] at bx ⊢
  clear hx0
  refine AW_quiet mixedO (by kernel_rfl) ?_
  simp
  refine ⟨fun hlt => ?_, fun hlt => ?_⟩
  · have hk : k < bs.length := by omega
    have q := bv_get bs k hk
    have w1 : IntKind.i64.wrap ((k : Int) + 1) = k + 1 := i64_in (by omega) (by omega)
    refine AW_quiet mixedO (by kernel_rfl) ?_
    simp [hk, q, binV_lo8]
    rw [retK_ret]
    refine ⟨[_], by simp; rfl, ?_⟩
    simp [w1]
    exact hK _ _ _ (lo8_le _) ⟨hn, hbs, by omega, by omega⟩
  · rw [retK_ret]
    refine ⟨[_], by simp; rfl, ?_⟩
    simp
    exact hK _ _ _ bx ⟨hn, hbs, h0, h1⟩

theorem l01Below_cp {bl : Int → Option Blk} {K : V → (Int → Option Blk) → Prop} (bs : List Int) (i h g n : Int) (hn : 1 ≤ n ∧ n ≤ 256) (hc : CurOk bs i) (hb : bl g = some (cur bs i h))
    (hK : ∀ (x i' h' : Int), 0 ≤ x ∧ x < n → CurOk bs i' → K (.int .i64 x) (upd bl g (some (cur bs i' h')))) : CallP Try.prog 23 [.loc g 3 0 0, .int .i64 n] bl K := by
  refine callP_of Try.func23 rfl rfl (by rw [Try.ntmps23]; simp) ?_
  rw [Try.ntmps23, Try.results23]
  refine AW_run ?_
  simp
  refine ⟨fun h1 => by omega, fun h1 => ⟨fun h2 => ?_, fun h2 => by omega⟩⟩
  refine l01Byte_cp bs i h g hc hb fun x i' h' hx hc' => ?_
  have hm : x.tmod n = x % n := Int.tmod_eq_emod_of_nonneg hx.1
  have m1 := Int.emod_nonneg x (show n ≠ 0 by omega)
  have m2 := Int.emod_lt_of_pos x (show 0 < n by omega)
  have n0 : ¬ n = 0 := by omega
  simp [n0]
  rw [retK_ret]
  refine ⟨[_], by simp; rfl, ?_⟩
  simp
  rw [hm]
  exact hK _ _ _ ⟨m1, m2⟩ hc'

theorem l01Once_cp {bl : Int → Option Blk} {K : V → (Int → Option Blk) → Prop} (bs : List Int) (i h g n : Int) (hn : 1 ≤ n ∧ n ≤ 256) (hc : CurOk bs i) (hb : bl g = some (cur bs i h))
    (hK : ∀ (x : Bool) (i' h' : Int), CurOk bs i' → K (.bool x) (upd bl g (some (cur bs i' h')))) : CallP Try.prog 24 [.loc g 3 0 0, .int .i64 n] bl K := by
  refine callP_of Try.func24 rfl rfl (by rw [Try.ntmps24]; simp) ?_
  rw [Try.ntmps24, Try.results24]
  refine AW_run ?_
  simp
  refine l01Below_cp bs i h g n hn hc hb fun x i' h' hx hc' => ?_
  simp
  rw [retK_ret]
  refine ⟨[_], by simp; rfl, ?_⟩
  exact hK _ _ _ hc'

theorem l01Pick_cp {bl : Int → Option Blk} {K : V → (Int → Option Blk) → Prop} (bs : List Int) (i h g g2 : Int) (xs : List Int) (hn : 1 ≤ xs.length ∧ xs.length ≤ 256) (hc : CurOk bs i) (hb : bl g = some (cur bs i h)) (h2 : bl g2 = some ⟨1, iv xs⟩) (hne : g2 ≠ g) (h0 : 0 ≤ g2)
    (hK : ∀ (x i' h' : Int), x ∈ xs → CurOk bs i' → K (.int .i64 x) (upd bl g (some (cur bs i' h')))) : CallP Try.prog 40 [.loc g 3 0 0, .lsl g2 1 0 xs.length] bl K := by
  refine callP_of Try.func40 rfl rfl (by rw [Try.ntmps40]; simp) ?_
  rw [Try.ntmps40, Try.results40]
  refine AW_run ?_
  simp
  refine l01Below_cp bs i h g xs.length (by omega) hc hb fun x i' h' hx hc' => ?_
  obtain ⟨m, rfl⟩ : ∃ m : Nat, x = m := ⟨x.toNat, by omega⟩
  have hm : m < xs.length := by omega
  simp [hm, hne, h2]
  rw [retK_ret]
  refine ⟨[_], by simp; rfl, ?_⟩
  exact hK _ _ _ (List.getElem_mem hm) hc'

end Go.Proofs.Ytmbcofnnibpbeaa.Vm

namespace Go.Proofs.Ytmbcofnnibpbeaa.Vm
open Go Go.Proofs
set_option linter.unusedSimpArgs false
set_option linter.unusedVariables false

def msk (a b : Int) : Int := IntKind.i64.wrap ((BitVec.ofInt 64 a &&& BitVec.ofInt 64 b).toNat)
theorem binV_msk (P : Program) (t : TypeId) (a b : Int) : binV P .and t (.int .i64 a) (.int .i64 b) = some (.int .i64 (msk a b)) := rfl
theorem binV_addI (P : Program) (t : TypeId) (a b : Int) : binV P .add t (.int .i64 a) (.int .i64 b) = some (.int .i64 (IntKind.i64.wrap (a + b))) := rfl
theorem binV_mulI (P : Program) (t : TypeId) (a b : Int) : binV P .mul t (.int .i64 a) (.int .i64 b) = some (.int .i64 (IntKind.i64.wrap (a * b))) := rfl
theorem l01New_cp {bl : Int → Option Blk} {K : V → (Int → Option Blk) → Prop} (bs : List Int) (hn : bs.length ≤ 1048576)
    (hK : ∀ (g h : Int), 0 ≤ g → bl g = none → K (.loc g 3 0 0) (upd bl g (some (cur bs 0 h)))) : CallP Try.prog 13 [.sl (bv bs)] bl K := by
  refine callP_of Try.func13 rfl rfl (by rw [Try.ntmps13]; simp) ?_
  rw [Try.ntmps13, Try.results13]
  refine AW_run ?_
  simp
  refine AW_for (fun p : Nat × Int => [(0, .sl (bv bs)), (3, .int .i64 p.2), (4, .int .i64 p.1)]) (fun _ => bl) (fun p => p.1 ≤ bs.length) (fun p => bs.length - p.1) 32 (0, _) (Nat.zero_le _) ⟨rfl, by simp; rfl, Sub.refl _⟩ ?_
  rintro ⟨i, h⟩ hi
  simp only at hi
  refine AW_run ?_
  simp
  refine AW_way0 [(0, .sl (bv bs)), (3, .int .i64 h), (4, .int .i64 i)] _ bl 15 (.bool (decide (i < bs.length) && decide (i < 4000))) ⟨rfl, by simp, Sub.refl _⟩ rfl ?_ ?_
  · simp
    refine ⟨fun h => by rw [decide_eq_true h, Bool.true_and]; exact decide_eq_decide.2 (by omega), fun h1 h2 => by omega⟩
  have w1 : IntKind.i64.wrap ((i : Int) + 1) = i + 1 := i64_in (by omega) (by omega)
  simp [-binV, -intV, binV_msk, binV_addI, binV_mulI]
  refine ⟨fun h1 h2 => ?_, fun h1 => ?_⟩
  · simp [-binV, -intV, binV_msk, binV_addI, binV_mulI, h1, w1]
    rw [loopQ_normal]
    exact ⟨(i + 1, msk (IntKind.i64.wrap (IntKind.i64.wrap (IntKind.i64.wrap (h * 73) + IntKind.i64.wrap bs[i]) + 7)) 1073741823), by simp only; omega, by simp only; omega, rfl, by simp, Sub.refl _⟩
  · intro g hg hb
    rw [retK_ret]
    refine ⟨[_], by simp; rfl, ?_⟩
    exact hK g h hg hb

theorem l32New_cp {bl : Int → Option Blk} {K : V → (Int → Option Blk) → Prop} (bs : List Int) (n : Nat) (hn : bs.length ≤ 1048576) (hb : ∀ x, x ∈ bs → 0 ≤ x ∧ x < 256) (hn2 : n ≤ 1048576)
    (hK : ∀ (g i h : Int), 0 ≤ g → bl g = none → CurOk bs i → K (.loc g 3 0 0) (upd bl g (some (cur bs i h)))) : CallP Try.prog 15 [.sl (bv bs), .int .i64 n] bl K := by
  refine callP_of Try.func15 rfl rfl (by rw [Try.ntmps15]; simp) ?_
  rw [Try.ntmps15, Try.results15]
  refine AW_run ?_
  simp
  refine l01New_cp bs hn fun g h hg0 hg => ?_
  simp
  refine AW_for (fun p : Nat × Int × Int => [(1, .int .i64 n), (5, .loc g 3 0 0), (6, .int .i64 p.1)]) (fun p => upd bl g (some (cur bs p.2.1 p.2.2))) (fun p => p.1 ≤ n ∧ CurOk bs p.2.1) (fun p => n - p.1) 17 (0, 0, h) ⟨Nat.zero_le _, hn, hb, Int.le_refl _, by simp⟩ ⟨rfl, by simp, sub_eq rfl⟩ ?_
  rintro ⟨k, i, h⟩ ⟨hk, hc⟩
  simp only at hk hc
  refine AW_run ?_
  simp
  refine ⟨fun h1 => ?_, fun h1 => ?_⟩
  · refine l01Byte_cp bs i h g hc (by simp) fun x i' h' hx hc' => ?_
    have w1 : IntKind.i64.wrap ((k : Int) + 1) = k + 1 := i64_in (by omega) (by omega)
    simp [w1]
    rw [loopQ_normal]
    exact ⟨(k + 1, i', h'), ⟨by simp only; omega, hc'⟩, by simp only; omega, rfl, by simp, sub_eq (by simp)⟩
  · rw [retK_ret]
    refine ⟨[_], by simp; rfl, ?_⟩
    exact hK g i h hg0 hg hc

theorem MakeNum_cp {bl : Int → Option Blk} {K : V → (Int → Option Blk) → Prop} (bs : List Int) (n : Nat) (hn : bs.length ≤ 1048576) (hb : ∀ x, x ∈ bs → 0 ≤ x ∧ x < 256) (hn2 : n ≤ 1048576)
    (hK : ∀ (x : Int) bl', 0 ≤ x ∧ x ≤ 65535 → Sub bl bl' → K (.int .i64 x) bl') : CallP Try.prog 6 [.sl (bv bs), .int .i64 n] bl K := by
  refine callP_of Try.func6 rfl rfl (by rw [Try.ntmps6]; simp) ?_
  rw [Try.ntmps6, Try.results6]
  refine AW_run ?_
  simp
  refine l32New_cp bs n hn hb hn2 fun g i h hg0 hg hc => ?_
  simp
  refine l01Byte_cp bs i h g hc (by simp) fun x i' h' hx hc' => ?_
  simp
  refine l01Byte_cp bs i' h' g hc' (by simp) fun y i2 h2 hy hc2 => ?_
  have w1 : IntKind.i64.wrap (x * 256) = x * 256 := i64_in (by omega) (by omega)
  have w2 : IntKind.i64.wrap (x * 256 + y) = x * 256 + y := i64_in (by omega) (by omega)
  simp [w1, w2]
  rw [retK_ret]
  refine ⟨[_], by simp; rfl, ?_⟩
  exact hK _ _ (by omega) (by simp [hg])

end Go.Proofs.Ytmbcofnnibpbeaa.Vm

namespace Go.Proofs.Ytmbcofnnibpbeaa.Vm
open Go Go.Proofs
set_option linter.unusedSimpArgs false
set_option linter.unusedVariables false

structure LD where
  k : Nat
  ns : List Int
  i : Int
  h : Int

theorem iv_set46 (ns : List Int) (i : Nat) (x : Int) : (iv ns).set i [.int .i64 x] = iv (ns.set i x) := by simp [iv, List.map_set]
theorem set_in {ns : List Int} {i : Nat} {x : Int} (h : ∀ y, y ∈ ns → -8 ≤ y ∧ y ≤ 8) (hx : -8 ≤ x ∧ x ≤ 8) : ∀ y, y ∈ ns.set i x → -8 ≤ y ∧ y ≤ 8 := by
  intro y hy
  rcases List.mem_or_eq_of_mem_set hy with hy | rfl
  · exact h y hy
  · exact hx
theorem l13Draw_cp {bl : Int → Option Blk} {K : V → (Int → Option Blk) → Prop} (bs : List Int) (i h g : Int) (s : Str) (hj : 1 ≤ s.js.length ∧ s.js.length ≤ 6) (hc : CurOk bs i) (hb : bl g = some (cur bs i h))
    (hK : ∀ (g2 : Int) (ns : List Int) (i' h' : Int) bl', 0 ≤ g2 → bl g2 = none → ns.length = 2 * s.js.length → (∀ x, x ∈ ns → -8 ≤ x ∧ x ≤ 8) → CurOk bs i' → bl' g = some (cur bs i' h') → bl' g2 = some ⟨1, iv ns⟩ → (∀ x y, x ≠ g → bl x = some y → bl' x = some y) → K (.lsl g2 1 0 (2 * s.js.length)) bl') :
    CallP Try.prog 14 [.loc g 3 0 0, .agg s.c] bl K := by
  refine callP_of Try.func14 rfl rfl (by rw [Try.ntmps14]; simp) ?_
  rw [Try.ntmps14, Try.results14]
  refine AW_run ?_
  have w0 : IntKind.i64.wrap (2 * (s.js.length : Int)) = 2 * s.js.length := i64_in (by omega) (by omega)
  simp [Str.c, w0]
  intro gs hgs0 hgs
  refine ⟨2 * s.js.length, by simp, by simp, by omega, by unfold maxLen; omega, fun g2 hg2 h2 => ?_⟩
  have ngs : gs ≠ g := fun e => by rw [e, hb] at hgs; cases hgs
  simp at h2
  obtain ⟨n2s, hb2⟩ := h2
  have n2g : g2 ≠ g := fun e => by rw [e, hb] at hb2; cases hb2
  have er : List.replicate (2 * s.js.length) [V.int IntKind.i64 0] = iv (List.replicate (2 * s.js.length) 0) := by simp [iv]
  simp [n2s, Ne.symm n2s, er]
  refine AW_for (fun p : LD => [(0, .loc g 3 0 0), (3, .loc gs 2 0 0), (5, .lsl g2 1 0 (2 * s.js.length)), (14, .sl (jv s.js)), (15, .int .i64 s.js.length), (16, .int .i64 p.k)]) (fun p => upd (upd (upd bl gs (some ⟨2, [[.sl (jv s.js), .sl (mv s.ms)]]⟩)) g2 (some ⟨1, iv p.ns⟩)) g (some (cur bs p.i p.h)))
    (fun p => p.k ≤ s.js.length ∧ CurOk bs p.i ∧ p.ns.length = 2 * s.js.length ∧ ∀ x, x ∈ p.ns → -8 ≤ x ∧ x ≤ 8) (fun p => s.js.length - p.k) 48 ⟨0, List.replicate (2 * s.js.length) 0, i, h⟩ ⟨Nat.zero_le _, hc, by simp, fun x hx => by simp at hx; omega⟩ ⟨rfl, by simp, fun x y hx => by simp only [upd_apply] at hx ⊢; grind⟩ ?_
  rintro ⟨k, ns, i', h'⟩ ⟨hk, hc', hl, hr⟩
  simp only at hk hc' hl hr
  refine AW_run ?_
  simp
  refine ⟨fun h1 => ?_, fun h1 => ?_⟩
  · simp [h1, J.c]
    intro g7 hg7 h7g h72 h7s hb7
    refine ⟨fun hf => ?_, fun hf => ?_⟩
    · have w2 : IntKind.i64.wrap (2 * (k : Int)) = 2 * k := i64_in (by omega) (by omega)
      have w3 : IntKind.i64.wrap (2 * (k : Int) + 1) = 2 * k + 1 := i64_in (by omega) (by omega)
      have p1 : 0 ≤ 2 * (k : Int) := by omega
      have p2 : 0 ≤ 2 * (k : Int) + 1 := by omega
      have p3 : 2 * (k : Int) < 2 * s.js.length := by omega
      have p4 : 2 * (k : Int) + 1 < 2 * s.js.length := by omega
      have t1 : (2 * (k : Int)).toNat = 2 * k := by omega
      have t2 : (2 * (k : Int) + 1).toNat = 2 * k + 1 := by omega
      refine l01Below_cp bs i' h' g 7 (by omega) hc' (by simp [Ne.symm h7g]) fun x i1 h1' hx hc1 => ?_
      have w4 : IntKind.i64.wrap (x - 3) = x - 3 := i64_in (by omega) (by omega)
      have k1 : 2 * k < ns.length := by omega
      simp [w2, w3, w4, p1, p2, p3, p4, t1, t2, h7g, Ne.symm h7g, h72, Ne.symm h72, n2g, Ne.symm n2g, k1]
      refine ⟨h1, l01Below_cp bs i1 h1' g 9 (by omega) hc1 (by simp [Ne.symm n2g]) fun y i2 h2' hy hc2 => ?_⟩
      have w5 : IntKind.i64.wrap (-y) = -y := i64_in (by omega) (by omega)
      have k2 : 2 * k + 1 < ns.length := by omega
      have w1 : IntKind.i64.wrap ((k : Int) + 1) = k + 1 := i64_in (by omega) (by omega)
      simp [w1, w5, p2, p4, t2, n2g, Ne.symm n2g, k2, iv_set46]
      rw [loopQ_normal]
      refine ⟨⟨k + 1, (ns.set (2 * k) (x - 3)).set (2 * k + 1) (-y), i2, h2'⟩, ⟨by simp only; omega, hc2, by simp [hl], set_in (set_in hr (by omega)) (by omega)⟩, by simp only; omega, rfl, by simp, ?_⟩
      intro u z hx
      simp only [upd_apply] at hx ⊢
      grind
    · have w1 : IntKind.i64.wrap ((k : Int) + 1) = k + 1 := i64_in (by omega) (by omega)
      simp [w1]
      rw [loopQ_normal]
      exact ⟨⟨k + 1, ns, i', h'⟩, ⟨by simp only; omega, hc', hl, hr⟩, by simp only; omega, rfl, by simp, by simp [h7g, h72, h7s, hb7]⟩
  · have n8 : 1 ≤ (8 : Int) ∧ (8 : Int) ≤ 256 := by omega
    refine l01Once_cp bs i' h' g 8 n8 hc' (by simp) fun x i1 h1' hc1 => ?_
    cases x
    · simp
      rw [retK_ret]
      refine ⟨[_], by simp; rfl, ?_⟩
      refine hK g2 ns i1 h1' _ hg2 hb2 hl hr hc1 (by simp) (by simp [n2g]) fun u z hu hz => ?_
      have e1 : u ≠ gs := fun e => by rw [e, hgs] at hz; cases hz
      have e2 : u ≠ g2 := fun e => by rw [e, hb2] at hz; cases hz
      simp [hu, e1, e2, hz]
    · have w6 : IntKind.i64.wrap (2 * (s.js.length : Int) - 1) = 2 * s.js.length - 1 := i64_in (by omega) (by omega)
      have p5 : 0 ≤ 2 * (s.js.length : Int) - 1 := by omega
      have p6 : 2 * (s.js.length : Int) - 1 < 2 * s.js.length := by omega
      have t3 : (2 * (s.js.length : Int) - 1).toNat = 2 * s.js.length - 1 := by omega
      have k3 : 2 * s.js.length - 1 < ns.length := by omega
      simp [w6, p5, p6, t3, n2g, Ne.symm n2g, k3, iv_set46]
      refine ⟨by omega, ?_⟩
      rw [retK_ret]
      refine ⟨[_], by simp; rfl, ?_⟩
      refine hK g2 (ns.set (2 * s.js.length - 1) 4) i1 h1' _ hg2 hb2 (by simp [hl]) (set_in hr (by omega)) hc1 (by simp [Ne.symm n2g]) (by simp) fun u z hu hz => ?_
      have e1 : u ≠ gs := fun e => by rw [e, hgs] at hz; cases hz
      have e2 : u ≠ g2 := fun e => by rw [e, hb2] at hz; cases hz
      simp [hu, e1, e2, hz]

end Go.Proofs.Ytmbcofnnibpbeaa.Vm
