/- Data in blocks of the call's own, as trees; calls that make such data; calls that borrow. -/
import Derived.Test.YtpkphjoobeacfaaVmS
namespace Go.Proofs.Ytpkphjoobeacfaa.Vm
open Go Go.RowKit
set_option linter.unusedSimpArgs false
set_option linter.unusedVariables false

/-- Data of the call's own: a cell, a slice, a place, a struct, several results. -/
inductive D where
  | c (x : V)
  | s (sz : Nat) (rows : List (List D))
  | p (row : List D)
  | a (cs : List D)
  | t (cs : List D)
  deriving Inhabited

mutual
def OwnD (bl : Int → Option Blk) : D → V → List Int → Prop
  | .c x, v, gs => v = x ∧ x.cl = true ∧ gs = []
  | .s sz rows, v, gs => (rows = [] ∧ v = .nils ∧ gs = []) ∨ ∃ g els gs', v = .lsl g sz 0 rows.length ∧ gs = g :: gs' ∧ g ∉ gs' ∧ bl g = some ⟨sz, els⟩ ∧ (g < 0 → els = []) ∧ OwnR bl sz rows els gs'
  | .p row, v, gs => ∃ g e gs', v = .loc g row.length 0 0 ∧ gs = g :: gs' ∧ g ∉ gs' ∧ 0 ≤ g ∧ bl g = some ⟨row.length, [e]⟩ ∧ OwnL bl row e gs'
  | .a cs, v, gs => ∃ vs, v = .agg vs ∧ OwnL bl cs vs gs
  | .t cs, v, gs => ∃ vs, v = .tup vs ∧ OwnL bl cs vs gs
def OwnL (bl : Int → Option Blk) : List D → List V → List Int → Prop
  | [], vs, gs => vs = [] ∧ gs = []
  | d :: ds, vs, gs => ∃ v vs' g1 g2, vs = v :: vs' ∧ gs = g1 ++ g2 ∧ (∀ g, g ∈ g1 → g ∉ g2) ∧ OwnD bl d v g1 ∧ OwnL bl ds vs' g2
def OwnR (bl : Int → Option Blk) (sz : Nat) : List (List D) → List (List V) → List Int → Prop
  | [], els, gs => els = [] ∧ gs = []
  | r :: rs, els, gs => ∃ e els' g1 g2, els = e :: els' ∧ gs = g1 ++ g2 ∧ (∀ g, g ∈ g1 → g ∉ g2) ∧ e.length = sz ∧ (e.all V.one = true) ∧ OwnL bl r e g1 ∧ OwnR bl sz rs els' g2
end

mutual
def D.fz : D → V
  | .c x => x
  | .s _ rows => .sl (D.fzR rows)
  | .p row => .ptr (D.fzL row)
  | .a cs => .agg (D.fzL cs)
  | .t cs => .tup (D.fzL cs)
def D.fzL : List D → List V
  | [] => []
  | d :: ds => d.fz :: D.fzL ds
def D.fzR : List (List D) → List (List V)
  | [] => []
  | r :: rs => D.fzL r :: D.fzR rs
end
theorem fzL_map : ∀ (ds : List D), D.fzL ds = ds.map D.fz
  | [] => by simp [D.fzL]
  | d :: ds => by simp [D.fzL, fzL_map ds]
theorem fzR_map : ∀ (rs : List (List D)), D.fzR rs = rs.map fun r => r.map D.fz
  | [] => by simp [D.fzR]
  | r :: rs => by simp [D.fzR, fzR_map rs, fzL_map]

/-! ### Only the blocks named matter -/
mutual
theorem OwnD.frame {bl bl' : Int → Option Blk} : ∀ {d : D} {v : V} {gs : List Int}, OwnD bl d v gs → (∀ g, g ∈ gs → bl' g = bl g) → OwnD bl' d v gs
  | .c x, v, gs, h, _ => by rw [OwnD] at h ⊢; exact h
  | .s sz rows, v, gs, h, hg => by
    rw [OwnD] at h ⊢
    rcases h with h | ⟨g, els, gs', h1, h2, h3, h4, h5, h6⟩
    · exact .inl h
    · subst h2
      exact .inr ⟨g, els, gs', h1, rfl, h3, by rw [hg g (by simp)]; exact h4, h5, OwnR.frame h6 fun g' hg' => hg g' (by simp [hg'])⟩
  | .p row, v, gs, h, hg => by
    rw [OwnD] at h ⊢
    obtain ⟨g, e, gs', h1, h2, h3, h0, h4, h5⟩ := h
    subst h2
    exact ⟨g, e, gs', h1, rfl, h3, h0, by rw [hg g (by simp)]; exact h4, OwnL.frame h5 fun g' hg' => hg g' (by simp [hg'])⟩
  | .a cs, v, gs, h, hg => by
    rw [OwnD] at h ⊢
    obtain ⟨vs, h1, h2⟩ := h
    exact ⟨vs, h1, OwnL.frame h2 hg⟩
  | .t cs, v, gs, h, hg => by
    rw [OwnD] at h ⊢
    obtain ⟨vs, h1, h2⟩ := h
    exact ⟨vs, h1, OwnL.frame h2 hg⟩
theorem OwnL.frame {bl bl' : Int → Option Blk} : ∀ {ds : List D} {vs : List V} {gs : List Int}, OwnL bl ds vs gs → (∀ g, g ∈ gs → bl' g = bl g) → OwnL bl' ds vs gs
  | [], vs, gs, h, _ => by rw [OwnL] at h ⊢; exact h
  | d :: ds, vs, gs, h, hg => by
    rw [OwnL] at h ⊢
    obtain ⟨v, vs', g1, g2, h1, h2, h3, h4, h5⟩ := h
    subst h2
    exact ⟨v, vs', g1, g2, h1, rfl, h3, OwnD.frame h4 fun g hgg => hg g (by simp [hgg]), OwnL.frame h5 fun g hgg => hg g (by simp [hgg])⟩
theorem OwnR.frame {bl bl' : Int → Option Blk} {sz : Nat} : ∀ {rs : List (List D)} {els : List (List V)} {gs : List Int}, OwnR bl sz rs els gs → (∀ g, g ∈ gs → bl' g = bl g) → OwnR bl' sz rs els gs
  | [], vs, gs, h, _ => by rw [OwnR] at h ⊢; exact h
  | r :: rs, els, gs, h, hg => by
    rw [OwnR] at h ⊢
    obtain ⟨e, els', g1, g2, h1, h2, h3, h4, h4', h5, h6⟩ := h
    subst h2
    exact ⟨e, els', g1, g2, h1, rfl, h3, h4, h4', OwnL.frame h5 fun g hgg => hg g (by simp [hgg]), OwnR.frame h6 fun g hgg => hg g (by simp [hgg])⟩
end

mutual
theorem OwnD.has {bl : Int → Option Blk} : ∀ {d : D} {v : V} {gs : List Int}, OwnD bl d v gs → ∀ g, g ∈ gs → ∃ b, bl g = some b
  | .c x, v, gs, h, g, hg => by rw [OwnD] at h; rw [h.2.2] at hg; cases hg
  | .s sz rows, v, gs, h, g, hg => by
    rw [OwnD] at h
    rcases h with ⟨_, _, h⟩ | ⟨g0, els, gs', h1, h2, h3, h4, h5, h6⟩
    · rw [h] at hg; cases hg
    · subst h2
      rcases List.mem_cons.1 hg with rfl | hg
      · exact ⟨_, h4⟩
      · exact OwnR.has h6 g hg
  | .p row, v, gs, h, g, hg => by
    rw [OwnD] at h
    obtain ⟨g0, e, gs', h1, h2, h3, h0, h4, h5⟩ := h
    subst h2
    rcases List.mem_cons.1 hg with rfl | hg
    · exact ⟨_, h4⟩
    · exact OwnL.has h5 g hg
  | .a cs, v, gs, h, g, hg => by
    rw [OwnD] at h
    obtain ⟨vs, h1, h2⟩ := h
    exact OwnL.has h2 g hg
  | .t cs, v, gs, h, g, hg => by
    rw [OwnD] at h
    obtain ⟨vs, h1, h2⟩ := h
    exact OwnL.has h2 g hg
theorem OwnL.has {bl : Int → Option Blk} : ∀ {ds : List D} {vs : List V} {gs : List Int}, OwnL bl ds vs gs → ∀ g, g ∈ gs → ∃ b, bl g = some b
  | [], vs, gs, h, g, hg => by rw [OwnL] at h; rw [h.2] at hg; cases hg
  | d :: ds, vs, gs, h, g, hg => by
    rw [OwnL] at h
    obtain ⟨v, vs', g1, g2, h1, h2, h3, h4, h5⟩ := h
    subst h2
    rcases List.mem_append.1 hg with hg | hg
    · exact OwnD.has h4 g hg
    · exact OwnL.has h5 g hg
theorem OwnR.has {bl : Int → Option Blk} {sz : Nat} : ∀ {rs : List (List D)} {els : List (List V)} {gs : List Int}, OwnR bl sz rs els gs → ∀ g, g ∈ gs → ∃ b, bl g = some b
  | [], vs, gs, h, g, hg => by rw [OwnR] at h; rw [h.2] at hg; cases hg
  | r :: rs, els, gs, h, g, hg => by
    rw [OwnR] at h
    obtain ⟨e, els', g1, g2, h1, h2, h3, h4, h4', h5, h6⟩ := h
    subst h2
    rcases List.mem_append.1 hg with hg | hg
    · exact OwnL.has h5 g hg
    · exact OwnR.has h6 g hg
end

theorem OwnD.sub {bl bl' : Int → Option Blk} {d : D} {v : V} {gs : List Int} (h : OwnD bl d v gs) (hs : Sub bl bl') : OwnD bl' d v gs := h.frame fun g hg => by
  obtain ⟨b, hb⟩ := h.has g hg
  rw [hb, hs g b hb]
theorem OwnL.sub {bl bl' : Int → Option Blk} {d : List D} {v : List V} {gs : List Int} (h : OwnL bl d v gs) (hs : Sub bl bl') : OwnL bl' d v gs := h.frame fun g hg => by
  obtain ⟨b, hb⟩ := h.has g hg
  rw [hb, hs g b hb]

theorem OwnL.length {bl : Int → Option Blk} : ∀ {ds : List D} {vs : List V} {gs : List Int}, OwnL bl ds vs gs → vs.length = ds.length
  | [], vs, gs, h => by rw [OwnL] at h; simp [h.1]
  | d :: ds, vs, gs, h => by
    rw [OwnL] at h
    obtain ⟨v, vs', g1, g2, h1, h2, h3, h4, h5⟩ := h
    rw [h1]; simp [OwnL.length h5]
theorem OwnR.length {bl : Int → Option Blk} {sz : Nat} : ∀ {ds : List (List D)} {vs : List (List V)} {gs : List Int}, OwnR bl sz ds vs gs → vs.length = ds.length
  | [], vs, gs, h => by rw [OwnR] at h; simp [h.1]
  | d :: ds, vs, gs, h => by
    rw [OwnR] at h
    obtain ⟨v, vs', g1, g2, h1, h2, h3, h4, h4', h5, h6⟩ := h
    rw [h1]; simp [OwnR.length h6]

/-! ### Freezing -/
theorem frz_cl {bl : Int → Option Blk} {n : Nat} {x : V} (h : x.cl = true) : frz bl n x = some x := by
  cases x <;> first | (simp [V.cl] at h; done) | (unfold frz; rfl)
theorem mapM_cl {bl : Int → Option Blk} {n : Nat} : ∀ {xs : List V}, xs.all V.cl = true → xs.mapM (frz bl n) = some xs
  | [], _ => rfl
  | x :: xs, h => by
    simp only [List.all_cons, Bool.and_eq_true] at h
    rw [List.mapM_cons, frz_cl h.1, mapM_cl h.2]; rfl
theorem mapMM_cl {bl : Int → Option Blk} {n : Nat} : ∀ {xs : List (List V)}, xs.all (fun e => e.all V.cl) = true → xs.mapM (fun e : List V => e.mapM (frz bl n)) = some xs
  | [], _ => rfl
  | x :: xs, h => by
    simp only [List.all_cons, Bool.and_eq_true] at h
    rw [List.mapM_cons, mapM_cl h.1, mapMM_cl h.2]; rfl
theorem frz_agg {bl : Int → Option Blk} {n : Nat} {cs : List V} : frz bl (n + 1) (.agg cs) = (cs.mapM (frz bl n)).map .agg := by
  simp only [frz]
  split
  · rename_i h; rw [mapM_cl h]; rfl
  · rfl
theorem frz_tup {bl : Int → Option Blk} {n : Nat} {cs : List V} : frz bl (n + 1) (.tup cs) = (cs.mapM (frz bl n)).map .tup := by
  simp only [frz]
  split
  · rename_i h; rw [mapM_cl h]; rfl
  · rfl
theorem frz_loc0 {bl : Int → Option Blk} {n sz : Nat} {g : Int} {e : List V} (hb : bl g = some ⟨sz, [e]⟩) : frz bl (n + 1) (.loc g sz 0 0) = (e.mapM (frz bl n)).map .ptr := by
  simp only [frz, hb]
  simp only [if_true, List.getElem?_cons_zero, List.drop_zero]
  split
  · rename_i h; rw [mapM_cl h]; rfl
  · rfl
theorem frz_lsl {bl : Int → Option Blk} {n sz : Nat} {g : Int} {els : List (List V)} (h0 : 0 ≤ g) (hb : bl g = some ⟨sz, els⟩) : frz bl (n + 1) (.lsl g sz 0 els.length) = (els.mapM (fun e : List V => e.mapM (frz bl n))).map .sl := by
  simp only [frz, hb]
  rw [if_neg (by omega), if_pos (by simp)]
  simp only [List.drop_zero, List.take_length]
  split
  · rename_i h; rw [mapMM_cl h]; rfl
  · rfl

mutual
def D.dep : Nat → D → Prop
  | _, .c _ => True
  | n, .s _ rows => 1 ≤ n ∧ D.depR (n - 1) rows
  | n, .p row => 1 ≤ n ∧ D.depL (n - 1) row
  | n, .a cs => 1 ≤ n ∧ D.depL (n - 1) cs
  | n, .t cs => 1 ≤ n ∧ D.depL (n - 1) cs
def D.depL : Nat → List D → Prop
  | _, [] => True
  | n, d :: ds => d.dep n ∧ D.depL n ds
def D.depR : Nat → List (List D) → Prop
  | _, [] => True
  | n, r :: rs => D.depL n r ∧ D.depR n rs
end

mutual
theorem OwnD.frz {bl : Int → Option Blk} : ∀ {d : D} {n : Nat} {v : V} {gs : List Int}, OwnD bl d v gs → d.dep n → Vm.frz bl n v = some d.fz
  | .c x, n, v, gs, h, _ => by rw [OwnD] at h; rw [h.1, frz_cl h.2.1, D.fz]
  | .s sz rows, n, v, gs, h, hn => by
    rw [OwnD] at h; rw [D.dep] at hn; rw [D.fz]
    obtain ⟨n, rfl⟩ : ∃ m, n = m + 1 := ⟨n - 1, by omega⟩
    rw [Nat.add_sub_cancel] at hn
    rcases h with ⟨rfl, rfl, _⟩ | ⟨g0, els, gs', h1, h2, h3, h4, h5, h6⟩
    · simp [Vm.frz, D.fzR]
    · have hl := OwnR.length h6
      rw [h1, ← hl]
      rcases Int.lt_or_le g0 0 with hg | hg
      · have := h5 hg
        subst this
        have : rows = [] := List.eq_nil_of_length_eq_zero (by simpa using hl.symm)
        subst this
        simp [Vm.frz, hg, D.fzR]
      · rw [frz_lsl hg h4, OwnR.frz h6 hn.2]; rfl
  | .p row, n, v, gs, h, hn => by
    rw [OwnD] at h; rw [D.dep] at hn; rw [D.fz]
    obtain ⟨n, rfl⟩ : ∃ m, n = m + 1 := ⟨n - 1, by omega⟩
    rw [Nat.add_sub_cancel] at hn
    obtain ⟨g0, e, gs', h1, h2, h3, h0, h4, h5⟩ := h
    rw [h1, frz_loc0 h4, OwnL.frz h5 hn.2]; rfl
  | .a cs, n, v, gs, h, hn => by
    rw [OwnD] at h; rw [D.dep] at hn; rw [D.fz]
    obtain ⟨n, rfl⟩ : ∃ m, n = m + 1 := ⟨n - 1, by omega⟩
    rw [Nat.add_sub_cancel] at hn
    obtain ⟨vs, h1, h2⟩ := h
    rw [h1, frz_agg, OwnL.frz h2 hn.2]; rfl
  | .t cs, n, v, gs, h, hn => by
    rw [OwnD] at h; rw [D.dep] at hn; rw [D.fz]
    obtain ⟨n, rfl⟩ : ∃ m, n = m + 1 := ⟨n - 1, by omega⟩
    rw [Nat.add_sub_cancel] at hn
    obtain ⟨vs, h1, h2⟩ := h
    rw [h1, frz_tup, OwnL.frz h2 hn.2]; rfl
theorem OwnL.frz {bl : Int → Option Blk} : ∀ {ds : List D} {n : Nat} {vs : List V} {gs : List Int}, OwnL bl ds vs gs → D.depL n ds → vs.mapM (Vm.frz bl n) = some (D.fzL ds)
  | [], n, vs, gs, h, _ => by rw [OwnL] at h; rw [h.1, D.fzL]; rfl
  | d :: ds, n, vs, gs, h, hn => by
    rw [OwnL] at h; rw [D.depL] at hn; rw [D.fzL]
    obtain ⟨v, vs', g1, g2, h1, h2, h3, h4, h5⟩ := h
    rw [h1, List.mapM_cons, OwnD.frz h4 hn.1, OwnL.frz h5 hn.2]; rfl
theorem OwnR.frz {bl : Int → Option Blk} {sz : Nat} : ∀ {rs : List (List D)} {n : Nat} {els : List (List V)} {gs : List Int}, OwnR bl sz rs els gs → D.depR n rs → els.mapM (fun e : List V => e.mapM (Vm.frz bl n)) = some (D.fzR rs)
  | [], n, vs, gs, h, _ => by rw [OwnR] at h; rw [h.1, D.fzR]; rfl
  | r :: rs, n, els, gs, h, hn => by
    rw [OwnR] at h; rw [D.depR] at hn; rw [D.fzR]
    obtain ⟨e, els', g1, g2, h1, h2, h3, h4, h4', h5, h6⟩ := h
    rw [h1, List.mapM_cons, OwnL.frz h5 hn.1, OwnR.frz h6 hn.2]; rfl
end

/-! ### Values that read the same whatever is frozen -/
mutual
def V.ow : V → Bool
  | .bool _ | .int _ _ | .str _ | .nilp | .nils | .sle | .lsl _ _ _ _ | .loc _ _ _ _ => true
  | .agg vs => V.owL vs
  | .tup vs => V.owL vs
  | _ => false
def V.owL : List V → Bool
  | [] => true
  | v :: vs => v.ow && V.owL vs
end
theorem owL_mem : ∀ {vs : List V}, V.owL vs = true → ∀ v, v ∈ vs → v.ow = true
  | [], _, v, hv => by cases hv
  | x :: vs, h, v, hv => by
    rw [V.owL, Bool.and_eq_true] at h
    rcases List.mem_cons.1 hv with rfl | hv
    · exact h.1
    · exact owL_mem h.2 v hv
theorem owL_of : ∀ {vs : List V}, (∀ v, v ∈ vs → v.ow = true) → V.owL vs = true
  | [], _ => by rw [V.owL]
  | x :: vs, h => by
    rw [V.owL, Bool.and_eq_true]
    exact ⟨h x List.mem_cons_self, owL_of fun v hv => h v (List.mem_cons_of_mem _ hv)⟩
section
variable {P : Program} {w0 : World} {M F : Nat → Prop} {w : World} {bl : Int → Option Blk}
theorem rep_ow {G : Nat → Prop} {x : V} {v : Value} (hx : x.ow = true) (h : Rep F w x v) : Rep G w x v := by
  induction h with
  | agg cs arr hlen hr ih => rw [V.ow] at hx; exact .agg cs arr hlen fun i x h => ih i x h (owL_mem hx x (List.mem_of_getElem? h))
  | tup cs arr hlen hr ih => rw [V.ow] at hx; exact .tup cs arr hlen fun i x h => ih i x h (owL_mem hx x (List.mem_of_getElem? h))
  | loc g sz k j => exact .loc g sz k j
  | lsl g sz o n cap hg hle hcap hb => exact .lsl g sz o n cap hg hle hcap hb
  | lsln g sz hg => exact .lsln g sz hg
  | bool b => exact .bool b
  | int k n => exact .int k n
  | str s => exact .str s
  | nilp => exact .nilp
  | nils => exact .nils
  | sle a cap => exact .sle a cap
  | _ => simp [V.ow] at hx

mutual
/-- No address of frozen data anywhere. -/
def D.sc : D → Bool
  | .c x => x.ow
  | .s _ rows => D.scR rows
  | .p row => D.scL row
  | .a cs => D.scL cs
  | .t cs => D.scL cs
def D.scL : List D → Bool
  | [] => true
  | d :: ds => d.sc && D.scL ds
def D.scR : List (List D) → Bool
  | [] => true
  | r :: rs => D.scL r && D.scR rs
end
def owB (bl : Int → Option Blk) (g : Int) : Prop := ∃ sz els, bl g = some ⟨sz, els⟩ ∧ ∀ e, e ∈ els → ∀ x, x ∈ e → x.ow = true

mutual
theorem OwnD.ow : ∀ {d : D} {v : V} {gs : List Int}, OwnD bl d v gs → d.sc = true → v.ow = true ∧ ∀ g, g ∈ gs → owB bl g
  | .c x, v, gs, h, hs => by
    rw [OwnD] at h; rw [D.sc] at hs
    obtain ⟨rfl, h2, rfl⟩ := h
    exact ⟨hs, fun g hg => by cases hg⟩
  | .s sz rows, v, gs, h, hs => by
    rw [OwnD] at h; rw [D.sc] at hs
    rcases h with ⟨rfl, rfl, rfl⟩ | ⟨g0, els, gs', rfl, rfl, h3, h4, h5, h6⟩
    · exact ⟨by rw [V.ow], fun g hg => by cases hg⟩
    · obtain ⟨k1, k2⟩ := OwnR.ow h6 hs
      refine ⟨by rw [V.ow], fun g hg => ?_⟩
      rcases List.mem_cons.1 hg with rfl | hg
      · exact ⟨sz, els, h4, k1⟩
      · exact k2 g hg
  | .p row, v, gs, h, hs => by
    rw [OwnD] at h; rw [D.sc] at hs
    obtain ⟨g0, e, gs', rfl, rfl, h3, h0, h4, h5⟩ := h
    obtain ⟨k1, k3⟩ := OwnL.ow h5 hs
    refine ⟨by rw [V.ow], fun g hg => ?_⟩
    rcases List.mem_cons.1 hg with rfl | hg
    · exact ⟨_, _, h4, fun e' he' => by
        obtain rfl : e' = e := by simpa using he'
        exact k1⟩
    · exact k3 g hg
  | .a cs, v, gs, h, hs => by
    rw [OwnD] at h; rw [D.sc] at hs
    obtain ⟨vs, rfl, h2⟩ := h
    obtain ⟨k1, k3⟩ := OwnL.ow h2 hs
    exact ⟨by rw [V.ow]; exact owL_of k1, k3⟩
  | .t cs, v, gs, h, hs => by
    rw [OwnD] at h; rw [D.sc] at hs
    obtain ⟨vs, rfl, h2⟩ := h
    obtain ⟨k1, k3⟩ := OwnL.ow h2 hs
    exact ⟨by rw [V.ow]; exact owL_of k1, k3⟩
theorem OwnL.ow : ∀ {ds : List D} {vs : List V} {gs : List Int}, OwnL bl ds vs gs → D.scL ds = true → (∀ x, x ∈ vs → x.ow = true) ∧ ∀ g, g ∈ gs → owB bl g
  | [], vs, gs, h, _ => by
    rw [OwnL] at h
    obtain ⟨rfl, rfl⟩ := h
    exact ⟨fun x hx => (by cases hx), fun g hg => by cases hg⟩
  | d :: ds, vs, gs, h, hs => by
    rw [OwnL] at h; rw [D.scL, Bool.and_eq_true] at hs
    obtain ⟨v, vs', g1, g2, rfl, rfl, h3, h4, h5⟩ := h
    obtain ⟨a1, a4⟩ := OwnD.ow h4 hs.1
    obtain ⟨b1, b3⟩ := OwnL.ow h5 hs.2
    refine ⟨fun x hx => ?_, fun g hg => ?_⟩
    · rcases List.mem_cons.1 hx with rfl | hx
      · exact a1
      · exact b1 x hx
    · rcases List.mem_append.1 hg with hg | hg
      · exact a4 g hg
      · exact b3 g hg
theorem OwnR.ow {sz : Nat} : ∀ {rs : List (List D)} {els : List (List V)} {gs : List Int}, OwnR bl sz rs els gs → D.scR rs = true → (∀ e, e ∈ els → ∀ x, x ∈ e → x.ow = true) ∧ ∀ g, g ∈ gs → owB bl g
  | [], vs, gs, h, _ => by
    rw [OwnR] at h
    obtain ⟨rfl, rfl⟩ := h
    exact ⟨fun e he => (by cases he), fun g hg => by cases hg⟩
  | r :: rs, els, gs, h, hs => by
    rw [OwnR] at h; rw [D.scR, Bool.and_eq_true] at hs
    obtain ⟨e, els', g1, g2, rfl, rfl, h3, h4, h4', h5, h6⟩ := h
    obtain ⟨a1, a3⟩ := OwnL.ow h5 hs.1
    obtain ⟨b1, b2⟩ := OwnR.ow h6 hs.2
    refine ⟨fun e' he => ?_, fun g hg => ?_⟩
    · rcases List.mem_cons.1 he with rfl | he
      · exact a1
      · exact b1 e' he
    · rcases List.mem_append.1 hg with hg | hg
      · exact a3 g hg
      · exact b2 g hg
end

/-! ### Calls that make data -/
theorem Mem.sub {bl2 : Int → Option Blk} (h : Mem w0 M F bl w) (hs : Sub bl2 bl) : Mem w0 M F bl2 w := by
  refine ⟨h.os, h.tape, h.output, h.size, h.frame, h.shapes, h.fr, ?_, fun g b hb => h.own g b (hs g b hb), fun g b hb => h.blk g b (hs g b hb)⟩
  obtain ⟨n, hn⟩ := h.fin
  refine ⟨n, fun g hg => ?_⟩
  cases hb : bl2 g with
  | none => rfl
  | some b => have := hs g b hb; rw [hn g hg] at this; cases this

/-- New data d, and nothing else. -/
def Made (bl : Int → Option Blk) (d : D) (v : V) (bl' : Int → Option Blk) : Prop := ∃ gs, OwnD bl' d v gs ∧ (∀ g, g ∈ gs → bl g = none) ∧ ∀ g, g ∉ gs → bl' g = bl g
/-- The function reads its arguments and makes d. -/
def NW (P : Program) (f : FuncId) (xs : List V) (d : D) : Prop := ∀ bl, CallP P f xs bl (Made bl d)
/-- .. but for what is left behind. -/
def MadeK (bl : Int → Option Blk) (d : D) (v : V) (bl' : Int → Option Blk) : Prop := ∃ gs, OwnD bl' d v gs ∧ (∀ g, g ∈ gs → bl g = none) ∧ Sub bl bl'

theorem callP_made {f : FuncId} {xs : List V} {d : D} (h : CallP P f xs bl (MadeK bl d)) : CallP P f xs bl (Made bl d) :=
  ⟨h.1, fun w0 M F w vs hm hr => (h.2 w0 M F w vs hm hr).mono fun e w' ⟨v, x, bl', F', h1, h2, h3, h4, h5, h6, gs, h7, h8, h9⟩ => by
    refine ⟨v, x, fun g => if g ∈ gs then bl' g else bl g, F', h1, h2, h3, h4, h5.sub fun g b hb => ?_, h6, gs, h7.frame fun g hg => by simp [hg], h8, fun g hg => by simp [hg]⟩
    split at hb
    · exact hb
    · exact h9 g b hb⟩

theorem nw_of {f : FuncId} {fn : Func} {c : Code} {xs : List V} {d : D} (hf : P.funcs[f]? = some fn) (hb : fn.body = some c) (hn : (fn.name == "runtime.NumGoroutine") = false) (hl : xs.length ≤ fn.ntmps)
    (h : ∀ bl, AW P c (retK P fn.results.toList (MadeK bl d)) ⟨fn.ntmps, fun t => xs.getD t .junk, bl⟩) : NW P f xs d := fun bl => callP_made (callP_of hf hb hn hl (h bl))

theorem retNW {rs : List ResultVar} {d : D} {σ : St} (vs : List V) (gs : List Int) (h : resV P σ rs = some vs) (ho : OwnD σ.bl d (retV vs) gs) (hf : ∀ g, g ∈ gs → bl g = none) (hs : Sub bl σ.bl) :
    retK P rs (MadeK bl d) .ret σ := by rw [retK_ret]; exact ⟨vs, h, gs, ho, hf, hs⟩

theorem callP_new {f : FuncId} {xs : List V} {d : D} {k : V → (Int → Option Blk) → Prop} (h : NW P f xs d)
    (hk : ∀ v gs bl', OwnD bl' d v gs → (∀ g, g ∈ gs → bl g = none) → (∀ g, g ∉ gs → bl' g = bl g) → k v bl') : CallP P f xs bl k :=
  (h bl).mono fun v bl' ⟨gs, h1, h2, h3⟩ => hk v gs bl' h1 h2 h3

theorem Made.sub {d : D} {v : V} {gs : List Int} {bl' : Int → Option Blk} (h2 : ∀ g, g ∈ gs → bl g = none) (h3 : ∀ g, g ∉ gs → bl' g = bl g) : Sub bl bl' := fun g b hb => by
  rw [h3 g (fun hg => by rw [h2 g hg] at hb; cases hb)]; exact hb

/-- What has been made may be frozen. -/
theorem ro_of_nw {f : FuncId} {xs : List V} {d : D} (n : Nat) (h : NW P f xs d) (hn : d.dep n) : RO P f xs d.fz := fun bl =>
  callP_frz ((h bl).mono fun v bl' ⟨gs, h1, h2, h3⟩ => ⟨n, (OwnD.frame h1 fun g hg => by unfold dropB; rw [h2 g hg]).frz hn, Made.sub (d := d) (v := v) h2 h3⟩) ⟨rfl, rfl⟩

/-- A call that makes plain data may be handed data of the call's own. -/
theorem callP_lend {f : FuncId} {xs ys : List V} {d : D} {k : V → (Int → Option Blk) → Prop} (n : Nat) (hx : frzL bl n xs = some ys) (h : NW P f ys d) (hd : d.sc = true)
    (hk : ∀ v gs bl', OwnD bl' d v gs → (∀ g, g ∈ gs → bl g = none) → (∀ g, g ∉ gs → bl' g = bl g) → k v bl') : CallP P f xs bl k := by
  have h0 := h (fun g => if g < 0 then bl g else none)
  refine ⟨h0.1, fun w0 M F w vs hm hrep => ?_⟩
  have hsub : Sub (fun g => if g < 0 then bl g else none) bl := fun g b hb => by
    simp only at hb; split at hb
    · exact hb
    · cases hb
  have hm1 := hm.start.freeze hsub
  have hown : ∀ g b, bl g = some b → 0 ≤ g → (F g.toNat ∨ Own (dropB bl fun g => if g < 0 then bl g else none) g.toNat) := fun g b hb h0 =>
    .inr ⟨g, b, by unfold dropB; simp only; rw [if_neg (by omega)]; exact hb, h0, rfl⟩
  have hlen := frzL_get hx
  have hreps : Reps (fun k => F k ∨ Own (dropB bl fun g => if g < 0 then bl g else none) k) w ys vs := by
    refine ⟨by rw [hrep.1, hlen.1], fun i y hy => ?_⟩
    obtain ⟨x, h1, h2⟩ := hlen.2 i y hy
    exact frz_sound (fun g b hb => hm.blk g b hb) hown (fun b hb => .inl hb) n x y _ (hrep.2 i x h1) h2
  refine (h0.2 w (Own bl) _ w vs hm1 hreps).mono fun e w' ⟨v, x, bl', F', h1, h2, h3, h4, h5, h6, gs, h7, h8, h9⟩ => ?_
  have hF : ∀ b, F b → w'.heap[b]? = w.heap[b]? := fun b hb => h3 b (.inl hb)
  have hO : ∀ g b, bl g = some b → 0 ≤ g → w'.heap[g.toNat]? = w.heap[g.toNat]? := fun g b hb h0 => h3 _ (hown g b hb h0)
  obtain ⟨k1, k2⟩ := h7.ow hd
  have hnew : ∀ g, g ∈ gs → bl g = none := fun g hg => by
    have h10 := h8 g hg
    simp only at h10
    split at h10
    · exact h10
    · rename_i hg0
      cases hb : bl g with
      | none => rfl
      | some b =>
        obtain ⟨b', hb'⟩ := h7.has g hg
        have := h5.blk g b' hb'
        unfold BlkIn at this
        rw [if_neg hg0] at this
        exact absurd (h2 _ (hown g b hb (by omega))) this.1
  refine ⟨v, x, fun g => if g ∈ gs then bl' g else bl g, F, h1, fun _ h => h, hF, h4, ?_, rep_ow k1 h6, hk x gs _ (h7.frame fun g hg => by simp [hg]) hnew fun g hg => by simp [hg]⟩
  refine hm.step h5.os h5.tape h5.output h5.size h4 (fun k => Own bl k) (fun k hk hX => h5.frame k hk hX) (fun k hk => by obtain ⟨g, b, hb, h0, rfl⟩ := hk; exact hm.own g b hb h0)
    (fun k hk => Nat.lt_of_lt_of_le (hm.fr k hk) h5.size) ?_ fun g b hb => ?_
  · obtain ⟨n1, hn1⟩ := hm.fin
    obtain ⟨n2, hn2⟩ := h5.fin
    refine ⟨min n1 n2, fun g hg => ?_⟩
    split
    · exact hn2 g (by omega)
    · exact hn1 g (by omega)
  · split at hb
    · rename_i hg
      have hB := h5.blk g b hb
      refine ⟨fun h0 => ?_, ?_⟩
      · rcases h5.own g b hb h0 with h11 | ⟨g', b', hb', h0', he⟩
        · exact .inl (Nat.le_trans hm.size h11)
        · have : g' = g := by omega
          subst this
          rw [hnew g' hg] at hb'; cases hb'
      · unfold BlkIn at hB ⊢
        split
        · rename_i hg0; rw [if_pos hg0] at hB; exact hB
        · rename_i hg0
          rw [if_neg hg0] at hB
          obtain ⟨c1, c, t, c2, c3, c4⟩ := hB
          refine ⟨fun hFg => c1 (h2 _ (.inl hFg)), c, t, c2, c3, fun k e he => ⟨(c4 k e he).1, fun j y hy => ?_⟩⟩
          obtain ⟨c5, u, c6, c7⟩ := (c4 k e he).2 j y hy
          obtain ⟨sz, els, c8, c9⟩ := k2 g hg
          rw [hb] at c8
          cases c8
          exact ⟨c5, u, c6, rep_ow (c9 e (List.mem_of_getElem? he) y (List.mem_of_getElem? hy)) c7⟩
    · refine ⟨hm.own g b hb, ?_⟩
      refine (hm.blk g b hb).mono (fun _ h => h) (fun h0 hFg => ?_) hF h4 (fun h0 => hO g b hb h0)
      have := hm.blk g b hb
      unfold BlkIn at this
      rw [if_neg (by omega)] at this
      exact this.1 hFg

/-- Arguments may be told with less. -/
theorem callP_wk {f : FuncId} {xs ys : List V} {k : V → (Int → Option Blk) → Prop} (n : Nat) (hx : frzL (fun _ => none) n xs = some ys) (h : CallP P f ys bl k) : CallP P f xs bl k := by
  refine ⟨h.1, fun w0 M F w vs hm hrep => h.2 w0 M F w vs hm ?_⟩
  have hlen := frzL_get hx
  refine ⟨by rw [hrep.1, hlen.1], fun i y hy => ?_⟩
  obtain ⟨x, h1, h2⟩ := hlen.2 i y hy
  exact frz_sound (bl := fun _ => none) (fun g b hb => by cases hb) (fun g b hb => by cases hb) (fun b hb => hb) n x y _ (hrep.2 i x h1) h2
end

/-! ### More on blocks -/
theorem fresh_of {bl bl' : Int → Option Blk} {g : Int} (hs : Sub bl bl') (h : bl' g = none) : bl g = none := by
  cases hb : bl g with
  | none => rfl
  | some b => have := hs g b hb; rw [h] at this; cases this
@[simp] theorem sub_rem {bl bl' : Int → Option Blk} {g : Int} (h : bl g = none) : Sub bl (rem bl' g) = Sub bl bl' := by
  apply propext
  constructor
  · intro hs g' b' hb
    have := hs g' b' hb
    unfold rem at this
    split at this
    · cases this
    · exact this
  · intro hs; exact hs.rem h
@[simp] theorem rem_apply (f : Int → Option Blk) (g x : Int) : rem f g x = if x = g then none else f x := rfl
theorem sub_same {bl bl' : Int → Option Blk} {g : Int} {b : Option Blk} (hs : Sub bl bl') : Sub (upd bl g b) (upd bl' g b) := fun g' b' hb => by
  rw [upd_apply] at hb ⊢
  split
  · rename_i h; rw [if_pos h] at hb; exact hb
  · rename_i h; rw [if_neg h] at hb; exact hs g' b' hb

theorem sub_put {bl bl' : Int → Option Blk} {g : Int} {sz : Nat} {els els' : List (List V)} (he : els = els') (hs : Sub bl bl') : Sub (upd bl g (some ⟨sz, els⟩)) (upd bl' g (some ⟨sz, els'⟩)) := by
  subst he; exact sub_same hs

/-- One slot is frozen; blocks are given up. -/
theorem AW_frzAt {P : Program} {c : Code} {K : Ex → St → Prop} {σ : St} (n t : Nat) (v : V) (bl2 : Int → Option Blk) (hs : Sub bl2 σ.bl) (hv : frz (dropB σ.bl bl2) n (σ.sl t) = some v) (h : AW P c K ⟨σ.n, upd σ.sl t v, bl2⟩) : AW P c K σ := by
  refine AW_frz n _ bl2 hs (fun t' => ?_) h
  by_cases e : t' = t
  · subst e; right; rw [upd_same]; exact hv
  · left; exact upd_ne _ _ _ _ e

/-- An empty slice is nil or it is not. -/
theorem callP_nilsplit {P : Program} {f : FuncId} {post : List V} {bl : Int → Option Blk} {k : V → (Int → Option Blk) → Prop} (h1 : CallP P f (.nils :: post) bl k) (h2 : CallP P f (.sle :: post) bl k) : CallP P f (.sl [] :: post) bl k := by
  refine ⟨h1.1, fun w0 M F w vs hm hr => ?_⟩
  have key : ∀ v, (∀ w, Rep F w (.sl []) v → Rep F w .nils v ∨ Rep F w .sle v) := by
    intro v w h
    generalize hx : V.sl [] = x at h
    cases h <;> cases hx
    · rename_i a cap ha
      cases a with
      | none => rw [ha rfl]; exact .inl .nils
      | some a => exact .inr (.sle a cap)
    · exact .inr (.sle _ _)
  have h0 := hr.2 0 _ rfl
  have put : ∀ y, Rep F w y (vs.getD 0 undef) → Reps F w (y :: post) vs := fun y hy => ⟨by rw [hr.1]; rfl, fun i x hx => by
    cases i with
    | zero => cases hx; exact hy
    | succ i => exact hr.2 (i + 1) x (by simpa using hx)⟩
  rcases key _ w h0 with h | h
  · exact h1.2 w0 M F w vs hm (put _ h)
  · exact h2.2 w0 M F w vs hm (put _ h)

/-- A nil slice in a block is seen as an empty one of the call's own. -/
theorem AW_ghostCell {P : Program} {c : Code} {K : Ex → St → Prop} {σ : St} {g : Int} {s : Nat} {els : List (List V)} {e : List V} (k j sz : Nat) (hb : σ.bl g = some ⟨s, els⟩) (he : els[k]? = some e) (hj : e[j]? = some .nils)
    (h : ∀ g' : Int, σ.bl g' = none → g' ≠ g → AW P c K ⟨σ.n, σ.sl, upd (upd σ.bl g (some ⟨s, els.set k (e.set j (.lsl g' sz 0 0))⟩)) g' (some ⟨sz, []⟩)⟩) : AW P c K σ := by
  intro w0 M F a w hs
  obtain ⟨g', hg0, hgn, hm⟩ := hs.mem.ghost sz
  have hne : g' ≠ g := fun h => by rw [h, hb] at hgn; cases hgn
  have hB := hs.mem.blk g _ hb
  unfold BlkIn at hB
  have hge : ¬ g < 0 := fun h => by rw [if_pos h] at hB; simp only at hB; rw [hB] at he; cases he
  rw [if_neg hge] at hB
  obtain ⟨h1, cs, t, h2, h3, h4⟩ := hB
  refine h g' hgn hne w0 M F a w ⟨?_, hs.size, hs.sl, hs.defers⟩
  have hkl := (List.getElem?_eq_some_iff.1 he).1
  have hjl := (List.getElem?_eq_some_iff.1 hj).1
  refine ⟨hm.os, hm.tape, hm.output, hm.size, hm.frame, hm.shapes, hm.fr, ?_, fun x b hx h0 => ?_, fun x b hx => ?_⟩
  · obtain ⟨n, hn⟩ := hm.fin
    refine ⟨min n 0, fun x hx => ?_⟩
    have := hn x (by omega)
    show upd _ _ _ x = none
    simp only [upd_apply] at this ⊢
    split
    · rename_i hh; rw [if_pos hh] at this; exact this
    · rename_i hh
      rw [if_neg hh] at this
      rw [if_neg (by omega)]; exact this
  · by_cases hxg : x = g
    · subst hxg; exact hs.mem.own x _ hb h0
    · refine hm.own x b ?_ h0
      simp only [upd_apply] at hx ⊢
      rw [if_neg hxg] at hx
      exact hx
  · by_cases hxg : x = g
    · subst hxg
      simp only [upd_apply] at hx
      rw [if_neg (Ne.symm hne), if_pos trivial] at hx
      cases hx
      unfold BlkIn
      rw [if_neg hge]
      refine ⟨h1, cs, t, h2, by simpa using h3, fun k' e' he' => ?_⟩
      simp only at he' ⊢
      by_cases hkk : k' = k
      · subst hkk
        rw [List.getElem?_set_self hkl] at he'
        cases he'
        obtain ⟨h5, h6⟩ := h4 k' e he
        refine ⟨by rw [List.length_set]; exact h5, fun j' x' hx' => ?_⟩
        by_cases hjj : j' = j
        · subst hjj
          rw [List.getElem?_set_self hjl] at hx'
          cases hx'
          obtain ⟨h7, v, h8, h9⟩ := h6 j' _ hj
          refine ⟨rfl, v, h8, ?_⟩
          cases h9
          exact .lsln g' sz hg0
        · rw [List.getElem?_set_ne (Ne.symm hjj)] at hx'
          exact h6 j' x' hx'
      · rw [List.getElem?_set_ne (Ne.symm hkk)] at he'
        exact h4 k' e' he'
    · refine hm.blk x b ?_
      simp only [upd_apply] at hx ⊢
      rw [if_neg hxg] at hx
      exact hx

/-- Rows of plain cells. -/
def fl (sz : Nat) (rows : List (List V)) : D := .s sz (rows.map fun r => r.map .c)
theorem fzL_c (r : List V) : D.fzL (r.map .c) = r := by
  rw [fzL_map, List.map_map]
  conv => rhs; rw [← List.map_id r]
  exact List.map_congr_left fun x _ => by simp [D.fz]
@[simp] theorem fl_fz (sz : Nat) (rows : List (List V)) : (fl sz rows).fz = .sl rows := by
  unfold fl
  rw [D.fz, fzR_map, List.map_map]
  congr 1
  conv => rhs; rw [← List.map_id rows]
  exact List.map_congr_left fun r _ => by
    show List.map D.fz (r.map .c) = r
    rw [← fzL_map, fzL_c]
theorem depL_c (n : Nat) : ∀ (r : List V), D.depL n (r.map .c)
  | [] => by simp [D.depL]
  | x :: r => by simp [D.depL, D.dep, depL_c n r]
theorem depR_c (n : Nat) : ∀ (rows : List (List V)), D.depR n (rows.map fun r => r.map .c)
  | [] => by simp [D.depR]
  | r :: rs => by simp [D.depR, depL_c, depR_c n rs]
theorem fl_dep (sz : Nat) (rows : List (List V)) (n : Nat) : (fl sz rows).dep (n + 1) := by
  unfold fl
  rw [D.dep]
  exact ⟨by omega, depR_c _ _⟩
theorem scL_c : ∀ (r : List V), r.all V.ow = true → D.scL (r.map .c) = true
  | [], _ => by simp [D.scL]
  | x :: r, h => by
    simp only [List.all_cons, Bool.and_eq_true] at h
    simp [D.scL, D.sc, h.1, scL_c r h.2]
theorem fl_sc {sz : Nat} : ∀ {rows : List (List V)}, rows.all (fun r => r.all V.ow) = true → (fl sz rows).sc = true
  | [], _ => by simp [fl, D.sc, D.scR]
  | r :: rows, h => by
    simp only [List.all_cons, Bool.and_eq_true] at h
    have := fl_sc (sz := sz) h.2
    unfold fl at this ⊢
    rw [D.sc] at this ⊢
    rw [List.map_cons, D.scR, scL_c r h.1, this]; rfl

theorem V.one_of_cl {x : V} (h : x.cl = true) : x.one = true := by cases x <;> first | rfl | (simp [V.cl] at h)
theorem ownL_c {bl : Int → Option Blk} : ∀ {r vs : List V} {gs : List Int}, r.all V.cl = true → (OwnL bl (r.map .c) vs gs ↔ vs = r ∧ gs = [])
  | [], vs, gs, _ => by rw [List.map_nil, OwnL]
  | x :: r, vs, gs, h => by
    simp only [List.all_cons, Bool.and_eq_true] at h
    rw [List.map_cons, OwnL]
    constructor
    · rintro ⟨v, vs', g1, g2, rfl, rfl, _, h1, h2⟩
      rw [OwnD] at h1
      obtain ⟨rfl, _, rfl⟩ := h1
      obtain ⟨rfl, rfl⟩ := (ownL_c h.2).1 h2
      exact ⟨rfl, rfl⟩
    · rintro ⟨rfl, rfl⟩
      exact ⟨x, r, [], [], rfl, rfl, fun g hg => (by cases hg), by rw [OwnD]; exact ⟨rfl, h.1, rfl⟩, (ownL_c h.2).2 ⟨rfl, rfl⟩⟩
theorem ownR_c {bl : Int → Option Blk} {sz : Nat} : ∀ {rows els : List (List V)} {gs : List Int}, rows.all (fun r => r.all V.cl) = true → (∀ r, r ∈ rows → r.length = sz) → (OwnR bl sz (rows.map fun r => r.map .c) els gs ↔ els = rows ∧ gs = [])
  | [], els, gs, _, _ => by rw [List.map_nil, OwnR]
  | r :: rows, els, gs, h, hl => by
    simp only [List.all_cons, Bool.and_eq_true] at h
    rw [List.map_cons, OwnR]
    constructor
    · rintro ⟨e, els', g1, g2, rfl, rfl, _, _, _, h1, h2⟩
      obtain ⟨rfl, rfl⟩ := (ownL_c h.1).1 h1
      obtain ⟨rfl, rfl⟩ := (ownR_c h.2 fun r hr => hl r (List.mem_cons_of_mem _ hr)).1 h2
      exact ⟨rfl, rfl⟩
    · rintro ⟨rfl, rfl⟩
      exact ⟨r, rows, [], [], rfl, rfl, fun g hg => (by cases hg), hl r List.mem_cons_self, List.all_eq_true.2 fun x hx => V.one_of_cl (List.all_eq_true.1 h.1 x hx), (ownL_c h.1).2 ⟨rfl, rfl⟩, (ownR_c h.2 fun r hr => hl r (List.mem_cons_of_mem _ hr)).2 ⟨rfl, rfl⟩⟩
/-- A slice of plain rows. -/
theorem own_fl {bl : Int → Option Blk} {sz : Nat} {rows : List (List V)} {v : V} {gs : List Int} (h : rows.all (fun r => r.all V.cl) = true) (hl : ∀ r, r ∈ rows → r.length = sz) :
    OwnD bl (fl sz rows) v gs ↔ (rows = [] ∧ v = .nils ∧ gs = []) ∨ ∃ g, v = .lsl g sz 0 rows.length ∧ gs = [g] ∧ bl g = some ⟨sz, rows⟩ ∧ (g < 0 → rows = []) := by
  unfold fl
  rw [OwnD]
  constructor
  · rintro (⟨h1, h2, h3⟩ | ⟨g, els, gs', h1, h2, h3, h4, h5, h6⟩)
    · exact .inl ⟨by simpa using h1, h2, h3⟩
    · obtain ⟨rfl, rfl⟩ := (ownR_c h hl).1 h6
      exact .inr ⟨g, by simpa using h1, h2, h4, h5⟩
  · rintro (⟨h1, h2, h3⟩ | ⟨g, h1, h2, h4, h5⟩)
    · exact .inl ⟨by simpa using h1, h2, h3⟩
    · exact .inr ⟨g, rows, [], by simpa using h1, h2, by simp, h4, h5, (ownR_c h hl).2 ⟨rfl, rfl⟩⟩
end Go.Proofs.Ytpkphjoobeacfaa.Vm
