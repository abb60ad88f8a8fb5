/- Rows of the call's own that hold further data of its own. -/
import Derived.Test.YtpkphjoobeacfaaK29
namespace Go.Proofs.Ytpkphjoobeacfaa.Vm
open Go Go.Proofs
set_option linter.unusedSimpArgs false
set_option linter.unusedVariables false

theorem OwnR.keep {bl bl' : Int → Option Blk} {sz : Nat} {d : List (List D)} {v : List (List V)} {gs : List Int} (h : OwnR bl sz d v gs) (hg : ∀ x, x ∈ gs → ∀ b, bl x = some b → bl' x = some b) : OwnR bl' sz d v gs := h.frame fun x hx => by
  obtain ⟨b, hb⟩ := h.has x hx
  rw [hb, hg x hx b hb]
theorem OwnR.not {bl : Int → Option Blk} {sz : Nat} {d : List (List D)} {v : List (List V)} {gs : List Int} (h : OwnR bl sz d v gs) {g : Int} (hg : bl g = none) : g ∉ gs := fun hh => by
  obtain ⟨b, hb⟩ := h.has g hh
  rw [hg] at hb; cases hb

theorem OwnR.snoc {bl : Int → Option Blk} {sz : Nat} {r : List D} {e : List V} {g2 : List Int} (hr : OwnL bl r e g2) (hl : e.length = sz) (ho : e.all V.one = true) : ∀ {rs : List (List D)} {els : List (List V)} {g1 : List Int}, OwnR bl sz rs els g1 → (∀ x, x ∈ g1 → x ∉ g2) → OwnR bl sz (rs ++ [r]) (els ++ [e]) (g1 ++ g2)
  | [], els, g1, h, hd => by
    rw [OwnR] at h
    obtain ⟨rfl, rfl⟩ := h
    show OwnR bl sz [r] [e] g2
    rw [OwnR]
    exact ⟨e, [], g2, [], rfl, by simp, by simp, hl, ho, hr, by rw [OwnR]; exact ⟨rfl, rfl⟩⟩
  | r1 :: rs, els, g1, h, hd => by
    rw [OwnR] at h
    obtain ⟨e1, els', ga, gb, rfl, rfl, h3, h4, h5, h6, h7⟩ := h
    have ih := OwnR.snoc hr hl ho h7 fun x hx => hd x (by simp [hx])
    show OwnR bl sz (r1 :: (rs ++ [r])) (e1 :: (els' ++ [e])) (ga ++ gb ++ g2)
    rw [OwnR]
    refine ⟨e1, els' ++ [e], ga, gb ++ g2, rfl, by simp, fun x hx hx2 => ?_, h4, h5, h6, ih⟩
    rcases List.mem_append.1 hx2 with hx2 | hx2
    · exact h3 x hx hx2
    · exact hd x (by simp [hx]) hx2

theorem OwnR.at {bl : Int → Option Blk} {sz : Nat} : ∀ {rs : List (List D)} {els : List (List V)} {gs : List Int} (i : Nat) (hi : i < rs.length), OwnR bl sz rs els gs →
    ∃ e gi, els[i]? = some e ∧ OwnL bl rs[i] e gi ∧ e.length = sz ∧ e.all V.one = true ∧ (∀ x, x ∈ gi → x ∈ gs) ∧
      ∀ bl' r' e', OwnL bl' r' e' gi → e'.length = sz → e'.all V.one = true → (∀ x, x ∈ gs → x ∉ gi → ∀ y, bl x = some y → bl' x = some y) → OwnR bl' sz (rs.set i r') (els.set i e') gs
  | [], els, gs, i, hi, _ => by simp at hi
  | r :: rs, els, gs, 0, hi, h => by
    rw [OwnR] at h
    obtain ⟨e, els', g1, g2, rfl, rfl, h3, h4, h5, h6, h7⟩ := h
    refine ⟨e, g1, rfl, h6, h4, h5, fun x hx => by simp [hx], fun bl' r' e' a1 a2 a3 a4 => ?_⟩
    show OwnR bl' sz (r' :: rs) (e' :: els') (g1 ++ g2)
    rw [OwnR]
    exact ⟨e', els', g1, g2, rfl, rfl, h3, a2, a3, a1, h7.keep fun x hx b hb => a4 x (by simp [hx]) (fun h => h3 x h hx) b hb⟩
  | r :: rs, els, gs, i + 1, hi, h => by
    rw [OwnR] at h
    obtain ⟨e, els', g1, g2, rfl, rfl, h3, h4, h5, h6, h7⟩ := h
    obtain ⟨e2, gi, b1, b2, b3, b4, b5, b6⟩ := OwnR.at (rs := rs) i (by simpa using hi) h7
    refine ⟨e2, gi, by simpa using b1, by simpa using b2, b3, b4, fun x hx => by simp [b5 x hx], fun bl' r' e' a1 a2 a3 a4 => ?_⟩
    show OwnR bl' sz (r :: rs.set i r') (e :: els'.set i e') (g1 ++ g2)
    rw [OwnR]
    refine ⟨e, els'.set i e', g1, g2, rfl, rfl, h3, h4, h5, h6.keep fun x hx b hb => a4 x (by simp [hx]) (fun h => h3 x hx (b5 x h)) b hb, b6 bl' r' e' a1 a2 a3 fun x hx hn y hy => a4 x (by simp [hx]) hn y hy⟩

/-- A slice that grows over its zeros. -/
theorem grow_get (els : List (List V)) (z : List V) (n : Nat) (h : els.length < n) : (els ++ List.replicate (n - els.length) z)[els.length]? = some z := by
  rw [List.getElem?_append_right (Nat.le_refl _), Nat.sub_self, List.getElem?_replicate, if_pos (by omega)]
theorem grow_set (els : List (List V)) (z x : List V) (n : Nat) (h : els.length < n) : (els ++ List.replicate (n - els.length) z).set els.length x = (els ++ [x]) ++ List.replicate (n - (els ++ [x]).length) z := by
  rw [List.set_append_right _ _ (Nat.le_refl _), Nat.sub_self]
  obtain ⟨m, hm⟩ : ∃ m, n - els.length = m + 1 := ⟨n - els.length - 1, by omega⟩
  have h2 : n - (els ++ [x]).length = m := by simp; omega
  rw [hm, h2, List.replicate_succ]
  simp
theorem grow_set' (els : List (List V)) (z x : List V) (n : Nat) (h : els.length < n) : els ++ (List.replicate (n - els.length) z).set 0 x = (els ++ [x]) ++ List.replicate (n - (els ++ [x]).length) z := by
  rw [← grow_set els z x n h, List.set_append_right _ _ (Nat.le_refl _), Nat.sub_self]
theorem own_single {bl : Int → Option Blk} {d : D} {v : V} {gs : List Int} : OwnL bl [d] [v] gs ↔ OwnD bl d v gs := by
  rw [OwnL]
  constructor
  · rintro ⟨v', vs', g1, g2, h1, rfl, _, h2, h3⟩
    cases h1
    rw [OwnL] at h3
    rw [h3.2, List.append_nil]; exact h2
  · intro h
    exact ⟨v, [], gs, [], rfl, by simp, by simp, h, by rw [OwnL]; exact ⟨rfl, rfl⟩⟩

/-! ### Lists of lists of numbers -/
def ivv (ws : List (List Int)) : List (List V) := ws.map fun w => [.sl (iv w)]
def dII (ws : List (List Int)) : D := .s 1 (ws.map fun w => [fl 1 (iv w)])
@[simp] theorem ivv_length (ws : List (List Int)) : (ivv ws).length = ws.length := by simp [ivv]
@[simp] theorem ivv_getE (ws : List (List Int)) (i : Nat) (h : i < (ivv ws).length) : (ivv ws)[i] = [.sl (iv (ws[i]'(by simpa using h)))] := by simp [ivv]
theorem dII_fz (ws : List (List Int)) : (dII ws).fz = .sl (ivv ws) := by
  unfold dII ivv
  rw [D.fz, fzR_map, List.map_map]
  congr 1
  exact List.map_congr_left fun w _ => by simp
theorem dII_dep (ws : List (List Int)) : (dII ws).dep 2 := by
  unfold dII
  rw [D.dep]
  refine ⟨by omega, ?_⟩
  induction ws with
  | nil => simp [D.depR]
  | cons w ws ih => simp [D.depR, D.depL, fl_dep] at ih ⊢; exact ih
theorem frz_ivv {bl : Int → Option Blk} {ws : List (List Int)} {v : V} {gs : List Int} (h : OwnD bl (dII ws) v gs) (n : Nat) : frz bl (n + 2) v = some (.sl (ivv ws)) := by
  have hd : (dII ws).dep (n + 2) := by
    unfold dII
    rw [D.dep]
    refine ⟨by omega, ?_⟩
    clear h
    induction ws with
    | nil => simp [D.depR]
    | cons w ws ih => simp [D.depR, D.depL, fl_dep] at ih ⊢; exact ih
  rw [h.frz hd, dII_fz]

theorem sub_new' {bl bl' : Int → Option Blk} {g : Int} {b : Option Blk} (hg : bl g = none) (hs : Sub bl bl') : Sub bl (upd bl' g b) := hs.upd hg b
structure Grow where
  els : List (List V)
  gs : List Int
  b : Int → Option Blk

theorem toIntSS_nw (ws : List (List Int)) (hw : ws.length ≤ 1048576) (hws : ∀ w, w ∈ ws → w.length ≤ 1048576) : NW Try.prog 71 [.sl (ivv ws)] (dII ws) := by
  refine nw_of Try.func71 rfl rfl (by rw [Try.ntmps71]; simp) fun bl => ?_
  rw [Try.ntmps71, Try.results71]
  refine AW_run ?_
  simp
  refine ⟨by omega, by unfold maxLen; omega, fun g hg0 hg => ?_⟩
  refine AW_for (fun p : Grow => [(0, .sl (ivv ws)), (3, .lsl g 1 0 ws.length), (4, .int .i64 p.els.length)]) (fun p => p.b)
    (fun p => p.els.length ≤ ws.length ∧ p.b g = some ⟨1, p.els ++ List.replicate (ws.length - p.els.length) [.nils]⟩ ∧ OwnR p.b 1 ((ws.map fun w => [fl 1 (iv w)]).take p.els.length) p.els p.gs ∧ g ∉ p.gs ∧ (∀ x, x ∈ p.gs → bl x = none) ∧ Sub bl p.b)
    (fun p => ws.length - p.els.length) 23 ⟨[], [], upd bl g (some ⟨1, List.replicate ws.length [.nils]⟩)⟩ ⟨Nat.zero_le _, by simp, by simp [OwnR], by simp, by simp, by simp [hg]⟩ ⟨rfl, by simp, by simp⟩ ?_
  rintro ⟨els, gs, b⟩ ⟨hi, hb, ho, hn, hf, hs⟩
  simp only at hi hb ho hn hf hs
  refine AW_run ?_
  simp
  refine ⟨fun h => ?_, fun h => ?_⟩
  · simp [h]
    refine callP_new (toIntS_nw _ (hws _ (List.getElem_mem h))) fun v gv b' o f fr => ?_
    obtain ⟨c1, c2⟩ := o.one
    have hb' : b' g = _ := new_keep f fr hb
    have hgv : g ∉ gv := fun hh => by have := f g hh; rw [hb] at this; cases this
    simp [h, hb', grow_get els [.nils] ws.length h, c1, c2]
    simp (disch := omega) [i64_in, loopQ_normal]
    have gg := grow_set' els [.nils] [v] ws.length h
    refine ⟨⟨els ++ [[v]], gs ++ gv, upd b' g (some ⟨1, (els ++ [[v]]) ++ List.replicate (ws.length - (els ++ [[v]]).length) [.nils]⟩)⟩, ⟨by simp; omega, by simp, ?_, ?_, ?_, ?_⟩, by simp; omega, rfl, by simp, sub_eq ?_⟩
    · have ht : (ws.map fun w => [fl 1 (iv w)]).take (els ++ [[v]]).length = (ws.map fun w => [fl 1 (iv w)]).take els.length ++ [[fl 1 (iv ws[els.length])]] := by
        rw [List.length_append, List.length_singleton, List.take_add_one, List.getElem?_map, List.getElem?_eq_getElem h]; simp
      simp only
      rw [ht]
      refine OwnR.snoc (own_single.2 (o.frame fun x hx => by simp [show x ≠ g from fun e => hgv (e ▸ hx)])) rfl (by simp [c1]) (ho.keep fun x hx y hy => ?_) fun x hx hx2 => ?_
      · rw [upd_apply, if_neg (fun e => hn (by rw [← e]; exact hx))]; exact new_keep f fr hy
      · exact ho.not (f x hx2) hx
    · simp [hn, hgv]
    · intro x hx
      rcases List.mem_append.1 hx with hx | hx
      · exact hf x hx
      · exact fresh_of hs (f x hx)
    · exact sub_new' hg fun x y hy => new_keep f fr (hs x y hy)
    · show upd b' g _ = upd b' g _
      rw [gg]
  · have hl : els.length = ws.length := by omega
    refine retNW [.lsl g 1 0 ws.length] (g :: gs) (by simp) ?_ (by simpa [hg] using hf) hs
    unfold dII
    rw [OwnD]
    refine .inr ⟨g, els, gs, by simp, rfl, hn, ?_, by omega, ?_⟩
    · show b g = _
      rw [hb, hl]; simp
    · rw [hl] at ho
      rw [List.take_of_length_le (by simp)] at ho
      exact ho

end Go.Proofs.Ytpkphjoobeacfaa.Vm
