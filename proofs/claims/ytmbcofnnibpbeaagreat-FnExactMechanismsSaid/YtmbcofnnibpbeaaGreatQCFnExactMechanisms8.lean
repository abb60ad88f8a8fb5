/- Matrices handed back. -/



import Derived.Test.YtmbcofnnibpbeaaGreatQCFnExactMechanisms7

namespace Go.Proofs.YtmbcofnnibpbeaaGreat.Vm
open Go Go.Proofs
set_option linter.unusedSimpArgs false
set_option linter.unusedVariables false

theorem OwnR.append {bl : Int → Option Blk} {sz : Nat} {rs2 : List (List D)} {e2 : List (List V)} {g2 : List Int} (h2 : OwnR bl sz rs2 e2 g2) : ∀ {rs : List (List D)} {els : List (List V)} {g1 : List Int}, OwnR bl sz rs els g1 → (∀ x, x ∈ g1 → x ∉ g2) → OwnR bl sz (rs ++ rs2) (els ++ e2) (g1 ++ g2)
  | [], els, g1, h, hd => by
    rw [OwnR] at h
    obtain ⟨rfl, rfl⟩ := h
    exact h2
  | r :: rs, els, g1, h, hd => by
    rw [OwnR] at h
    obtain ⟨e, els', ga, gb, rfl, rfl, h3, h4, h5, h6, h7⟩ := h
    have ih := OwnR.append h2 h7 fun x hx => hd x (List.mem_append_right _ hx)
    show OwnR bl sz (r :: (rs ++ rs2)) (e :: (els' ++ e2)) (ga ++ gb ++ g2)
    rw [OwnR]
    refine ⟨e, els' ++ e2, ga, gb ++ g2, rfl, by simp, fun x hx hx2 => ?_, h4, h5, h6, ih⟩
    rcases List.mem_append.1 hx2 with hx2 | hx2
    · exact h3 x hx hx2
    · exact hd x (List.mem_append_left _ hx) hx2

structure MX where
  r : Int
  c : Int
  cells : List RT
def MX.c3 (m : MX) : List V := [.int .i64 m.r, .int .i64 m.c, .sl (rv m.cells)]
def dMx (m : MX) : List D := [.c (.int .i64 m.r), .c (.int .i64 m.c), dRs m.cells]
theorem own_mx {bl : Int → Option Blk} {m : MX} {vs : List V} {gs : List Int} : OwnL bl (dMx m) vs gs ↔ ∃ w, vs = [.int .i64 m.r, .int .i64 m.c, w] ∧ OwnD bl (dRs m.cells) w gs := by
  unfold dMx
  constructor
  · intro h
    rw [OwnL] at h
    obtain ⟨v1, vs1, g1, r1, rfl, rfl, _, h1, h⟩ := h
    rw [OwnD] at h1
    obtain ⟨rfl, _, rfl⟩ := h1
    rw [OwnL] at h
    obtain ⟨v2, vs2, g2, r2, rfl, rfl, _, h2, h⟩ := h
    rw [OwnD] at h2
    obtain ⟨rfl, _, rfl⟩ := h2
    obtain ⟨w, rfl⟩ : ∃ w, vs2 = [w] := by
      have := h.length
      match vs2, this with
      | [w], _ => exact ⟨w, rfl⟩
    exact ⟨w, rfl, by simpa using own_single.1 h⟩
  · rintro ⟨w, rfl, h⟩
    exact own_cons (g1 := []) (g2 := gs) (own_int' _) (own_cons (g1 := []) (g2 := gs) (own_int' _) (own_single.2 h) (fun x hx => by cases hx)) (fun x hx => by cases hx)
def stAll (cells : List (List (Option Rat))) : Bool := cells.all allSome
def clMx (r c : Int) (cells : List (List (Option Rat))) : MX := if stAll cells = true then ⟨r, c, (cells.map roAll).flatten⟩ else ⟨0, 0, []⟩
def dMB (m : MX) (b : Bool) : D := .t [.a (dMx m), .c (.bool b)]
theorem own_dMB {bl : Int → Option Blk} {m : MX} {b : Bool} {v : V} {gs : List Int} : OwnD bl (dMB m b) v gs ↔ ∃ w, v = .tup [.agg [.int .i64 m.r, .int .i64 m.c, w], .bool b] ∧ OwnD bl (dRs m.cells) w gs := by
  unfold dMB
  rw [own_two]
  constructor
  · rintro ⟨v, rfl, h⟩
    rw [OwnD] at h
    obtain ⟨vs, rfl, h⟩ := h
    obtain ⟨w, rfl, h'⟩ := own_mx.1 h
    exact ⟨w, rfl, h'⟩
  · rintro ⟨w, rfl, h⟩
    exact ⟨_, rfl, by rw [OwnD]; exact ⟨_, rfl, own_mx.2 ⟨w, rfl, h⟩⟩⟩

def flatTo (cells : List (List (Option Rat))) (i : Nat) : List RT := ((cells.take i).map roAll).flatten
theorem flatTo_zero (cells : List (List (Option Rat))) : flatTo cells 0 = [] := by simp [flatTo]
theorem flatTo_succ (cells : List (List (Option Rat))) (i : Nat) (h : i < cells.length) : flatTo cells (i + 1) = flatTo cells i ++ roAll cells[i] := by
  unfold flatTo
  rw [List.take_add_one, List.getElem?_eq_getElem h, Option.toList_some, List.map_append, List.flatten_append]
  simp
theorem flatTo_all (cells : List (List (Option Rat))) : flatTo cells cells.length = (cells.map roAll).flatten := by unfold flatTo; rw [List.take_length]
theorem flatTo_le (cells : List (List (Option Rat))) (i : Nat) : (flatTo cells i).length ≤ cells.flatten.length := by
  have h : ∀ cs : List (List (Option Rat)), ((cs.map roAll).flatten).length = cs.flatten.length := by
    intro cs
    induction cs with
    | nil => rfl
    | cons w ws ih => rw [List.map_cons, List.flatten_cons, List.flatten_cons, List.length_append, List.length_append, ih, roAll_length]
  unfold flatTo
  rw [h]
  conv => rhs; rw [← List.take_append_drop i cells]
  rw [List.flatten_append, List.length_append]
  omega
theorem closed_nw (r c : Int) (cells : List (List (Option Rat))) (hr : cells.length ≤ 1048576) (hok : ∀ w, w ∈ cells → okL w) (hl : ∀ w, w ∈ cells → w.length ≤ 1048576) (htot : cells.flatten.length ≤ 100000) :
    NW Tryz.prog 46 [.agg [.int .i64 r, .int .i64 c, .sl (gv cells)]] (dMB (clMx r c cells) (stAll cells)) := by
  refine nw_of Tryz.func46 rfl rfl (by rw [Tryz.ntmps46]; simp) fun bl => ?_
  rw [Tryz.ntmps46, Tryz.results46]
  refine AW_runA ?_
  simp
  intro g1 hg1 hb1 g2 hg2 h21 hb2
  refine AW_runA ?_
  simp [h21, Ne.symm h21]
  intro g4 hg4
  intros
  have h42 : ¬ g4 = g2 := by assumption
  have h41 : ¬ g4 = g1 := by assumption
  have hb4 : bl g4 = none := by assumption
  try simp [h21, Ne.symm h21, h42, Ne.symm h42, h41, Ne.symm h41]
  refine AW_ghostCell (g := g4) (s := 3) (els := [[.int .i64 r, .int .i64 c, .nils]]) (e := [.int .i64 r, .int .i64 c, .nils]) 0 2 3 (by simp) rfl rfl fun ga hga hne => ?_
  simp [upd_apply] at hga
  obtain ⟨hga4, hga2, hga1, hbga⟩ : ga ≠ g4 ∧ ga ≠ g2 ∧ ga ≠ g1 ∧ bl ga = none := by grind
  refine AW_run ?_
  simp [h21, Ne.symm h21, h42, Ne.symm h42, h41, Ne.symm h41, hga1, Ne.symm hga1]
  refine AW_for (fun p : GrowG => [(2, .loc g2 3 0 0), (4, .loc g4 3 0 0), (15, .sl (gv cells)), (16, .int .i64 cells.length), (17, .int .i64 p.i)]) (fun p => p.b)
    (fun p => p.i ≤ cells.length ∧ (∀ w, w ∈ cells.take p.i → allSome w = true) ∧ p.els.length = (flatTo cells p.i).length ∧ p.b g2 = some ⟨3, [[.int .i64 0, .int .i64 0, .nils]]⟩ ∧ p.b g4 = some ⟨3, [[.int .i64 r, .int .i64 c, .lsl p.g 3 0 p.els.length]]⟩ ∧ p.b p.g = some ⟨3, p.els⟩ ∧ (p.g < 0 → p.els = []) ∧ OwnR p.b 3 ((flatTo cells p.i).map dR) p.els p.gs ∧ (p.g ∉ p.gs ∧ g2 ∉ p.gs ∧ g4 ∉ p.gs) ∧ (p.g ≠ g2 ∧ p.g ≠ g4) ∧ bl p.g = none ∧ (∀ x, x ∈ p.gs → bl x = none) ∧ Sub bl p.b)
    (fun p => cells.length - p.i) 36 ⟨0, ga, [], [], upd (upd (upd bl g2 (some ⟨3, [[.int .i64 0, .int .i64 0, .nils]]⟩)) g4 (some ⟨3, [[.int .i64 r, .int .i64 c, .lsl ga 3 0 0]]⟩)) ga (some ⟨3, []⟩)⟩
    ⟨Nat.zero_le _, by simp, by simp [flatTo_zero], by simp [Ne.symm hga2, h42, Ne.symm h42], by simp [Ne.symm hga4], by simp, fun _ => rfl, by simp [OwnR, flatTo_zero], by simp, ⟨hga2, hga4⟩, hbga, by simp, by intro z b hz; simp only [upd_apply] at hz ⊢; grind⟩ ⟨rfl, by simp, by intro z b hz; simp only [upd_apply] at hz ⊢; grind⟩ ?_
  rintro ⟨i, g, els, gs, b⟩ ⟨hi, hall, hel, hb2', hb4', hbg, hneg, ho, ⟨n1, n2, n3⟩, ⟨m2, m4⟩, hblg, hfr, hs⟩
  simp only at hi hall hel hb2' hb4' hbg hneg ho n1 n2 n3 m2 m4 hblg hfr hs
  refine AW_run ?_
  simp
  refine ⟨fun h => ?_, fun h => ?_⟩
  · have hw := List.getElem_mem h
    simp [h]
    refine callP_new (stores_nw cells[i] (hok _ hw) (hl _ hw)) fun v gv' b' o f fr => ?_
    obtain ⟨w', rfl, ow, w1, w2⟩ := own_dV o
    have eb2 := new_keep f fr hb2'
    have eb4 := new_keep f fr hb4'
    have ebg := new_keep f fr hbg
    have hs' : Sub bl b' := fun x y hy => new_keep f fr (hs x y hy)
    have ho' := ho.keep (bl' := b') fun x _ y hy => new_keep f fr hy
    have hfr' : ∀ x, x ∈ gv' → bl x = none := fun x hx => fresh_of hs (f x hx)
    have k1 : g ∉ gv' := fun hh => by have := f _ hh; rw [hbg] at this; cases this
    have k2 : g2 ∉ gv' := fun hh => by have := f _ hh; rw [hb2'] at this; cases this
    have k4 : g4 ∉ gv' := fun hh => by have := f _ hh; rw [hb4'] at this; cases this
    have kd : ∀ x, x ∈ gs → x ∉ gv' := fun x hx hh => ho.not (f x hh) hx
    cases ha : allSome cells[i]
    · have hno : stAll cells = false := by
        unfold stAll; rw [List.all_eq_false]; exact ⟨_, hw, by simp [ha]⟩
      have hcl : clMx r c cells = ⟨0, 0, []⟩ := by unfold clMx; rw [hno]; rfl
      simp [eb2, w1, w2]
      rw [hno, hcl]
      refine retNW [.agg [.int .i64 0, .int .i64 0, .nils], .bool false] [] (by simp) (own_dMB.2 ⟨.nils, rfl, own_rs.2 (.inl ⟨rfl, rfl, rfl⟩)⟩) (by simp) (hs'.upd hb2 _)
    · have hst : stQ cells[i] = roAll cells[i] := by unfold stQ; rw [ha]; rfl
      rw [hst] at ow
      have htk := flatTo_succ cells i h
      have hfl := flatTo_le cells (i + 1)
      have hall2 : ∀ w, w ∈ cells.take (i + 1) → allSome w = true := fun w hw2 => by
        rw [List.take_add_one, List.getElem?_eq_getElem h] at hw2
        rcases List.mem_append.1 hw2 with hw2 | hw2
        · exact hall w hw2
        · obtain rfl : w = cells[i] := by simpa using hw2
          exact ha
      simp [eb4, w1, w2]
      obtain ⟨els2, gs2, he2, ho2, hin2⟩ : ∃ els2 gs2, elsV b' 3 w' = some els2 ∧ OwnR b' 3 ((roAll cells[i]).map dR) els2 gs2 ∧ ∀ x, x ∈ gs2 → x ∈ gv' := by
        rcases own_rs.1 ow with ⟨h1, rfl, rfl⟩ | ⟨g', els', gs', rfl, rfl, hgn, hbg', hneg', ho2⟩
        · exact ⟨[], [], rfl, by rw [h1]; simp [OwnR], fun x hx => by cases hx⟩
        · refine ⟨els', gs', ?_, ho2, fun x hx => List.mem_cons_of_mem _ hx⟩
          have hll := OwnR.length ho2
          rw [List.length_map] at hll
          simp only [elsV]
          split
          · rename_i hg'; rw [hneg' hg']
          · rw [hbg']
            simp [hll]
            exact List.take_of_length_le (by rw [hll]; simp)
      have hl2 := OwnR.length ho2
      rw [List.length_map] at hl2
      have hlt : els.length + els2.length ≤ 100000 := by
        rw [hel, hl2, ← List.length_append, ← htk]; omega
      simp [appV, he2, ebg]
      refine ⟨by omega, fun g3 hg3 hb3 => ?_⟩
      have h32 : g3 ≠ g2 := fun e => by
        have := hb3 (by rw [e]; exact Ne.symm m2); rw [e, eb2] at this; cases this
      have h34 : g3 ≠ g4 := fun e => by
        have := hb3 (by rw [e]; exact Ne.symm m4); rw [e, eb4] at this; cases this
      have hbl3 : bl g3 = none := by
        by_cases e : g3 = g
        · rw [e]; exact hblg
        · exact fresh_of hs' (hb3 e)
      have h3s : g3 ∉ gs := fun hh => by
        by_cases e : g3 = g
        · exact n1 (e ▸ hh)
        · obtain ⟨y, hy⟩ := ho'.has g3 hh; rw [hb3 e] at hy; cases hy
      have h3v : g3 ∉ gs2 := fun hh => by
        by_cases e : g3 = g
        · exact k1 (e ▸ hin2 _ hh)
        · obtain ⟨y, hy⟩ := ho2.has g3 hh; rw [hb3 e] at hy; cases hy
      have hgs2 : g ∉ gs2 := fun hh => k1 (hin2 _ hh)
      simp [Ne.symm h34, Ne.symm m4, eb4]
      simp (disch := omega) [i64_in, loopQ_normal]
      refine ⟨⟨i + 1, g3, els ++ els2, gs ++ gs2, upd (upd (rem b' g) g3 (some ⟨3, els ++ els2⟩)) g4 (some ⟨3, [[.int .i64 r, .int .i64 c, .lsl g3 3 0 (els ++ els2).length]]⟩)⟩, ⟨by simp only; omega, hall2, by simp only; rw [htk, List.length_append, List.length_append, hel, hl2], ?_, by simp, ?_, ?_, ?_, ?_, ⟨h32, h34⟩, hbl3, ?_, ?_⟩, by simp only; omega, rfl, by simp, ?_⟩
      · simp only [upd_apply, rem_apply]; rw [if_neg (Ne.symm h42), if_neg (Ne.symm h32), if_neg (Ne.symm m2)]; exact eb2
      · simp only [upd_apply]; rw [if_neg h34]; simp
      · intro hn
        simp only at hn
        rcases hg3 with hg3 | hg3
        · omega
        · simpa using hg3
      · simp only
        rw [htk, List.map_append]
        refine OwnR.append (ho2.keep fun x hx y hy => ?_) (ho'.keep fun x hx y hy => ?_) fun x hx hx2 => kd x hx (hin2 x hx2)
        · have e1 : x ≠ g4 := fun e => k4 (e ▸ hin2 x hx)
          have e2 : x ≠ g3 := fun e => h3v (e ▸ hx)
          have e3 : x ≠ g := fun e => hgs2 (e ▸ hx)
          simp only [upd_apply, rem_apply]; rw [if_neg e1, if_neg e2, if_neg e3]; exact hy
        · have e1 : x ≠ g4 := fun e => n3 (e ▸ hx)
          have e2 : x ≠ g3 := fun e => h3s (e ▸ hx)
          have e3 : x ≠ g := fun e => n1 (e ▸ hx)
          simp only [upd_apply, rem_apply]; rw [if_neg e1, if_neg e2, if_neg e3]; exact hy
      · simp only [List.mem_append]
        exact ⟨fun h => h.elim h3s h3v, fun h => h.elim n2 (fun h => k2 (hin2 _ h)), fun h => h.elim n3 (fun h => k4 (hin2 _ h))⟩
      · intro x hx
        rcases List.mem_append.1 hx with hx | hx
        · exact hfr x hx
        · exact hfr' x (hin2 x hx)
      · intro x y hx
        have e1 : x ≠ g4 := fun e => by rw [e, hb4] at hx; cases hx
        have e2 : x ≠ g3 := fun e => by rw [e, hbl3] at hx; cases hx
        have e3 : x ≠ g := fun e => by rw [e, hblg] at hx; cases hx
        simp only [upd_apply, rem_apply]; rw [if_neg e1, if_neg e2, if_neg e3]; exact hs' x y hx
      · exact sub_eq (by simp)
  · have hi2 : i = cells.length := by omega
    subst hi2
    have hyes : stAll cells = true := List.all_eq_true.2 fun w hw => hall w (by rw [List.take_length]; exact hw)
    have hcl : clMx r c cells = ⟨r, c, flatTo cells cells.length⟩ := by unfold clMx; rw [hyes, flatTo_all]; rfl
    simp [hb2', hb4']
    rw [hyes, hcl]
    refine retNW [.agg [.int .i64 r, .int .i64 c, .lsl g 3 0 els.length], .bool true] (g :: gs) (by simp) ?_ (fun x hx => ?_) (hs.upd hb2 _)
    · refine own_dMB.2 ⟨_, rfl, own_rs.2 (.inr ⟨g, els, gs, by rw [hel], rfl, n1, ?_, hneg, ?_⟩)⟩
      · simp only [upd_apply]; rw [if_neg m2]; exact hbg
      · exact ho.frame fun x hx => by simp only [upd_apply]; rw [if_neg (fun e : x = g2 => n2 (e ▸ hx))]
    · rcases List.mem_cons.1 hx with rfl | hx
      · exact hblg
      · exact hfr x hx

end Go.Proofs.YtmbcofnnibpbeaaGreat.Vm

namespace Go.Proofs.YtmbcofnnibpbeaaGreat.Vm
open Go Go.Proofs
set_option linter.unusedSimpArgs false
set_option linter.unusedVariables false

theorem quot_num (a b : Rat) (hb : b.num ≠ 0) : sg (decide (a.num < 0) != decide (b.num < 0)) (a.num.natAbs * b.den) = a.num * (b.num.sign * b.den) := by
  have h1 : b.num.sign.natAbs = 1 := by rw [Int.natAbs_sign]; simp [hb]
  have h2 : (b.num.sign * (b.den : Int)).natAbs = b.den := by rw [Int.natAbs_mul, h1, Nat.one_mul, Int.natAbs_natCast]
  have hd := b.den_pos
  have h3 : decide (b.num.sign * (b.den : Int) < 0) = decide (b.num < 0) := by
    rw [decide_eq_decide]
    constructor
    · intro h
      by_cases h4 : b.num < 0
      · exact h4
      · have : b.num.sign = 1 := Int.sign_eq_one_of_pos (by omega)
        rw [this] at h; omega
    · intro h
      rw [Int.sign_eq_neg_one_of_neg h]; omega
  have := sg_mul a.num (b.num.sign * b.den)
  rw [h2, h3] at this
  exact this
theorem byR_ro (a b : Rat) (hb : b.num ≠ 0) (ha : few 100000 a) (hb2 : few 100000 b) : RO Tryz.prog 201 [.ptr (rq a).c, .ptr (rq b).c] (.ptr (rq (a / b)).c) := by
  obtain ⟨a1, a2⟩ := ha
  obtain ⟨b1, b2⟩ := hb2
  refine ro_of2 Tryz.func201 rfl rfl (by rw [Tryz.ntmps201]; simp) fun bl => ?_
  rw [Tryz.ntmps201, Tryz.results201]
  refine AW_run ?_
  simp
  refine AW_quiet mixedO (by kernel_rfl) ?_
  rw [rqc_def a, rqc_def b]
  simp
  refine hcQ_ro (times_ro _ _ (by omega) (by omega)) ?_
  simp
  refine hcQ_ro (signed_ro _ _) ?_
  rw [show ((decide (a.num < 0)) != (decide (b.num < 0))) = (decide (a.num < 0) != decide (b.num < 0)) from rfl, quot_num a b hb]
  simp
  refine hcQ_ro (times_ro _ _ (by omega) (by omega)) ?_
  simp
  refine hcQ_ro (lowest_ro _ _ (Nat.mul_ne_zero a.den_nz (by omega)) ?_ ?_) ?_
  · rw [← quot_num a b hb, sg_abs]; have := len_mul a1 b2; omega
  · have := len_mul a2 b1; omega
  rw [← div_mk a b hb]
  simp
  exact retRO0 (by simp) rfl rfl
theorem div_ro (x y : Option Rat) (hx : okQ x) (hy : okQ y) (h0 : nm y ≠ 0) : RO Tryz.prog 186 [fv x, fv y] (fv (op2 (· / ·) x y)) := by
  rcases y with _ | b
  · exact absurd rfl h0
  have hb : b.num ≠ 0 := h0
  have hbs : b.num.sign ≠ 0 := fun h => hb (Int.sign_eq_zero_iff_zero.1 h)
  refine ro_of2 Tryz.func186 rfl rfl (by rw [Tryz.ntmps186]; simp) fun bl => ?_
  rw [Tryz.ntmps186, Tryz.results186]
  refine AW_run ?_
  simp
  rcases x with _ | a
  · refine AW_way0 [(0, fv none), (1, fv (some b))] _ bl 15 (.bool true) ⟨rfl, by simp, Sub.refl _⟩ rfl ?_ ?_
    · simp [fv]
    simp
    exact retRO0 (by simp [op2, fv]) rfl rfl
  refine AW_way0 [(0, fv (some a)), (1, fv (some b))] _ bl 15 (.bool false) ⟨rfl, by simp, Sub.refl _⟩ rfl ?_ ?_
  · simp [fv]
    refine callP_ro (Sign_ro b) ?_
    simp [hbs]
  simp [fv]
  refine callP_ro (byR_ro a b hb (few_mono (hx a rfl) (by decide)) (few_mono (hy b rfl) (by decide))) ?_
  simp
  refine callP_ro (fit_ro _) ?_
  simp
  exact retRO0 (by simp [op2]; rfl) rfl fv_frz
theorem l05Div_ro (x y : Option Rat) (hx : okQ x) (hy : okQ y) (h0 : nm y ≠ 0) : RO Tryz.prog 182 [.agg (ro x).c, .agg (ro y).c] (.agg (ro (op2 (· / ·) x y)).c) := by
  obtain ⟨hm, hd⟩ := okQ_len hx
  obtain ⟨hm2, hd2⟩ := okQ_len hy
  have n1 := len_mul hm hd2
  have n2 := len_mul hd hm2
  have e : lowQ (decide (nm x < 0) != decide (nm y < 0)) ((nm x).natAbs * dn y) (dn x * (nm y).natAbs) = op2 (· / ·) x y := by
    unfold lowQ op2
    cases y with
    | none => exact absurd rfl h0
    | some b =>
      have hb : b.num ≠ 0 := h0
      cases x with
      | none => simp [dn]
      | some a =>
        rw [if_neg (show ¬ dn (some a) * (nm (some b)).natAbs = 0 from Nat.mul_ne_zero a.den_nz (by show b.num.natAbs ≠ 0; omega))]
        show fit (mkRat (sg (decide (a.num < 0) != decide (b.num < 0)) (a.num.natAbs * b.den)) (a.den * b.num.natAbs)) = fit (a / b)
        rw [quot_num a b hb, ← div_mk a b hb]
  refine ro_of2 Tryz.func182 rfl rfl (by rw [Tryz.ntmps182]; simp) fun bl => ?_
  rw [Tryz.ntmps182, Tryz.results182]
  refine AW_runA ?_
  rw [ro_c x, ro_c y]
  simp
  intro g hg0 hg g2 hg2 h2g hb2 g3 hg3 h32 h3g hb3
  refine AW_run ?_
  simp
  refine AW_mixedB mixedO (upd (upd bl g (some ⟨3, [[.bool (decide (nm x < 0)), .sl (iv (lim (nm x).natAbs)), .sl (iv (lim (dn x)))]]⟩)) g2 (some ⟨3, [[.bool (decide (nm y < 0)), .sl (iv (lim (nm y).natAbs)), .sl (iv (lim (dn y)))]]⟩)) (by simp [h32, h3g, hb3]) [0, 1, 2, 3, 4, 5, 6, 7, 8, 9, 10, 11, 12, 13, 14, 15, 16, 17, 18, 19] 1 (by kernel_rfl) ?_
  simp [h2g, Ne.symm h2g, h32, Ne.symm h32, h3g, Ne.symm h3g]
  refine hcQ_ro (l02Mul_ro _ _ (by omega) (by omega)) ?_
  simp [h2g, Ne.symm h2g, h32, Ne.symm h32, h3g, Ne.symm h3g]
  refine hcQ_ro (l02Mul_ro _ _ (by omega) (by omega)) ?_
  simp [h2g, Ne.symm h2g, h32, Ne.symm h32, h3g, Ne.symm h3g]
  refine hcQ_ro (l04Low_ro _ _ _ (by omega) (by omega)) ?_
  rw [e]
  simp [h2g, Ne.symm h2g, h32, Ne.symm h32, h3g, Ne.symm h3g]
  refine DAny_one (i := 20) (by kernel_rfl) rfl rfl ?_
  rw [ro_c (op2 _ x y)]
  simp [h2g, Ne.symm h2g, h32, Ne.symm h32, h3g, Ne.symm h3g]
  refine ⟨by simp [h32, h3g, hb3], DAny_done (by kernel_rfl) ?_⟩
  simp [h2g, Ne.symm h2g, h32, Ne.symm h32, h3g, Ne.symm h3g]
  exact retRO [.agg (ro (op2 (· / ·) x y)).c] 1 (by rw [ro_c (op2 _ x y)]; simp [h2g, Ne.symm h2g, h32, Ne.symm h32, h3g, Ne.symm h3g]) (by rw [ro_c (op2 _ x y)]; simp [frz, V.cl]) (by simp [hg, hb2, hb3])
theorem l05Sub_ro (x y : Option Rat) (hx : okQ x) (hy : okQ y) : RO Tryz.prog 199 [.agg (ro x).c, .agg (ro y).c] (.agg (ro (op2 (· - ·) x y)).c) := by
  have c1 := l04Neg_ro y hy
  have c2 := l04Add_ro x (y.map (- ·)) hx (okQ_neg hy)
  have er : op2 (· + ·) x (y.map (- ·)) = op2 (· - ·) x y := by
    cases x with
    | none => rfl
    | some a =>
      cases y with
      | none => rfl
      | some b => unfold op2; simp only [Option.map_some]; rw [Rat.sub_eq_add_neg]
  rw [er] at c2
  clear er
  generalize op2 (· - ·) x y = z at c2 ⊢
  generalize y.map (- ·) = y2 at c1 c2
  rw [ro_c x, ro_c y2, ro_c z] at c2
  rw [ro_c y, ro_c y2] at c1
  refine ro_of2 Tryz.func199 rfl rfl (by rw [Tryz.ntmps199]; simp) fun bl => ?_
  rw [Tryz.ntmps199, Tryz.results199]
  refine AW_runA ?_
  rw [ro_c x, ro_c y, ro_c z]
  simp
  intro g hg0 hg g2 hg2 h2g hb2 g3 hg3 h32 h3g hb3
  refine AW_run ?_
  simp
  refine AW_mixedB mixedO (upd (upd bl g (some ⟨3, [[.bool (decide (nm x < 0)), .sl (iv (lim (nm x).natAbs)), .sl (iv (lim (dn x)))]]⟩)) g2 (some ⟨3, [[.bool (decide (nm y < 0)), .sl (iv (lim (nm y).natAbs)), .sl (iv (lim (dn y)))]]⟩)) (by simp [h32, h3g, hb3]) [0, 1, 2, 3] 1 (by kernel_rfl) ?_
  simp [h2g, Ne.symm h2g, h32, Ne.symm h32, h3g, Ne.symm h3g]
  refine hcQ_ro c1 ?_
  simp [h2g, Ne.symm h2g, h32, Ne.symm h32, h3g, Ne.symm h3g]
  refine hcQ_ro c2 ?_
  simp [h2g, Ne.symm h2g, h32, Ne.symm h32, h3g, Ne.symm h3g]
  refine DAny_one (i := 4) (by kernel_rfl) rfl rfl ?_
  simp [h2g, Ne.symm h2g, h32, Ne.symm h32, h3g, Ne.symm h3g]
  refine ⟨by simp [h32, h3g, hb3], DAny_done (by kernel_rfl) ?_⟩
  simp [h2g, Ne.symm h2g, h32, Ne.symm h32, h3g, Ne.symm h3g]
  exact retRO [.agg [.bool (decide (nm z < 0)), .sl (iv (lim (nm z).natAbs)), .sl (iv (lim (dn z)))]] 1 (by simp [h2g, Ne.symm h2g, h32, Ne.symm h32, h3g, Ne.symm h3g]) (by simp [frz, V.cl]) (by simp [hg, hb2, hb3])
theorem l05Nil_ro (x : Option Rat) : RO Tryz.prog 181 [.agg (ro x).c] (.bool (decide (nm x = 0))) := by
  refine ro_of2 Tryz.func181 rfl rfl (by rw [Tryz.ntmps181]; simp) fun bl => ?_
  rw [Tryz.ntmps181, Tryz.results181]
  refine AW_run ?_
  rw [ro_c x]
  simp
  intro g hg0 hg
  have e : ((lim (nm x).natAbs).length : Int) = 0 ↔ nm x = 0 := by
    rw [show ((lim (nm x).natAbs).length : Int) = 0 ↔ lim (nm x).natAbs = [] by rw [← List.length_eq_zero_iff]; omega, lim_nil]
    omega
  have e2 : (((lim (nm x).natAbs).length : Int) == 0) = decide (nm x = 0) := by
    rw [Bool.eq_iff_iff, beq_iff_eq, decide_eq_true_eq]; exact e
  exact retRO [.bool (decide (nm x = 0))] 0 (by simp [e2]) (by simp [frz]) (by simp [hg])
theorem l06At_ro (m : MX) (i k : Nat) (r c : Nat) (h2 : m.c = c) (hr : r ≤ 100) (hc : c ≤ 100) (hi : i < r) (hk : k < c) (hl : m.cells.length = r * c) (y : RT) (hy : m.cells[i * c + k]? = some y) : RO Tryz.prog 107 [.agg m.c3, .int .i64 i, .int .i64 k] (.agg y.c) := by
  have hlt : i * c + k < r * c := by
    have h1 : (i + 1) * c ≤ r * c := Nat.mul_le_mul_right _ hi
    rw [Nat.add_mul, Nat.one_mul] at h1; omega
  have hm : r * c ≤ 100 * 100 := Nat.mul_le_mul hr hc
  have e0 : (i : Int) * (c : Int) = ((i * c : Nat) : Int) := (Int.natCast_mul i c).symm
  obtain ⟨t, ht⟩ : ∃ t, i * c + k = t := ⟨_, rfl⟩
  have w1 : IntKind.i64.wrap ((i : Int) * (c : Int)) = (i : Int) * (c : Int) := i64_in (by omega) (by omega)
  have w2 : IntKind.i64.wrap ((i : Int) * (c : Int) + (k : Int)) = (t : Int) := by rw [i64_in (by omega) (by omega)]; omega
  rw [ht] at hy
  have e1 : (rv m.cells)[t]? = some y.c := by simp [rv, hy]
  have l3 : y.c.length = 3 := rfl
  have t3 : y.c.take 3 = y.c := rfl
  refine ro_of2 Tryz.func107 rfl rfl (by rw [Tryz.ntmps107]; simp) fun bl => ?_
  rw [Tryz.ntmps107, Tryz.results107]
  refine AW_runA ?_
  simp [MX.c3]
  intro g hg0 hg g6 hg6 h6g hb6
  refine AW_frzAt 1 3 (.ptr m.c3) (upd bl g6 (some ⟨3, [[.bool false, .nils, .nils]]⟩)) (by intro z b hz; simp only [upd_apply, MX.c3] at hz ⊢; grind) (by simp [frz, dropB, hg, h6g, Ne.symm h6g, MX.c3, V.cl]) ?_
  refine AW_run ?_
  simp [MX.c3, h2, w1, w2, e1, l3, t3]
  refine ⟨by simp [RT.c], ?_⟩
  try simp
  exact retRO [.agg y.c] 1 (by simp [RT.c]) (by simp [frz, V.cl, RT.c]) (by simp [hb6])
end Go.Proofs.YtmbcofnnibpbeaaGreat.Vm

namespace Go.Proofs.YtmbcofnnibpbeaaGreat.Vm
open Go Go.Proofs
set_option linter.unusedSimpArgs false
set_option linter.unusedVariables false

theorem frz_copy {bl bl0 : Int → Option Blk} {g h : Int} {ns ms : List Int} {b : Bool} (h0 : 0 ≤ g ∨ ms = []) (h1 : 0 ≤ h ∨ ns = []) (hg : bl0 g = none) (hh : bl0 h = none) (hb : bl g = some ⟨1, iv ms⟩) (hc : bl h = some ⟨1, iv ns⟩) : frz (dropB bl bl0) 2 (.agg [.bool b, .lsl g 1 0 ms.length, .lsl h 1 0 ns.length]) = some (.agg [.bool b, .sl (iv ms), .sl (iv ns)]) := by
  have e1 := frz_any h0 hg hb
  have e2 := frz_any h1 hh hc
  have e3 : frz (dropB bl bl0) 1 (.bool b) = some (.bool b) := by simp [frz]
  rw [frz_agg]
  simp only [List.mapM_cons, List.mapM_nil, e1, e2, e3]
  rfl
theorem l04Copy_ro (r : RT) (hm : r.m.length ≤ 1048576) (hd : r.d.length ≤ 1048576) : RO Tryz.prog 160 [.agg r.c] (.agg r.c) := by
  have hall : ∀ m : List Int, ((iv m).all fun c => c.length == 1 && c.all V.one) = true := fun m => by simp [iv]
  refine ro_of2 Tryz.func160 rfl rfl (by rw [Tryz.ntmps160]; simp) fun bl => ?_
  rw [Tryz.ntmps160, Tryz.results160]
  refine AW_runA ?_
  simp [RT.c]
  intro g1 hg1 hb1 g2 hg2 h21 hb2
  refine AW_frzAt 1 1 (.ptr r.c) (upd bl g2 (some ⟨3, [[.bool false, .nils, .nils]]⟩)) (by intro z b hz; simp only [upd_apply, RT.c] at hz ⊢; grind) (by simp [frz, dropB, hb1, h21, Ne.symm h21, RT.c, V.cl]) ?_
  refine AW_run ?_
  simp
  refine AW_mixedB mixedO bl (by simp [hb2]) [0, 1, 2, 4, 5, 6, 10, 11] 7 (by kernel_rfl) ?_
  simp [RT.c]
  refine DAny_two (i := 3) (j := 9) (by kernel_rfl) rfl rfl rfl rfl ?_ ?_
  · simp []
    intro g3 hg3
    intros
    have n3_2 : ¬ g3 = g2 := by first | assumption | grind
    have b3 : bl g3 = none := by first | assumption | grind
    refine ⟨by intro z b hz; simp only [upd_apply, rem_apply] at hz ⊢; grind, ?_⟩
    refine DAny_two (i := 7) (j := 9) (by kernel_rfl) rfl rfl rfl rfl ?_ ?_
    · simp [n3_2, Ne.symm n3_2, appV, elsV, Int.not_lt.2 hg3, hall]
      refine ⟨by omega, fun g7 hg7 hb7 => ?_⟩
      have n7_2 : ¬ g7 = g2 := by grind
      have b7 : bl g7 = none := by grind
      have z7 : 0 ≤ g7 ∨ r.m = [] := hg7.imp id (fun h => by simpa [iv] using h)
      refine ⟨by intro z b hz; simp only [upd_apply, rem_apply] at hz ⊢; grind, ?_⟩
      refine DAny_two (i := 8) (j := 9) (by kernel_rfl) rfl rfl rfl rfl ?_ ?_
      · simp [n3_2, Ne.symm n3_2, n7_2, Ne.symm n7_2]
        refine ⟨by intro z b hz; simp only [upd_apply, rem_apply] at hz ⊢; grind, ?_⟩
        refine DAny_one (i := 9) (by kernel_rfl) rfl rfl ?_
        simp [n3_2, Ne.symm n3_2, n7_2, Ne.symm n7_2]
        intro g9 hg9
        intros
        have n9_2 : ¬ g9 = g2 := by first | assumption | grind
        have n9_7 : ¬ g9 = g7 := by first | assumption | grind
        have b9 : bl g9 = none := by first | assumption | grind
        refine ⟨by intro z b hz; simp only [upd_apply, rem_apply] at hz ⊢; grind, ?_⟩
        refine DAny_one (i := 12) (by kernel_rfl) rfl rfl ?_
        simp [n3_2, Ne.symm n3_2, n7_2, Ne.symm n7_2, n9_2, Ne.symm n9_2, n9_7, Ne.symm n9_7, appV, elsV, Int.not_lt.2 hg9, hall]
        refine ⟨by omega, fun g12 hg12 hb12 => ?_⟩
        have n12_2 : ¬ g12 = g2 := by grind
        have n12_7 : ¬ g12 = g7 := by grind
        have b12 : bl g12 = none := by grind
        have z12 : 0 ≤ g12 ∨ r.d = [] := hg12.imp id (fun h => by simpa [iv] using h)
        refine ⟨by intro z b hz; simp only [upd_apply, rem_apply] at hz ⊢; grind, ?_⟩
        refine DAny_one (i := 13) (by kernel_rfl) rfl rfl ?_
        simp [n3_2, Ne.symm n3_2, n7_2, Ne.symm n7_2, n9_2, Ne.symm n9_2, n9_7, Ne.symm n9_7, n12_2, Ne.symm n12_2, n12_7, Ne.symm n12_7]
        refine ⟨by intro z b hz; simp only [upd_apply, rem_apply] at hz ⊢; grind, ?_⟩
        refine DAny_one (i := 14) (by kernel_rfl) rfl rfl ?_
        simp [n3_2, Ne.symm n3_2, n7_2, Ne.symm n7_2, n9_2, Ne.symm n9_2, n9_7, Ne.symm n9_7, n12_2, Ne.symm n12_2, n12_7, Ne.symm n12_7]
        refine ⟨by intro z b hz; simp only [upd_apply, rem_apply] at hz ⊢; grind, ?_⟩
        refine DAny_done (by kernel_rfl) ?_
        simp [n3_2, Ne.symm n3_2, n7_2, Ne.symm n7_2, n9_2, Ne.symm n9_2, n9_7, Ne.symm n9_7, n12_2, Ne.symm n12_2, n12_7, Ne.symm n12_7]
        refine retRO [.agg [.bool r.neg, .lsl g7 1 0 r.m.length, .lsl g12 1 0 r.d.length]] 2 (by simp [n3_2, Ne.symm n3_2, n7_2, Ne.symm n7_2, n9_2, Ne.symm n9_2, n9_7, Ne.symm n9_7, n12_2, Ne.symm n12_2, n12_7, Ne.symm n12_7]) (frz_copy z7 z12 b7 b12 ?_ ?_) ?_
        · simp [n3_2, Ne.symm n3_2, n7_2, Ne.symm n7_2, n9_2, Ne.symm n9_2, n9_7, Ne.symm n9_7, n12_2, Ne.symm n12_2, n12_7, Ne.symm n12_7]
        · simp [n3_2, Ne.symm n3_2, n7_2, Ne.symm n7_2, n9_2, Ne.symm n9_2, n9_7, Ne.symm n9_7, n12_2, Ne.symm n12_2, n12_7, Ne.symm n12_7]
        · intro z b hz; simp only [upd_apply, rem_apply] at hz ⊢; grind
      · simp [n3_2, Ne.symm n3_2, n7_2, Ne.symm n7_2]
        intro g9 hg9
        intros
        have n9_2 : ¬ g9 = g2 := by first | assumption | grind
        have n9_7 : ¬ g9 = g7 := by first | assumption | grind
        have b9 : bl g9 = none := by first | assumption | grind
        refine ⟨by intro z b hz; simp only [upd_apply, rem_apply] at hz ⊢; grind, ?_⟩
        refine DAny_two (i := 8) (j := 12) (by kernel_rfl) rfl rfl rfl rfl ?_ ?_
        · simp [n3_2, Ne.symm n3_2, n7_2, Ne.symm n7_2, n9_2, Ne.symm n9_2, n9_7, Ne.symm n9_7]
          refine ⟨by intro z b hz; simp only [upd_apply, rem_apply] at hz ⊢; grind, ?_⟩
          refine DAny_one (i := 12) (by kernel_rfl) rfl rfl ?_
          simp [n3_2, Ne.symm n3_2, n7_2, Ne.symm n7_2, n9_2, Ne.symm n9_2, n9_7, Ne.symm n9_7, appV, elsV, Int.not_lt.2 hg9, hall]
          refine ⟨by omega, fun g12 hg12 hb12 => ?_⟩
          have n12_2 : ¬ g12 = g2 := by grind
          have n12_7 : ¬ g12 = g7 := by grind
          have b12 : bl g12 = none := by grind
          have z12 : 0 ≤ g12 ∨ r.d = [] := hg12.imp id (fun h => by simpa [iv] using h)
          refine ⟨by intro z b hz; simp only [upd_apply, rem_apply] at hz ⊢; grind, ?_⟩
          refine DAny_one (i := 13) (by kernel_rfl) rfl rfl ?_
          simp [n3_2, Ne.symm n3_2, n7_2, Ne.symm n7_2, n9_2, Ne.symm n9_2, n9_7, Ne.symm n9_7, n12_2, Ne.symm n12_2, n12_7, Ne.symm n12_7]
          refine ⟨by intro z b hz; simp only [upd_apply, rem_apply] at hz ⊢; grind, ?_⟩
          refine DAny_one (i := 14) (by kernel_rfl) rfl rfl ?_
          simp [n3_2, Ne.symm n3_2, n7_2, Ne.symm n7_2, n9_2, Ne.symm n9_2, n9_7, Ne.symm n9_7, n12_2, Ne.symm n12_2, n12_7, Ne.symm n12_7]
          refine ⟨by intro z b hz; simp only [upd_apply, rem_apply] at hz ⊢; grind, ?_⟩
          refine DAny_done (by kernel_rfl) ?_
          simp [n3_2, Ne.symm n3_2, n7_2, Ne.symm n7_2, n9_2, Ne.symm n9_2, n9_7, Ne.symm n9_7, n12_2, Ne.symm n12_2, n12_7, Ne.symm n12_7]
          refine retRO [.agg [.bool r.neg, .lsl g7 1 0 r.m.length, .lsl g12 1 0 r.d.length]] 2 (by simp [n3_2, Ne.symm n3_2, n7_2, Ne.symm n7_2, n9_2, Ne.symm n9_2, n9_7, Ne.symm n9_7, n12_2, Ne.symm n12_2, n12_7, Ne.symm n12_7]) (frz_copy z7 z12 b7 b12 ?_ ?_) ?_
          · simp [n3_2, Ne.symm n3_2, n7_2, Ne.symm n7_2, n9_2, Ne.symm n9_2, n9_7, Ne.symm n9_7, n12_2, Ne.symm n12_2, n12_7, Ne.symm n12_7]
          · simp [n3_2, Ne.symm n3_2, n7_2, Ne.symm n7_2, n9_2, Ne.symm n9_2, n9_7, Ne.symm n9_7, n12_2, Ne.symm n12_2, n12_7, Ne.symm n12_7]
          · intro z b hz; simp only [upd_apply, rem_apply] at hz ⊢; grind
        · simp [n3_2, Ne.symm n3_2, n7_2, Ne.symm n7_2, n9_2, Ne.symm n9_2, n9_7, Ne.symm n9_7, appV, elsV, Int.not_lt.2 hg9, hall]
          refine ⟨by omega, fun g12 hg12 hb12 => ?_⟩
          have n12_2 : ¬ g12 = g2 := by grind
          have n12_7 : ¬ g12 = g7 := by grind
          have b12 : bl g12 = none := by grind
          have z12 : 0 ≤ g12 ∨ r.d = [] := hg12.imp id (fun h => by simpa [iv] using h)
          refine ⟨by intro z b hz; simp only [upd_apply, rem_apply] at hz ⊢; grind, ?_⟩
          refine DAny_one (i := 8) (by kernel_rfl) rfl rfl ?_
          simp [n3_2, Ne.symm n3_2, n7_2, Ne.symm n7_2, n9_2, Ne.symm n9_2, n9_7, Ne.symm n9_7, n12_2, Ne.symm n12_2, n12_7, Ne.symm n12_7]
          refine ⟨by intro z b hz; simp only [upd_apply, rem_apply] at hz ⊢; grind, ?_⟩
          refine DAny_one (i := 13) (by kernel_rfl) rfl rfl ?_
          simp [n3_2, Ne.symm n3_2, n7_2, Ne.symm n7_2, n9_2, Ne.symm n9_2, n9_7, Ne.symm n9_7, n12_2, Ne.symm n12_2, n12_7, Ne.symm n12_7]
          refine ⟨by intro z b hz; simp only [upd_apply, rem_apply] at hz ⊢; grind, ?_⟩
          refine DAny_one (i := 14) (by kernel_rfl) rfl rfl ?_
          simp [n3_2, Ne.symm n3_2, n7_2, Ne.symm n7_2, n9_2, Ne.symm n9_2, n9_7, Ne.symm n9_7, n12_2, Ne.symm n12_2, n12_7, Ne.symm n12_7]
          refine ⟨by intro z b hz; simp only [upd_apply, rem_apply] at hz ⊢; grind, ?_⟩
          refine DAny_done (by kernel_rfl) ?_
          simp [n3_2, Ne.symm n3_2, n7_2, Ne.symm n7_2, n9_2, Ne.symm n9_2, n9_7, Ne.symm n9_7, n12_2, Ne.symm n12_2, n12_7, Ne.symm n12_7]
          refine retRO [.agg [.bool r.neg, .lsl g7 1 0 r.m.length, .lsl g12 1 0 r.d.length]] 2 (by simp [n3_2, Ne.symm n3_2, n7_2, Ne.symm n7_2, n9_2, Ne.symm n9_2, n9_7, Ne.symm n9_7, n12_2, Ne.symm n12_2, n12_7, Ne.symm n12_7]) (frz_copy z7 z12 b7 b12 ?_ ?_) ?_
          · simp [n3_2, Ne.symm n3_2, n7_2, Ne.symm n7_2, n9_2, Ne.symm n9_2, n9_7, Ne.symm n9_7, n12_2, Ne.symm n12_2, n12_7, Ne.symm n12_7]
          · simp [n3_2, Ne.symm n3_2, n7_2, Ne.symm n7_2, n9_2, Ne.symm n9_2, n9_7, Ne.symm n9_7, n12_2, Ne.symm n12_2, n12_7, Ne.symm n12_7]
          · intro z b hz; simp only [upd_apply, rem_apply] at hz ⊢; grind
    · simp [n3_2, Ne.symm n3_2]
      intro g9 hg9
      intros
      have n9_2 : ¬ g9 = g2 := by first | assumption | grind
      have n9_3 : ¬ g9 = g3 := by first | assumption | grind
      have b9 : bl g9 = none := by first | assumption | grind
      refine ⟨by intro z b hz; simp only [upd_apply, rem_apply] at hz ⊢; grind, ?_⟩
      refine DAny_one (i := 7) (by kernel_rfl) rfl rfl ?_
      simp [n3_2, Ne.symm n3_2, n9_2, Ne.symm n9_2, n9_3, Ne.symm n9_3, appV, elsV, Int.not_lt.2 hg3, hall]
      refine ⟨by omega, fun g7 hg7 hb7 => ?_⟩
      have n7_2 : ¬ g7 = g2 := by grind
      have n7_9 : ¬ g7 = g9 := by grind
      have b7 : bl g7 = none := by grind
      have z7 : 0 ≤ g7 ∨ r.m = [] := hg7.imp id (fun h => by simpa [iv] using h)
      refine ⟨by intro z b hz; simp only [upd_apply, rem_apply] at hz ⊢; grind, ?_⟩
      refine DAny_two (i := 8) (j := 12) (by kernel_rfl) rfl rfl rfl rfl ?_ ?_
      · simp [n3_2, Ne.symm n3_2, n9_2, Ne.symm n9_2, n9_3, Ne.symm n9_3, n7_2, Ne.symm n7_2, n7_9, Ne.symm n7_9]
        refine ⟨by intro z b hz; simp only [upd_apply, rem_apply] at hz ⊢; grind, ?_⟩
        refine DAny_one (i := 12) (by kernel_rfl) rfl rfl ?_
        simp [n3_2, Ne.symm n3_2, n9_2, Ne.symm n9_2, n9_3, Ne.symm n9_3, n7_2, Ne.symm n7_2, n7_9, Ne.symm n7_9, appV, elsV, Int.not_lt.2 hg9, hall]
        refine ⟨by omega, fun g12 hg12 hb12 => ?_⟩
        have n12_2 : ¬ g12 = g2 := by grind
        have n12_7 : ¬ g12 = g7 := by grind
        have b12 : bl g12 = none := by grind
        have z12 : 0 ≤ g12 ∨ r.d = [] := hg12.imp id (fun h => by simpa [iv] using h)
        refine ⟨by intro z b hz; simp only [upd_apply, rem_apply] at hz ⊢; grind, ?_⟩
        refine DAny_one (i := 13) (by kernel_rfl) rfl rfl ?_
        simp [n3_2, Ne.symm n3_2, n9_2, Ne.symm n9_2, n9_3, Ne.symm n9_3, n7_2, Ne.symm n7_2, n7_9, Ne.symm n7_9, n12_2, Ne.symm n12_2, n12_7, Ne.symm n12_7]
        refine ⟨by intro z b hz; simp only [upd_apply, rem_apply] at hz ⊢; grind, ?_⟩
        refine DAny_one (i := 14) (by kernel_rfl) rfl rfl ?_
        simp [n3_2, Ne.symm n3_2, n9_2, Ne.symm n9_2, n9_3, Ne.symm n9_3, n7_2, Ne.symm n7_2, n7_9, Ne.symm n7_9, n12_2, Ne.symm n12_2, n12_7, Ne.symm n12_7]
        refine ⟨by intro z b hz; simp only [upd_apply, rem_apply] at hz ⊢; grind, ?_⟩
        refine DAny_done (by kernel_rfl) ?_
        simp [n3_2, Ne.symm n3_2, n9_2, Ne.symm n9_2, n9_3, Ne.symm n9_3, n7_2, Ne.symm n7_2, n7_9, Ne.symm n7_9, n12_2, Ne.symm n12_2, n12_7, Ne.symm n12_7]
        refine retRO [.agg [.bool r.neg, .lsl g7 1 0 r.m.length, .lsl g12 1 0 r.d.length]] 2 (by simp [n3_2, Ne.symm n3_2, n9_2, Ne.symm n9_2, n9_3, Ne.symm n9_3, n7_2, Ne.symm n7_2, n7_9, Ne.symm n7_9, n12_2, Ne.symm n12_2, n12_7, Ne.symm n12_7]) (frz_copy z7 z12 b7 b12 ?_ ?_) ?_
        · simp [n3_2, Ne.symm n3_2, n9_2, Ne.symm n9_2, n9_3, Ne.symm n9_3, n7_2, Ne.symm n7_2, n7_9, Ne.symm n7_9, n12_2, Ne.symm n12_2, n12_7, Ne.symm n12_7]
        · simp [n3_2, Ne.symm n3_2, n9_2, Ne.symm n9_2, n9_3, Ne.symm n9_3, n7_2, Ne.symm n7_2, n7_9, Ne.symm n7_9, n12_2, Ne.symm n12_2, n12_7, Ne.symm n12_7]
        · intro z b hz; simp only [upd_apply, rem_apply] at hz ⊢; grind
      · simp [n3_2, Ne.symm n3_2, n9_2, Ne.symm n9_2, n9_3, Ne.symm n9_3, n7_2, Ne.symm n7_2, n7_9, Ne.symm n7_9, appV, elsV, Int.not_lt.2 hg9, hall]
        refine ⟨by omega, fun g12 hg12 hb12 => ?_⟩
        have n12_2 : ¬ g12 = g2 := by grind
        have n12_7 : ¬ g12 = g7 := by grind
        have b12 : bl g12 = none := by grind
        have z12 : 0 ≤ g12 ∨ r.d = [] := hg12.imp id (fun h => by simpa [iv] using h)
        refine ⟨by intro z b hz; simp only [upd_apply, rem_apply] at hz ⊢; grind, ?_⟩
        refine DAny_one (i := 8) (by kernel_rfl) rfl rfl ?_
        simp [n3_2, Ne.symm n3_2, n9_2, Ne.symm n9_2, n9_3, Ne.symm n9_3, n7_2, Ne.symm n7_2, n7_9, Ne.symm n7_9, n12_2, Ne.symm n12_2, n12_7, Ne.symm n12_7]
        refine ⟨by intro z b hz; simp only [upd_apply, rem_apply] at hz ⊢; grind, ?_⟩
        refine DAny_one (i := 13) (by kernel_rfl) rfl rfl ?_
        simp [n3_2, Ne.symm n3_2, n9_2, Ne.symm n9_2, n9_3, Ne.symm n9_3, n7_2, Ne.symm n7_2, n7_9, Ne.symm n7_9, n12_2, Ne.symm n12_2, n12_7, Ne.symm n12_7]
        refine ⟨by intro z b hz; simp only [upd_apply, rem_apply] at hz ⊢; grind, ?_⟩
        refine DAny_one (i := 14) (by kernel_rfl) rfl rfl ?_
        simp [n3_2, Ne.symm n3_2, n9_2, Ne.symm n9_2, n9_3, Ne.symm n9_3, n7_2, Ne.symm n7_2, n7_9, Ne.symm n7_9, n12_2, Ne.symm n12_2, n12_7, Ne.symm n12_7]
        refine ⟨by intro z b hz; simp only [upd_apply, rem_apply] at hz ⊢; grind, ?_⟩
        refine DAny_done (by kernel_rfl) ?_
        simp [n3_2, Ne.symm n3_2, n9_2, Ne.symm n9_2, n9_3, Ne.symm n9_3, n7_2, Ne.symm n7_2, n7_9, Ne.symm n7_9, n12_2, Ne.symm n12_2, n12_7, Ne.symm n12_7]
        refine retRO [.agg [.bool r.neg, .lsl g7 1 0 r.m.length, .lsl g12 1 0 r.d.length]] 2 (by simp [n3_2, Ne.symm n3_2, n9_2, Ne.symm n9_2, n9_3, Ne.symm n9_3, n7_2, Ne.symm n7_2, n7_9, Ne.symm n7_9, n12_2, Ne.symm n12_2, n12_7, Ne.symm n12_7]) (frz_copy z7 z12 b7 b12 ?_ ?_) ?_
        · simp [n3_2, Ne.symm n3_2, n9_2, Ne.symm n9_2, n9_3, Ne.symm n9_3, n7_2, Ne.symm n7_2, n7_9, Ne.symm n7_9, n12_2, Ne.symm n12_2, n12_7, Ne.symm n12_7]
        · simp [n3_2, Ne.symm n3_2, n9_2, Ne.symm n9_2, n9_3, Ne.symm n9_3, n7_2, Ne.symm n7_2, n7_9, Ne.symm n7_9, n12_2, Ne.symm n12_2, n12_7, Ne.symm n12_7]
        · intro z b hz; simp only [upd_apply, rem_apply] at hz ⊢; grind
  · simp []
    intro g9 hg9
    intros
    have n9_2 : ¬ g9 = g2 := by first | assumption | grind
    have b9 : bl g9 = none := by first | assumption | grind
    refine ⟨by intro z b hz; simp only [upd_apply, rem_apply] at hz ⊢; grind, ?_⟩
    refine DAny_one (i := 3) (by kernel_rfl) rfl rfl ?_
    simp [n9_2, Ne.symm n9_2]
    intro g3 hg3
    intros
    have n3_2 : ¬ g3 = g2 := by first | assumption | grind
    have n3_9 : ¬ g3 = g9 := by first | assumption | grind
    have b3 : bl g3 = none := by first | assumption | grind
    refine ⟨by intro z b hz; simp only [upd_apply, rem_apply] at hz ⊢; grind, ?_⟩
    refine DAny_one (i := 7) (by kernel_rfl) rfl rfl ?_
    simp [n9_2, Ne.symm n9_2, n3_2, Ne.symm n3_2, n3_9, Ne.symm n3_9, appV, elsV, Int.not_lt.2 hg3, hall]
    refine ⟨by omega, fun g7 hg7 hb7 => ?_⟩
    have n7_2 : ¬ g7 = g2 := by grind
    have n7_9 : ¬ g7 = g9 := by grind
    have b7 : bl g7 = none := by grind
    have z7 : 0 ≤ g7 ∨ r.m = [] := hg7.imp id (fun h => by simpa [iv] using h)
    refine ⟨by intro z b hz; simp only [upd_apply, rem_apply] at hz ⊢; grind, ?_⟩
    refine DAny_two (i := 8) (j := 12) (by kernel_rfl) rfl rfl rfl rfl ?_ ?_
    · simp [n9_2, Ne.symm n9_2, n3_2, Ne.symm n3_2, n3_9, Ne.symm n3_9, n7_2, Ne.symm n7_2, n7_9, Ne.symm n7_9]
      refine ⟨by intro z b hz; simp only [upd_apply, rem_apply] at hz ⊢; grind, ?_⟩
      refine DAny_one (i := 12) (by kernel_rfl) rfl rfl ?_
      simp [n9_2, Ne.symm n9_2, n3_2, Ne.symm n3_2, n3_9, Ne.symm n3_9, n7_2, Ne.symm n7_2, n7_9, Ne.symm n7_9, appV, elsV, Int.not_lt.2 hg9, hall]
      refine ⟨by omega, fun g12 hg12 hb12 => ?_⟩
      have n12_2 : ¬ g12 = g2 := by grind
      have n12_7 : ¬ g12 = g7 := by grind
      have b12 : bl g12 = none := by grind
      have z12 : 0 ≤ g12 ∨ r.d = [] := hg12.imp id (fun h => by simpa [iv] using h)
      refine ⟨by intro z b hz; simp only [upd_apply, rem_apply] at hz ⊢; grind, ?_⟩
      refine DAny_one (i := 13) (by kernel_rfl) rfl rfl ?_
      simp [n9_2, Ne.symm n9_2, n3_2, Ne.symm n3_2, n3_9, Ne.symm n3_9, n7_2, Ne.symm n7_2, n7_9, Ne.symm n7_9, n12_2, Ne.symm n12_2, n12_7, Ne.symm n12_7]
      refine ⟨by intro z b hz; simp only [upd_apply, rem_apply] at hz ⊢; grind, ?_⟩
      refine DAny_one (i := 14) (by kernel_rfl) rfl rfl ?_
      simp [n9_2, Ne.symm n9_2, n3_2, Ne.symm n3_2, n3_9, Ne.symm n3_9, n7_2, Ne.symm n7_2, n7_9, Ne.symm n7_9, n12_2, Ne.symm n12_2, n12_7, Ne.symm n12_7]
      refine ⟨by intro z b hz; simp only [upd_apply, rem_apply] at hz ⊢; grind, ?_⟩
      refine DAny_done (by kernel_rfl) ?_
      simp [n9_2, Ne.symm n9_2, n3_2, Ne.symm n3_2, n3_9, Ne.symm n3_9, n7_2, Ne.symm n7_2, n7_9, Ne.symm n7_9, n12_2, Ne.symm n12_2, n12_7, Ne.symm n12_7]
      refine retRO [.agg [.bool r.neg, .lsl g7 1 0 r.m.length, .lsl g12 1 0 r.d.length]] 2 (by simp [n9_2, Ne.symm n9_2, n3_2, Ne.symm n3_2, n3_9, Ne.symm n3_9, n7_2, Ne.symm n7_2, n7_9, Ne.symm n7_9, n12_2, Ne.symm n12_2, n12_7, Ne.symm n12_7]) (frz_copy z7 z12 b7 b12 ?_ ?_) ?_
      · simp [n9_2, Ne.symm n9_2, n3_2, Ne.symm n3_2, n3_9, Ne.symm n3_9, n7_2, Ne.symm n7_2, n7_9, Ne.symm n7_9, n12_2, Ne.symm n12_2, n12_7, Ne.symm n12_7]
      · simp [n9_2, Ne.symm n9_2, n3_2, Ne.symm n3_2, n3_9, Ne.symm n3_9, n7_2, Ne.symm n7_2, n7_9, Ne.symm n7_9, n12_2, Ne.symm n12_2, n12_7, Ne.symm n12_7]
      · intro z b hz; simp only [upd_apply, rem_apply] at hz ⊢; grind
    · simp [n9_2, Ne.symm n9_2, n3_2, Ne.symm n3_2, n3_9, Ne.symm n3_9, n7_2, Ne.symm n7_2, n7_9, Ne.symm n7_9, appV, elsV, Int.not_lt.2 hg9, hall]
      refine ⟨by omega, fun g12 hg12 hb12 => ?_⟩
      have n12_2 : ¬ g12 = g2 := by grind
      have n12_7 : ¬ g12 = g7 := by grind
      have b12 : bl g12 = none := by grind
      have z12 : 0 ≤ g12 ∨ r.d = [] := hg12.imp id (fun h => by simpa [iv] using h)
      refine ⟨by intro z b hz; simp only [upd_apply, rem_apply] at hz ⊢; grind, ?_⟩
      refine DAny_one (i := 8) (by kernel_rfl) rfl rfl ?_
      simp [n9_2, Ne.symm n9_2, n3_2, Ne.symm n3_2, n3_9, Ne.symm n3_9, n7_2, Ne.symm n7_2, n7_9, Ne.symm n7_9, n12_2, Ne.symm n12_2, n12_7, Ne.symm n12_7]
      refine ⟨by intro z b hz; simp only [upd_apply, rem_apply] at hz ⊢; grind, ?_⟩
      refine DAny_one (i := 13) (by kernel_rfl) rfl rfl ?_
      simp [n9_2, Ne.symm n9_2, n3_2, Ne.symm n3_2, n3_9, Ne.symm n3_9, n7_2, Ne.symm n7_2, n7_9, Ne.symm n7_9, n12_2, Ne.symm n12_2, n12_7, Ne.symm n12_7]
      refine ⟨by intro z b hz; simp only [upd_apply, rem_apply] at hz ⊢; grind, ?_⟩
      refine DAny_one (i := 14) (by kernel_rfl) rfl rfl ?_
      simp [n9_2, Ne.symm n9_2, n3_2, Ne.symm n3_2, n3_9, Ne.symm n3_9, n7_2, Ne.symm n7_2, n7_9, Ne.symm n7_9, n12_2, Ne.symm n12_2, n12_7, Ne.symm n12_7]
      refine ⟨by intro z b hz; simp only [upd_apply, rem_apply] at hz ⊢; grind, ?_⟩
      refine DAny_done (by kernel_rfl) ?_
      simp [n9_2, Ne.symm n9_2, n3_2, Ne.symm n3_2, n3_9, Ne.symm n3_9, n7_2, Ne.symm n7_2, n7_9, Ne.symm n7_9, n12_2, Ne.symm n12_2, n12_7, Ne.symm n12_7]
      refine retRO [.agg [.bool r.neg, .lsl g7 1 0 r.m.length, .lsl g12 1 0 r.d.length]] 2 (by simp [n9_2, Ne.symm n9_2, n3_2, Ne.symm n3_2, n3_9, Ne.symm n3_9, n7_2, Ne.symm n7_2, n7_9, Ne.symm n7_9, n12_2, Ne.symm n12_2, n12_7, Ne.symm n12_7]) (frz_copy z7 z12 b7 b12 ?_ ?_) ?_
      · simp [n9_2, Ne.symm n9_2, n3_2, Ne.symm n3_2, n3_9, Ne.symm n3_9, n7_2, Ne.symm n7_2, n7_9, Ne.symm n7_9, n12_2, Ne.symm n12_2, n12_7, Ne.symm n12_7]
      · simp [n9_2, Ne.symm n9_2, n3_2, Ne.symm n3_2, n3_9, Ne.symm n3_9, n7_2, Ne.symm n7_2, n7_9, Ne.symm n7_9, n12_2, Ne.symm n12_2, n12_7, Ne.symm n12_7]
      · intro z b hz; simp only [upd_apply, rem_apply] at hz ⊢; grind

end Go.Proofs.YtmbcofnnibpbeaaGreat.Vm

namespace Go.Proofs.YtmbcofnnibpbeaaGreat.Vm
open Go Go.Proofs
set_option linter.unusedSimpArgs false
set_option linter.unusedVariables false

def rowsTo (s : Str) (n : Nat) : List Int := ((frees s.js).take n).flatMap fun j => rowX s j ++ rowY s j
def rowsF (s : Str) : List Int := (frees s.js).flatMap fun j => rowX s j ++ rowY s j
theorem rowsTo_succ (s : Str) (n : Nat) (h : n < (frees s.js).length) : rowsTo s (n + 1) = rowsTo s n ++ rowX s (frees s.js)[n] ++ rowY s (frees s.js)[n] := by
  unfold rowsTo
  rw [List.take_add_one, List.getElem?_eq_getElem h, List.flatMap_append]; simp
theorem rowsTo_length (s : Str) : ∀ n, n ≤ (frees s.js).length → (rowsTo s n).length = 2 * s.ms.length * n
  | 0, _ => by simp [rowsTo]
  | n + 1, h => by
    rw [rowsTo_succ s n (by omega), List.length_append, List.length_append, rowsTo_length s n (by omega), rowX_length, rowY_length, Nat.mul_add]; omega

structure Three where
  i : Nat
  g : Int
  b : Int → Option Blk
def threeInv (bl : Int → Option Blk) (s : Str) (gs : Int) (p : Three) : Prop :=
  p.i ≤ (frees s.js).length ∧ p.g ≠ gs ∧ p.b p.g = some ⟨1, iv (rowsTo s p.i)⟩ ∧ p.b gs = some ⟨2, [[.sl (jv s.js), .sl (mv s.ms)]]⟩ ∧ bl p.g = none ∧ Sub bl p.b ∧ (p.g < 0 → rowsTo s p.i = [])

def xTo (s : Str) (j : Int) (n : Nat) : List Int := (s.ms.take n).map (eqX s j)
def yTo (s : Str) (j : Int) (n : Nat) : List Int := (s.ms.take n).map (eqY s j)
theorem xTo_succ (s : Str) (j : Int) (n : Nat) (h : n < s.ms.length) : xTo s j (n + 1) = xTo s j n ++ [eqX s j s.ms[n]] := by
  unfold xTo; rw [List.take_add_one, List.getElem?_eq_getElem h, List.map_append]; rfl
theorem yTo_succ (s : Str) (j : Int) (n : Nat) (h : n < s.ms.length) : yTo s j (n + 1) = yTo s j n ++ [eqY s j s.ms[n]] := by
  unfold yTo; rw [List.take_add_one, List.getElem?_eq_getElem h, List.map_append]; rfl
theorem xTo_all (s : Str) (j : Int) : xTo s j s.ms.length = rowX s j := by simp [xTo, rowX]
theorem yTo_all (s : Str) (j : Int) : yTo s j s.ms.length = rowY s j := by simp [yTo, rowY]
theorem xTo_length (s : Str) (j : Int) (n : Nat) (h : n ≤ s.ms.length) : (xTo s j n).length = n := by simp [xTo]; omega
theorem yTo_length (s : Str) (j : Int) (n : Nat) (h : n ≤ s.ms.length) : (yTo s j n).length = n := by simp [yTo]; omega

set_option maxHeartbeats 2000000 in
theorem l14Rows_nw (s : Str) (hs : SOk s) : NW Tryz.prog 110 [.agg s.c] (fl 1 (iv (rowsF s))) := by
  have h6 := hs.nj
  have h8 := hs.nm
  have hfr := freesTo_le s.js s.js.length
  change (frees s.js).length ≤ s.js.length at hfr
  refine nw_of Tryz.func110 rfl rfl (by rw [Tryz.ntmps110]; simp) fun bl => ?_
  rw [Tryz.ntmps110, Tryz.results110]
  refine AW_run ?_
  simp [Str.c]
  intro gs hgs0 hgs ga hga0 hgas hbga
  simp [Str.c, hgas, Ne.symm hgas]
  refine callP_ro (l12Free_ro s (by omega)) ?_
  simp
  refine AW_for (fun p : Three => [(1, .loc gs 2 0 0), (3, .lsl p.g 1 0 (2 * s.ms.length * p.i)), (14, .sl (iv (frees s.js))), (15, .int .i64 (frees s.js).length), (16, .int .i64 p.i)]) (fun p => p.b) (threeInv bl s gs) (fun p => (frees s.js).length - p.i) 78
    ⟨0, ga, upd (upd bl gs (some ⟨2, [[.sl (jv s.js), .sl (mv s.ms)]]⟩)) ga (some ⟨1, []⟩)⟩ ⟨Nat.zero_le _, hgas, by simp [rowsTo, iv], by simp [Ne.symm hgas], hbga, by simp [hgs, hbga], fun _ => rfl⟩ ⟨rfl, by simp, sub_eq (by simp [Str.c])⟩ ?_
  rintro ⟨i, g, b⟩ ⟨hi, hgg, hbg, hbs, hg, hsb, h0⟩
  simp only at hi hgg hbg hbs hg hsb h0
  refine AW_run ?_
  simp
  refine ⟨fun h => ?_, fun h => ?_⟩
  · have q := iv_get (frees s.js) i h
    simp [h]
    obtain ⟨j, hj⟩ : ∃ j, (frees s.js)[i] = j := ⟨_, rfl⟩
    rw [hj]
    intro gx hgx0 hbx gy hgy0 hyx hby
    have nxs : gx ≠ gs := fun e => by rw [e, hbs] at hbx; cases hbx
    have nys : gy ≠ gs := fun e => by rw [e, hbs] at hby; cases hby
    have nxg : gx ≠ g := fun e => by rw [e, hbg] at hbx; cases hbx
    have nyg : gy ≠ g := fun e => by rw [e, hbg] at hby; cases hby
    simp [nxs, Ne.symm nxs, nys, Ne.symm nys, hbs]
    refine AW_for (fun p : Two => [(1, .loc gs 2 0 0), (3, .lsl g 1 0 (2 * s.ms.length * i)), (5, .int .i64 j), (6, .lsl p.g 1 0 p.i), (7, .lsl p.h 1 0 p.i), (14, .sl (iv (frees s.js))), (15, .int .i64 (frees s.js).length), (16, .int .i64 i), (23, .sl (mv s.ms)), (24, .int .i64 s.ms.length), (25, .int .i64 p.i)])
      (fun p => p.b) (fun p => twoInv b (xTo s j) (yTo s j) s.ms.length p ∧ 0 ≤ p.g ∧ 0 ≤ p.h) (fun p => s.ms.length - p.i) 78 ⟨0, gx, gy, upd (upd b gx (some ⟨1, []⟩)) gy (some ⟨1, []⟩)⟩ ⟨⟨Nat.zero_le _, Ne.symm hyx, by simp [Ne.symm hyx, xTo, iv], by simp [yTo, iv], hbx, hby, by simp [hbx, hby], fun _ => rfl, fun _ => rfl⟩, hgx0, hgy0⟩ ⟨rfl, by simp, sub_eq (by simp)⟩ ?_
    rintro ⟨k, x, y, c⟩ ⟨⟨hk, hxy, hcx, hcy, hbx', hby', hsc, _, _⟩, hx0, hy0⟩
    simp only at hk hxy hcx hcy hbx' hby' hsc hx0 hy0
    have hcs := hsc _ _ hbs
    have hcg := hsc _ _ hbg
    have fr : ∀ x, c x = none → b x = none := fun x hx => fresh_of hsc hx
    have lx := xTo_length s j k hk
    have ly := yTo_length s j k hk
    have tkx : (iv (xTo s j k)).take k = iv (xTo s j k) := List.take_of_length_le (by simp [lx])
    have tky : (iv (yTo s j k)).take k = iv (yTo s j k) := List.take_of_length_le (by simp [ly])
    refine AW_run ?_
    simp
    refine ⟨fun hkl => ?_, fun hkl => ?_⟩
    · have hv := v_le hs (List.getElem_mem hkl)
      have hm : mat s (k : Int) = s.ms[k] := mat_nat hkl
      have hvec := l12Vector_ro s k hs (by omega) (by omega)
      rw [hm] at hvec
      have w1 : IntKind.i64.wrap ((k : Int) + 1) = k + 1 := i64_in (by omega) (by omega)
      have nx : IntKind.i64.wrap (-vx s s.ms[k]) = -vx s s.ms[k] := i64_in (by omega) (by omega)
      have ny : IntKind.i64.wrap (-vy s s.ms[k]) = -vy s s.ms[k] := i64_in (by omega) (by omega)
      have sx := xTo_succ s j k hkl
      have sy := yTo_succ s j k hkl
      simp [hkl, Mb.c]
      intro g1 hg1 hb1
      have n1s : g1 ≠ gs := fun e => by rw [e, hcs] at hb1; cases hb1
      have n1x : g1 ≠ x := fun e => by rw [e, hcx] at hb1; cases hb1
      have n1y : g1 ≠ y := fun e => by rw [e, hcy] at hb1; cases hb1
      simp [n1s, Ne.symm n1s, hcs]
      refine callP_ro hvec ?_
      simp
      refine ⟨fun e1 => ?_, fun e1 => ⟨fun e2 => ?_, fun e2 => ?_⟩⟩
      · intro g2 hg2 h21 hb2
        have n2x : g2 ≠ x := fun e => by rw [e, hcx] at hb2; cases hb2
        have n2y : g2 ≠ y := fun e => by rw [e, hcy] at hb2; cases hb2
        simp [hcx, n1x, h21, n2x, Ne.symm n1x, Ne.symm h21, Ne.symm n2x, lx, tkx, nx, ny, appV, elsV, Int.not_lt.2 hg2]
        refine ⟨by omega, fun g3 hg3 hb3 => ?_⟩
        have n31 : g3 ≠ g1 := by grind
        have n3y : g3 ≠ y := by grind
        simp [n31, Ne.symm n31, n3y, Ne.symm n3y, nx, ny]
        intro g4 hg4 h43 hb4
        have n41 : g4 ≠ g1 := by grind
        have n4y : g4 ≠ y := by grind
        simp [hxy, Ne.symm hxy, hcy, n1y, Ne.symm n1y, n2y, Ne.symm n2y, n31, Ne.symm n31, n3y, Ne.symm n3y, n41, Ne.symm n41, n4y, Ne.symm n4y, h43, Ne.symm h43, ly, tky, lx, tkx, nx, ny, appV, elsV, Int.not_lt.2 hg4]
        refine ⟨by omega, fun g5 hg5 hb5 => ?_⟩
        have n51 : g5 ≠ g1 := by grind
        have n53 : g5 ≠ g3 := by grind
        have f1 : eqX s j s.ms[k] = vx s s.ms[k] := by rw [eqX, if_pos e1]
        have f2 : eqY s j s.ms[k] = vy s s.ms[k] := by rw [eqY, if_pos e1]
        rw [f1] at sx
        rw [f2] at sy
        simp [w1, loopQ_normal]
        refine ⟨⟨k + 1, g3, g5, _⟩, ⟨⟨by simp only; omega, by simp only; grind, ?_, ?_, by simp only; grind, by simp only; grind, ?_, fun e => by simp only at e; omega, fun e => by simp only at e; omega⟩, hg3, hg5⟩, by simp only; omega, rfl, by simp, sub_eq rfl⟩
        · simp [hxy, Ne.symm hxy, n31, Ne.symm n31, n51, Ne.symm n51, n53, Ne.symm n53, n41, Ne.symm n41, h43, Ne.symm h43, n3y, Ne.symm n3y, n4y, Ne.symm n4y, sx, iv_append, iv_one, tkx, tky]
        · simp [hxy, Ne.symm hxy, n31, Ne.symm n31, n51, Ne.symm n51, n53, Ne.symm n53, n41, Ne.symm n41, h43, Ne.symm h43, n3y, Ne.symm n3y, n4y, Ne.symm n4y, sy, iv_append, iv_one, tkx, tky]
        · intro u z hx
          have hbx := hsc u z hx
          have ng : u ≠ x := fun e => by rw [e, hbx'] at hx; cases hx
          have nh : u ≠ y := fun e => by rw [e, hby'] at hx; cases hx
          simp [upd_apply, rem_apply]
          grind
      · intro g2 hg2 h21 hb2
        have n2x : g2 ≠ x := fun e => by rw [e, hcx] at hb2; cases hb2
        have n2y : g2 ≠ y := fun e => by rw [e, hcy] at hb2; cases hb2
        simp [hcx, n1x, h21, n2x, Ne.symm n1x, Ne.symm h21, Ne.symm n2x, lx, tkx, nx, ny, appV, elsV, Int.not_lt.2 hg2]
        refine ⟨by omega, fun g3 hg3 hb3 => ?_⟩
        have n31 : g3 ≠ g1 := by grind
        have n3y : g3 ≠ y := by grind
        simp [n31, Ne.symm n31, n3y, Ne.symm n3y, nx, ny]
        intro g4 hg4 h43 hb4
        have n41 : g4 ≠ g1 := by grind
        have n4y : g4 ≠ y := by grind
        simp [hxy, Ne.symm hxy, hcy, n1y, Ne.symm n1y, n2y, Ne.symm n2y, n31, Ne.symm n31, n3y, Ne.symm n3y, n41, Ne.symm n41, n4y, Ne.symm n4y, h43, Ne.symm h43, ly, tky, lx, tkx, nx, ny, appV, elsV, Int.not_lt.2 hg4]
        refine ⟨by omega, fun g5 hg5 hb5 => ?_⟩
        have n51 : g5 ≠ g1 := by grind
        have n53 : g5 ≠ g3 := by grind
        have f1 : eqX s j s.ms[k] = -vx s s.ms[k] := by rw [eqX, if_neg e1, if_pos e2]
        have f2 : eqY s j s.ms[k] = -vy s s.ms[k] := by rw [eqY, if_neg e1, if_pos e2]
        rw [f1] at sx
        rw [f2] at sy
        simp [w1, loopQ_normal]
        refine ⟨⟨k + 1, g3, g5, _⟩, ⟨⟨by simp only; omega, by simp only; grind, ?_, ?_, by simp only; grind, by simp only; grind, ?_, fun e => by simp only at e; omega, fun e => by simp only at e; omega⟩, hg3, hg5⟩, by simp only; omega, rfl, by simp, sub_eq rfl⟩
        · simp [hxy, Ne.symm hxy, n31, Ne.symm n31, n51, Ne.symm n51, n53, Ne.symm n53, n41, Ne.symm n41, h43, Ne.symm h43, n3y, Ne.symm n3y, n4y, Ne.symm n4y, sx, iv_append, iv_one, tkx, tky]
        · simp [hxy, Ne.symm hxy, n31, Ne.symm n31, n51, Ne.symm n51, n53, Ne.symm n53, n41, Ne.symm n41, h43, Ne.symm h43, n3y, Ne.symm n3y, n4y, Ne.symm n4y, sy, iv_append, iv_one, tkx, tky]
        · intro u z hx
          have hbx := hsc u z hx
          have ng : u ≠ x := fun e => by rw [e, hbx'] at hx; cases hx
          have nh : u ≠ y := fun e => by rw [e, hby'] at hx; cases hx
          simp [upd_apply, rem_apply]
          grind
      · intro g2 hg2 h21 hb2
        have n2x : g2 ≠ x := fun e => by rw [e, hcx] at hb2; cases hb2
        have n2y : g2 ≠ y := fun e => by rw [e, hcy] at hb2; cases hb2
        simp [hcx, n1x, h21, n2x, Ne.symm n1x, Ne.symm h21, Ne.symm n2x, lx, tkx, nx, ny, appV, elsV, Int.not_lt.2 hg2]
        refine ⟨by omega, fun g3 hg3 hb3 => ?_⟩
        have n31 : g3 ≠ g1 := by grind
        have n3y : g3 ≠ y := by grind
        simp [n31, Ne.symm n31, n3y, Ne.symm n3y, nx, ny]
        intro g4 hg4 h43 hb4
        have n41 : g4 ≠ g1 := by grind
        have n4y : g4 ≠ y := by grind
        simp [hxy, Ne.symm hxy, hcy, n1y, Ne.symm n1y, n2y, Ne.symm n2y, n31, Ne.symm n31, n3y, Ne.symm n3y, n41, Ne.symm n41, n4y, Ne.symm n4y, h43, Ne.symm h43, ly, tky, lx, tkx, nx, ny, appV, elsV, Int.not_lt.2 hg4]
        refine ⟨by omega, fun g5 hg5 hb5 => ?_⟩
        have n51 : g5 ≠ g1 := by grind
        have n53 : g5 ≠ g3 := by grind
        have f1 : eqX s j s.ms[k] = 0 := by rw [eqX, if_neg e1, if_neg e2]
        have f2 : eqY s j s.ms[k] = 0 := by rw [eqY, if_neg e1, if_neg e2]
        rw [f1] at sx
        rw [f2] at sy
        simp [w1, loopQ_normal]
        refine ⟨⟨k + 1, g3, g5, _⟩, ⟨⟨by simp only; omega, by simp only; grind, ?_, ?_, by simp only; grind, by simp only; grind, ?_, fun e => by simp only at e; omega, fun e => by simp only at e; omega⟩, hg3, hg5⟩, by simp only; omega, rfl, by simp, sub_eq rfl⟩
        · simp [hxy, Ne.symm hxy, n31, Ne.symm n31, n51, Ne.symm n51, n53, Ne.symm n53, n41, Ne.symm n41, h43, Ne.symm h43, n3y, Ne.symm n3y, n4y, Ne.symm n4y, sx, iv_append, iv_one, tkx, tky]
        · simp [hxy, Ne.symm hxy, n31, Ne.symm n31, n51, Ne.symm n51, n53, Ne.symm n53, n41, Ne.symm n41, h43, Ne.symm h43, n3y, Ne.symm n3y, n4y, Ne.symm n4y, sy, iv_append, iv_one, tkx, tky]
        · intro u z hx
          have hbx := hsc u z hx
          have ng : u ≠ x := fun e => by rw [e, hbx'] at hx; cases hx
          have nh : u ≠ y := fun e => by rw [e, hby'] at hx; cases hx
          simp [upd_apply, rem_apply]
          grind
    · have : k = s.ms.length := by omega
      subst this
      rw [xTo_all] at hcx
      rw [yTo_all] at hcy
      have nxs' : x ≠ gs := fun e => by rw [e, hbs] at hbx'; cases hbx'
      have nys' : y ≠ gs := fun e => by rw [e, hbs] at hby'; cases hby'
      have nxg' : x ≠ g := fun e => by rw [e, hbg] at hbx'; cases hbx'
      have nyg' : y ≠ g := fun e => by rw [e, hbg] at hby'; cases hby'
      have lr := rowsTo_length s i (by omega)
      have tkr : (iv (rowsTo s i)).take (2 * s.ms.length * i) = iv (rowsTo s i) := List.take_of_length_le (by simp [lr])
      have tkX : (iv (rowX s j)).take s.ms.length = iv (rowX s j) := List.take_of_length_le (by simp)
      have tkY : (iv (rowY s j)).take s.ms.length = iv (rowY s j) := List.take_of_length_le (by simp)
      have hi6 : 2 * s.ms.length * i ≤ 2 * 8 * 6 := Nat.mul_le_mul (by omega) (by omega)
      simp [hcg, hcx, hcy, nxg', nyg', Ne.symm nxg', Ne.symm nyg', Int.not_lt.2 hx0, Int.not_lt.2 hy0, appV, elsV, lr, tkr, tkX, tkY]
      refine ⟨by omega, fun go hgo hbo => ?_⟩
      have nos : go ≠ gs := by grind
      have nox : go ≠ x := by grind
      have noy : go ≠ y := by grind
      simp [nox, noy, Ne.symm nox, Ne.symm noy, nxg', nyg', Ne.symm nxg', Ne.symm nyg', hcx, hcy, Int.not_lt.2 hx0, Int.not_lt.2 hy0, appV, elsV, lr, tkr, tkX, tkY]
      refine ⟨by omega, fun gn hgn hbn => ?_⟩
      have nns : gn ≠ gs := by grind
      have w2 : IntKind.i64.wrap ((i : Int) + 1) = i + 1 := i64_in (by omega) (by omega)
      subst hj
      have rs := rowsTo_succ s i h
      have h1 : bl go = none := by
        by_cases e : go = g
        · rw [e]; exact hg
        · exact fresh_of hsb (fr _ (hbo e))
      have h2 : bl gn = none := by
        by_cases e : gn = go
        · rw [e]; exact h1
        · by_cases e2 : gn = g
          · rw [e2]; exact hg
          · exact fresh_of hsb (fr _ (by grind))
      simp [w2, loopQ_normal]
      refine ⟨⟨i + 1, gn, _⟩, ⟨by simp only; omega, nns, ?_, ?_, h2, ?_, ?_⟩, by simp only; omega, rfl, ?_, sub_eq rfl⟩
      · have tk2 : (iv (rowsTo s i) ++ iv (rowX s (frees s.js)[i])).take (2 * s.ms.length * i + s.ms.length) = iv (rowsTo s i) ++ iv (rowX s (frees s.js)[i]) := List.take_of_length_le (by simp [lr])
        simp [rs, iv_append, tk2]
      · simp [Ne.symm nns, Ne.symm nos, Ne.symm hgg, hcs]
      · intro u z hx
        have hbx := hsc u z (hsb u z hx)
        have n1 : u ≠ g := fun e => by rw [e, hg] at hx; cases hx
        have n2 : u ≠ go := fun e => by rw [e, h1] at hx; cases hx
        have n3 : u ≠ gn := fun e => by rw [e, h2] at hx; cases hx
        simp [n1, n2, n3, hbx]
      · intro e
        simp only at e ⊢
        have ez : s.ms = [] := by
          rcases hgn with hn | ⟨_, hn⟩
          · omega
          · have := congrArg List.length hn
            simpa using this
        have er := lr
        rw [ez] at er
        rw [rs]
        simp [rowX, rowY, ez] at er ⊢
        exact er
      · simp [Nat.mul_add]; omega
  · have : i = (frees s.js).length := by omega
    subst this
    refine retNW [.lsl g 1 0 (2 * s.ms.length * (frees s.js).length)] [g] (by simp) ?_ (by simpa using hg) hsb
    have e : rowsF s = rowsTo s (frees s.js).length := by simp [rowsF, rowsTo]
    refine own_iv.2 (.inr ⟨g, ?_, rfl, by rw [e]; exact hbg, by rw [e]; exact h0⟩)
    rw [e, rowsTo_length s _ (Nat.le_refl _)]; rfl

theorem l14Rows_ro (s : Str) (hs : SOk s) : RO Tryz.prog 110 [.agg s.c] (.sl (iv (rowsF s))) := by
  have := ro_of_nw 1 (l14Rows_nw s hs) (fl_dep _ _ 0)
  simpa using this

/-- Minus the load at the free joints. -/
def rightTo (s : Str) (l : List Int) (n : Nat) : List Int := ((frees s.js).take n).flatMap fun j => [-lat l (2 * j).toNat, -lat l (2 * j + 1).toNat]
def right (s : Str) (l : List Int) : List Int := (frees s.js).flatMap fun j => [-lat l (2 * j).toNat, -lat l (2 * j + 1).toNat]
theorem rightTo_succ (s : Str) (l : List Int) (n : Nat) (h : n < (frees s.js).length) : rightTo s l (n + 1) = rightTo s l n ++ [-lat l (2 * (frees s.js)[n]).toNat, -lat l (2 * (frees s.js)[n] + 1).toNat] := by
  unfold rightTo
  rw [List.take_add_one, List.getElem?_eq_getElem h, List.flatMap_append]; simp
theorem rightTo_length (s : Str) (l : List Int) : ∀ n, n ≤ (frees s.js).length → (rightTo s l n).length = 2 * n
  | 0, _ => by simp [rightTo]
  | n + 1, h => by
    rw [rightTo_succ s l n (by omega), List.length_append, rightTo_length s l n (by omega)]; simp; omega
theorem frees_range {s : Str} {j : Int} (h : j ∈ frees s.js) : 0 ≤ j ∧ j < s.js.length := by
  unfold frees freesTo at h
  obtain ⟨k, hk, rfl⟩ := List.mem_map.1 h
  have := List.mem_range.1 (List.mem_filter.1 hk).1
  omega

end Go.Proofs.YtmbcofnnibpbeaaGreat.Vm

namespace Go.Proofs.YtmbcofnnibpbeaaGreat.Vm
open Go Go.Proofs
set_option linter.unusedSimpArgs false
set_option linter.unusedVariables false

def zRow (row : List Int) : List (Option Rat) := row.map fun (n : Int) => some (n : Rat)
def zGrid (rows : List (List Int)) : List (List (Option Rat)) := rows.map zRow
def roInts (l : List Int) : List RT := l.map fun (n : Int) => ro (some (n : Rat))
theorem zGrid_eq (rows : List (List Int)) (c : Nat) (h : ∀ w, w ∈ rows → w.length = c) : gridOf rows.length c (fun i k => some (((rows.getD i []).getD k 0 : Int) : Rat)) = zGrid rows := by
  apply List.ext_getElem
  · simp [zGrid]
  · intro i h1 h2
    have hi : i < rows.length := by simpa using h1
    rw [gridOf_getE]
    simp only [zGrid, List.getElem_map]
    apply List.ext_getElem
    · simp [zRow, h _ (List.getElem_mem hi)]
    · intro k h3 h4
      have hk : k < rows[i].length := by simpa [zRow] using h4
      rw [rowOf_getE]
      simp [zRow, hi, hk]
theorem zGrid_all (rows : List (List Int)) : stAll (zGrid rows) = true := by
  unfold stAll zGrid
  rw [List.all_map, List.all_eq_true]
  intro w hw
  simp [allSome, zRow]
theorem zGrid_flat (rows : List (List Int)) : ((zGrid rows).map roAll).flatten = roInts rows.flatten := by
  induction rows with
  | nil => rfl
  | cons w ws ih =>
    simp only [zGrid, List.map_cons, List.flatten_cons] at ih ⊢
    rw [ih]
    simp [roInts, roAll, zRow]
/-- Small numbers. -/
def small (rows : List (List Int)) : Prop := ∀ w, w ∈ rows → ∀ n, n ∈ w → -100 ≤ n ∧ n ≤ 100
theorem eqG1_ro (rows : List (List Int)) (hs : small rows) (i k : Nat) (hi : i < rows.length) (hk : k < rows[i].length) : RO Tryz.prog 95 [.int .i64 i, .int .i64 k, .ptr [.sl (ivv rows)]] (fv (some (((rows.getD i []).getD k 0 : Int) : Rat))) := by
  have hb := hs _ (List.getElem_mem hi) _ (List.getElem_mem hk)
  refine ro_of2 Tryz.func95 rfl rfl (by rw [Tryz.ntmps95]; simp) fun bl => ?_
  rw [Tryz.ntmps95, Tryz.results95]
  refine AW_run ?_
  simp [hi, hk]
  refine callP_ro (whole_ro rows[i][k] (by omega)) ?_
  simp
  exact retRO [fv (some ((rows[i][k] : Int) : Rat))] 0 (by simp) (by simp [hi, hk, fv_frz]) (Sub.refl _)

theorem eqX_le {s : Str} (hs : SOk s) (j : Int) {m : Mb} (hm : m ∈ s.ms) : (-100 ≤ eqX s j m ∧ eqX s j m ≤ 100) ∧ (-100 ≤ eqY s j m ∧ eqY s j m ≤ 100) := by
  have := v_le hs hm
  unfold eqX eqY
  split
  · exact this
  · split
    · omega
    · omega
theorem eqRows_small {s : Str} (hs : SOk s) : small (eqRows s) ∧ ∀ w, w ∈ eqRows s → w.length = s.ms.length := by
  constructor
  · intro w hw n hn
    obtain ⟨j, _, hw⟩ := List.mem_flatMap.1 hw
    rcases List.mem_cons.1 hw with rfl | hw
    · obtain ⟨m, hm, rfl⟩ := List.mem_map.1 hn
      exact (eqX_le hs j hm).1
    · obtain rfl : w = rowY s j := by simpa using hw
      obtain ⟨m, hm, rfl⟩ := List.mem_map.1 hn
      exact (eqX_le hs j hm).2
  · intro w hw
    obtain ⟨j, _, hw⟩ := List.mem_flatMap.1 hw
    rcases List.mem_cons.1 hw with rfl | hw
    · simp
    · obtain rfl : w = rowY s j := by simpa using hw
      simp
theorem eqRows_length (s : Str) : (eqRows s).length = 2 * (frees s.js).length := by
  have := eqTo_length s (frees s.js).length (Nat.le_refl _)
  rw [← this]; unfold eqTo eqRows; rw [List.take_length]
theorem eqRows_flat (s : Str) : (eqRows s).flatten = rowsF s := by
  unfold eqRows rowsF
  induction frees s.js with
  | nil => rfl
  | cons j js ih =>
    rw [List.flatMap_cons, List.flatMap_cons, List.flatten_append, ih]
    simp
theorem equilibrium_roG (s : Str) (hs : SOk s) : RO Tryz.prog 94 [.ptr s.c] (.sl (ivv (eqRows s))) := by
  have := ro_of_nw 2 (equilibrium_nw s hs) (dII_dep _)
  rwa [dII_fz] at this
theorem equilibriumGrid_ro (s : Str) (hs : SOk s) : RO Tryz.prog 45 [.ptr s.c] (.agg [.int .i64 (eqRows s).length, .int .i64 s.ms.length, .sl (gv (zGrid (eqRows s)))]) := by
  obtain ⟨hsm, hlen⟩ := eqRows_small hs
  have hrl := eqRows_length s
  have hnj := hs.nj
  have hnm := hs.nm
  have hfl := freesTo_le s.js s.js.length
  change (frees s.js).length ≤ s.js.length at hfl
  have hG := ro_of_nw 3 (newGrid_nw (eqRows s).length s.ms.length (by omega) (by omega) 95 [.ptr [.sl (ivv (eqRows s))]] (fun i k => some ((((eqRows s).getD i []).getD k 0 : Int) : Rat)) (fun i k hi hk => eqG1_ro (eqRows s) hsm i k hi (by rw [hlen _ (List.getElem_mem hi)]; exact hk))) (dG_dep _ _ _)
  rw [dG_fz, zGrid_eq _ _ hlen] at hG
  refine ro_of2 Tryz.func45 rfl rfl (by rw [Tryz.ntmps45]; simp) fun bl => ?_
  rw [Tryz.ntmps45, Tryz.results45]
  refine AW_runA ?_
  simp
  intro g2 hg2 hb2
  refine AW_runA ?_
  simp
  refine callP_ro (equilibrium_roG s hs) ?_
  simp
  intro g3 hg3 h32 hb3
  refine AW_frzAt 1 3 (.ptr [.sl (ivv (eqRows s))]) (upd bl g2 (some ⟨3, [[.int .i64 0, .int .i64 0, .nils]]⟩)) (by simp [h32, hb3]) (by simp [frz, dropB, h32, Ne.symm h32, hb3, V.cl]) ?_
  refine AW_run ?_
  refine AW_mixedB mixedO bl (by simp [hb2]) [0, 1, 2, 3, 4, 5, 6] 3 (by kernel_rfl) ?_
  simp [Str.c]
  refine DAny_one (i := 7) (by kernel_rfl) rfl rfl ?_
  simp
  refine ⟨by simp [hb2], DAny_one (i := 8) (by kernel_rfl) rfl rfl ?_⟩
  try simp
  refine callP_ro hG ?_
  refine ⟨by simp [hb2], DAny_one (i := 9) (by kernel_rfl) rfl rfl ?_⟩
  simp
  refine ⟨by simp [hb2], DAny_done (by kernel_rfl) ?_⟩
  try simp
  exact retRO [.agg [.int .i64 (eqRows s).length, .int .i64 s.ms.length, .sl (gv (zGrid (eqRows s)))]] 1 (by simp) (by simp [frz, V.cl]) (by simp [hb2])

/-- The equilibrium matrix of a structure, or none. -/
def eqMx (s : Str) : MX := if sOk s = true then ⟨(eqRows s).length, s.ms.length, roInts (rowsF s)⟩ else ⟨0, 0, []⟩
theorem zGrid_ok {rows : List (List Int)} (h : small rows) : ∀ w, w ∈ zGrid rows → okL w := by
  intro w hw x hx
  obtain ⟨r, hr, rfl⟩ := List.mem_map.1 hw
  obtain ⟨n, hn, rfl⟩ := List.mem_map.1 hx
  have := h r hr n hn
  exact okQ_int (by omega)
theorem zGrid_flen (rows : List (List Int)) : (zGrid rows).flatten.length = rows.flatten.length := by
  induction rows with
  | nil => rfl
  | cons w ws ih =>
    simp only [zGrid, List.map_cons, List.flatten_cons, List.length_append] at ih ⊢
    rw [ih]; simp [zRow]
theorem rowsF_len (s : Str) : (rowsF s).length = 2 * (frees s.js).length * s.ms.length := by
  unfold rowsF
  induction frees s.js with
  | nil => simp
  | cons j js ih => rw [List.flatMap_cons, List.length_append, ih]; simp [Nat.add_mul, Nat.mul_add]; omega
theorem impl_EquilibriumMatrix_nw (s : Str) (hj : s.js.length ≤ 140737488351232) (hm : s.ms.length ≤ 140737488351232) (hn : ∀ j, j ∈ s.js → j.name.size ≤ 140737488351232) : NW Tryz.prog 12 [.agg s.c] (.a (dMx (eqMx s))) := by
  refine nw_of Tryz.func12 rfl rfl (by rw [Tryz.ntmps12]; simp) fun bl => ?_
  rw [Tryz.ntmps12, Tryz.results12]
  refine AW_runA ?_
  simp [Str.c]
  intro g hg0 hg g2 hg2 h2g hb2
  refine AW_frzAt 1 1 (.ptr s.c) (upd bl g2 (some ⟨3, [[.int .i64 0, .int .i64 0, .nils]]⟩)) (by intro z b hz; simp only [upd_apply] at hz ⊢; grind) (by simp [frz, dropB, hg, h2g, Ne.symm h2g, Str.c, V.cl]) ?_
  refine AW_run ?_
  simp [Str.c]
  refine callP_ro (impl_StructureOk_ro s hj hm hn) ?_
  cases hk : sOk s
  · have hz : eqMx s = ⟨0, 0, []⟩ := by unfold eqMx; rw [hk]; rfl
    rw [hz]
    simp
    refine retNW [.agg [.int .i64 0, .int .i64 0, .nils]] [] (by simp) ?_ (by simp) (by simp [hb2])
    show OwnD _ (.a (dMx _)) _ _
    rw [OwnD]
    exact ⟨_, rfl, own_mx.2 ⟨.nils, rfl, own_rs.2 (.inl ⟨rfl, rfl, rfl⟩)⟩⟩
  have hs := sOk_of hk
  obtain ⟨hsm, hlen⟩ := eqRows_small hs
  have hrl := eqRows_length s
  have hnj := hs.nj
  have hnm := hs.nm
  have hfl := freesTo_le s.js s.js.length
  change (frees s.js).length ≤ s.js.length at hfl
  have hz : eqMx s = ⟨(eqRows s).length, s.ms.length, roInts (rowsF s)⟩ := by unfold eqMx; rw [hk]; rfl
  have hrf := rowsF_len s
  have hmul : 2 * (frees s.js).length * s.ms.length ≤ 12 * 8 := Nat.mul_le_mul (by omega) hnm
  have hcl : clMx (eqRows s).length s.ms.length (zGrid (eqRows s)) = eqMx s := by
    unfold clMx; rw [zGrid_all, if_pos rfl, zGrid_flat, eqRows_flat, hz]
  have hC := closed_nw (eqRows s).length s.ms.length (zGrid (eqRows s)) (by simp [zGrid]; omega) (zGrid_ok hsm) (fun w hw => by
    obtain ⟨r, hr, rfl⟩ := List.mem_map.1 hw
    rw [zRow, List.length_map, hlen r hr]; omega) (by rw [zGrid_flen, eqRows_flat]; omega)
  rw [hcl, zGrid_all] at hC
  simp
  refine callP_ro (equilibriumGrid_ro s hs) ?_
  simp
  refine callP_new hC fun v gs b o f fr => ?_
  obtain ⟨w, rfl, ow⟩ := own_dMB.1 o
  obtain ⟨w1, w2⟩ := own_rs1 ow
  have e2 : b g2 = some ⟨3, [[.int .i64 0, .int .i64 0, .nils]]⟩ := new_keep f fr (by simp)
  have hgs : ∀ x, x ∈ gs → x ≠ g2 ∧ bl x = none := fun x hx => by have := f x hx; simp only [upd_apply] at this; split at this <;> simp_all
  have hs1 : Sub bl b := fun x y hy => new_keep f fr (by rw [upd_apply, if_neg (fun e => by rw [e, hb2] at hy; cases hy)]; exact hy)
  simp [w1, w2, e2]
  intro g3 hg3 hb3
  have h32 : g3 ≠ g2 := fun e => by rw [e, e2] at hb3; cases hb3
  have hb30 : bl g3 = none := fresh_of hs1 hb3
  simp [w1, w2, e2, h32, Ne.symm h32]
  refine retNW [.agg [.int .i64 (eqMx s).r, .int .i64 (eqMx s).c, w]] gs (by simp [w1, w2]) ?_ (fun x hx => (hgs x hx).2) ?_
  · show OwnD _ (.a (dMx _)) _ _
    rw [OwnD]
    refine ⟨_, rfl, own_mx.2 ⟨w, rfl, ow.frame fun x hx => ?_⟩⟩
    have e3 : x ≠ g3 := fun e => by obtain ⟨y, hy⟩ := ow.has x hx; rw [e, hb3] at hy; cases hy
    simp [upd_apply, (hgs x hx).1, e3]
  · intro x y hx
    have z2 : x ≠ g2 := fun e => by rw [e, hb2] at hx; cases hx
    have z3 : x ≠ g3 := fun e => by rw [e, hb30] at hx; cases hx
    simp [upd_apply, z2, z3, hs1 x y hx]

end Go.Proofs.YtmbcofnnibpbeaaGreat.Vm

namespace Go.Proofs.YtmbcofnnibpbeaaGreat.Vm
open Go Go.Proofs
set_option linter.unusedSimpArgs false
set_option linter.unusedVariables false

def r6 (n : Int) : Rat := mkRat n 6
theorem r6_fits {n : Int} (h : n.natAbs ≤ 1000000000) : fits (r6 n) := by
  have h1 : (r6 n).num.natAbs ≤ n.natAbs := by
    unfold r6
    rw [Rat.num_mkRat]
    simp only [show (6 : Nat) ≠ 0 by decide, if_false]
    exact Int.natAbs_ediv_le_natAbs _ _
  have h2 : (r6 n).den ≤ 6 := by
    unfold r6
    rw [Rat.den_mkRat]
    simp only [show (6 : Nat) ≠ 0 by decide, if_false]
    exact Nat.div_le_self _ _
  exact ⟨lim_length_le.2 (Nat.lt_of_le_of_lt (show (r6 n).num.natAbs ≤ 1000000000 by omega) (by decide +kernel)), lim_length_le.2 (Nat.lt_of_le_of_lt h2 (by decide +kernel))⟩
theorem r6_add (a b : Int) : r6 a + r6 b = r6 (a + b) := by
  unfold r6
  rw [Rat.mkRat_add_mkRat _ _ (by decide) (by decide), ← Int.add_mul]
  exact Rat.mkRat_mul_right (by decide)
theorem r6_mul (a b : Int) : (a : Rat) * r6 b = r6 (a * b) := by
  unfold r6
  rw [show (a : Rat) = mkRat a 1 from (Rat.mkRat_one _).symm, Rat.mkRat_mul_mkRat]
theorem r6_zero : (0 : Rat) = r6 0 := by decide
def q6 (n : Int) : Option Rat := some (r6 n)
theorem q6_ok {n : Int} (h : n.natAbs ≤ 1000000000) : okQ (q6 n) := fun q e => by cases e; exact r6_fits h
theorem q6_add {a b : Int} (h : (a + b).natAbs ≤ 1000000000) : op2 (· + ·) (q6 a) (q6 b) = q6 (a + b) := by
  show fit (r6 a + r6 b) = some (r6 (a + b))
  rw [r6_add]; unfold fit; rw [if_pos (r6_fits h)]
theorem q6_mulL {a b : Int} (h : (a * b).natAbs ≤ 1000000000) : op2 (· * ·) (some (a : Rat)) (q6 b) = q6 (a * b) := by
  show fit ((a : Rat) * r6 b) = some (r6 (a * b))
  rw [r6_mul]; unfold fit; rw [if_pos (r6_fits h)]
theorem q6_mulR {a b : Int} (h : (a * b).natAbs ≤ 1000000000) : op2 (· * ·) (q6 b) (some (a : Rat)) = q6 (a * b) := by
  show fit (r6 b * (a : Rat)) = some (r6 (a * b))
  rw [Rat.mul_comm, r6_mul]; unfold fit; rw [if_pos (r6_fits h)]

/-- The sum of the products of two lists of numbers, up to n. -/
def dotTo (a u : List Int) : Nat → Int
  | 0 => 0
  | n + 1 => dotTo a u n + lN a n * lN u n
theorem dot_le {a u : List Int} (ha : ∀ k, -100 ≤ lN a k ∧ lN a k ≤ 100) (hu : ∀ k, -60 ≤ lN u k ∧ lN u k ≤ 60) : ∀ n, (dotTo a u n).natAbs ≤ 6000 * n
  | 0 => by simp [dotTo]
  | n + 1 => by
    have := dot_le ha hu n
    have h1 := ha n
    have h2 := hu n
    have : (lN a n * lN u n).natAbs ≤ 100 * 60 := by rw [Int.natAbs_mul]; exact Nat.mul_le_mul (by omega) (by omega)
    rw [dotTo]; omega
/-- The program's inner product. -/
def inTo (a b : List (Option Rat)) : Nat → Option Rat
  | 0 => some 0
  | n + 1 => op2 (· + ·) (inTo a b n) (op2 (· * ·) (a.getD n none) (b.getD n none))
theorem inTo_ok (a b : List (Option Rat)) : ∀ n, okQ (inTo a b n)
  | 0 => fun x h => by cases h; exact fits_zero
  | n + 1 => okQ_op2 _ _ _
theorem inTo_dot {a u : List Int} (ha : ∀ k, -100 ≤ lN a k ∧ lN a k ≤ 100) (hu : ∀ k, -60 ≤ lN u k ∧ lN u k ≤ 60) : ∀ n, n ≤ a.length → n ≤ u.length → n ≤ 1000 → inTo (zRow a) (u.map q6) n = q6 (dotTo a u n)
  | 0, _, _, _ => by show some (0 : Rat) = some (r6 0); rw [r6_zero]
  | n + 1, h1, h2, h3 => by
    have hd := dot_le ha hu n
    have h4 := ha n
    have h5 := hu n
    have h6 : (lN a n * lN u n).natAbs ≤ 100 * 60 := by rw [Int.natAbs_mul]; exact Nat.mul_le_mul (by omega) (by omega)
    rw [inTo, inTo_dot ha hu n (by omega) (by omega) (by omega)]
    have e1 : (zRow a).getD n none = some ((lN a n : Int) : Rat) := by
      have h7 : n < (zRow a).length := by simp [zRow]; omega
      rw [getD_at _ _ _ h7]; simp [zRow, lN, show n < a.length by omega]
    have e2 : (u.map q6).getD n none = q6 (lN u n) := by
      have h7 : n < (u.map q6).length := by simp; omega
      rw [getD_at _ _ _ h7]; simp [lN, show n < u.length by omega]
    rw [e1, e2, q6_mulL (by omega), q6_add (by omega), dotTo]
theorem pTo_dot {s : Str} {e : Mb → Int} {j : Int} {u : List Int} (he : ∀ m, m ∈ s.ms → -100 ≤ e m ∧ e m ≤ 100) (h0 : ∀ m, m ∈ s.ms → ¬ (j = m.a ∨ j = m.b) → e m = 0) (hu : ∀ k, -60 ≤ lN u k ∧ lN u k ≤ 60) (hl : u.length = s.ms.length) (h8 : s.ms.length ≤ 8) : ∀ n, n ≤ s.ms.length → pTo e s (u.map q6) j n = q6 (dotTo (s.ms.map e) u n)
  | 0, _ => by show some (0 : Rat) = some (r6 0); rw [r6_zero]
  | n + 1, h1 => by
    have hm := mat_at s n (by omega)
    have hmem : s.ms[n] ∈ s.ms := List.getElem_mem (by omega)
    have ea : lN (s.ms.map e) n = e s.ms[n] := by simp [lN, show n < s.ms.length by omega]
    have hbd : ∀ k, -100 ≤ lN (s.ms.map e) k ∧ lN (s.ms.map e) k ≤ 100 := fun k => by
      rcases Nat.lt_or_ge k s.ms.length with h | h
      · have : lN (s.ms.map e) k = e s.ms[k] := by simp [lN, h]
        rw [this]; exact he _ (List.getElem_mem h)
      · have : lN (s.ms.map e) k = 0 := by simp [lN, List.getD_eq_getElem?_getD, h]
        rw [this]; omega
    have hd := dot_le hbd hu n
    have h4 := hbd n
    have h5 := hu n
    have h6 : (lN (s.ms.map e) n * lN u n).natAbs ≤ 100 * 60 := by rw [Int.natAbs_mul]; exact Nat.mul_le_mul (by omega) (by omega)
    have e2 : (u.map q6).getD n none = q6 (lN u n) := by
      have h7 : n < (u.map q6).length := by simp; omega
      rw [getD_at _ _ _ h7]; simp [lN, show n < u.length by omega]
    rw [pTo, pTo_dot he h0 hu hl h8 n (by omega), hm, dotTo, e2]
    split
    · rw [← ea, q6_mulR (by omega), q6_add (by omega)]
    · rename_i hc
      have : lN (s.ms.map e) n = 0 := by rw [ea]; exact h0 _ hmem hc
      rw [this]; simp
end Go.Proofs.YtmbcofnnibpbeaaGreat.Vm

namespace Go.Proofs.YtmbcofnnibpbeaaGreat.Vm
open Go Go.Proofs
set_option linter.unusedSimpArgs false
set_option linter.unusedVariables false

/-- A linear program. -/
structure Pg where
  rows : Int
  cols : Int
  a : List Int
  b : List Int
  c : List Int
def Pg.v (p : Pg) : List V := [.int .i64 p.rows, .int .i64 p.cols, .sl (iv p.a), .sl (iv p.b), .sl (iv p.c)]
def nR (s : Str) : Nat := 2 * (frees s.js).length
def nC (s : Str) : Nat := (cols s.ms).length
def colAt (s : Str) (c : Nat) : Int × Int := (cols s.ms).getD c (0, 0)
def ent (s : Str) (i c : Nat) : Int := (colAt s c).2 * lat (rowsF s) (i * s.ms.length + (colAt s c).1.toNat)
def aTo (s : Str) (n : Nat) : List Int := (List.range n).map fun t => ent s (t / nC s) (t % nC s)
def fprog (s : Str) (l : List Int) : Pg := ⟨nR s, nC s, aTo s (nR s * nC s), right s l, List.replicate (nC s) 0⟩
@[simp] theorem aTo_length (s : Str) (n : Nat) : (aTo s n).length = n := by simp [aTo]
theorem aTo_succ (s : Str) (i c : Nat) (h : c < nC s) : aTo s (i * nC s + c + 1) = aTo s (i * nC s + c) ++ [ent s i c] := by
  unfold aTo
  rw [List.range_succ, List.map_append]
  congr 1
  simp only [List.map_cons, List.map_nil]
  rw [Nat.mul_comm i, Nat.mul_add_div (by omega), Nat.mul_add_mod, Nat.div_eq_of_lt h, Nat.mod_eq_of_lt h, Nat.add_zero]

theorem rowsF_length (s : Str) : (rowsF s).length = nR s * s.ms.length := by
  have e : rowsF s = rowsTo s (frees s.js).length := by simp [rowsF, rowsTo]
  rw [e, rowsTo_length s _ (Nat.le_refl _), nR, Nat.mul_right_comm]
theorem cols_mem {ms : List Mb} {n : Nat} {p : Int × Int} (h : p ∈ colsTo ms n) : (0 ≤ p.1 ∧ p.1 < n) ∧ (p.2 = 1 ∨ p.2 = -1) := by
  unfold colsTo at h
  obtain ⟨k, hk, hp⟩ := List.mem_flatMap.1 h
  have := List.mem_range.1 hk
  unfold colK at hp
  rcases List.mem_append.1 hp with hp | hp <;> split at hp <;> simp at hp <;> subst hp <;> simp <;> omega
theorem colAt_ok (s : Str) (c : Nat) (h : c < nC s) : (0 ≤ (colAt s c).1 ∧ (colAt s c).1 < s.ms.length) ∧ ((colAt s c).2 = 1 ∨ (colAt s c).2 = -1) := by
  unfold nC at h
  have : colAt s c = (cols s.ms)[c] := by simp [colAt, h]
  rw [this]
  exact cols_mem (List.getElem_mem h)
theorem who_at (s : Str) (c : Nat) (h : c < nC s) : (iv (who s))[c]? = some [.int .i64 (colAt s c).1] := by
  unfold nC at h
  simp [who, colAt, h, iv]
theorem sgn_at (s : Str) (c : Nat) (h : c < nC s) : (iv (sgn s))[c]? = some [.int .i64 (colAt s c).2] := by
  unfold nC at h
  simp [sgn, colAt, h, iv]
theorem rowsF_le {s : Str} (hs : SOk s) (n : Nat) : -100 ≤ lat (rowsF s) n ∧ lat (rowsF s) n ≤ 100 := by
  have key : ∀ x, x ∈ rowsF s → -100 ≤ x ∧ x ≤ 100 := by
    intro x hx
    unfold rowsF at hx
    obtain ⟨j, _, hx⟩ := List.mem_flatMap.1 hx
    rcases List.mem_append.1 hx with hx | hx
    · obtain ⟨m, hm, rfl⟩ := List.mem_map.1 hx
      have := v_le hs hm
      unfold eqX; split
      · omega
      · split <;> omega
    · obtain ⟨m, hm, rfl⟩ := List.mem_map.1 hx
      have := v_le hs hm
      unfold eqY; split
      · omega
      · split <;> omega
  unfold lat
  rw [List.getD_eq_getElem?_getD]
  cases h : (rowsF s)[n]? with
  | none => simp
  | some x => exact key x (List.mem_of_getElem? h)


structure PS where
  n : Nat
  g : Int
  b : Int → Option Blk
structure PI (bl : Int → Option Blk) (s : Str) (l : List Int) (gr gp gc : Int) (p : PS) : Prop where
  hr : p.b gr = some ⟨5, [[.int .i64 0, .int .i64 0, .nils, .nils, .nils]]⟩
  hp : p.b gp = some ⟨5, [[.int .i64 (nR s), .int .i64 (nC s), .lsl p.g 1 0 p.n, .sl (iv (right s l)), .lsl gc 1 0 (nC s)]]⟩
  hc : p.b gc = some ⟨1, iv (List.replicate (nC s) 0)⟩
  ha : p.b p.g = some ⟨1, iv (aTo s p.n)⟩
  pr : p.g ≠ gr
  pp : p.g ≠ gp
  pc : p.g ≠ gc
  f : bl p.g = none
  sub : Sub bl p.b
  neg : p.g < 0 → aTo s p.n = []

end Go.Proofs.YtmbcofnnibpbeaaGreat.Vm

namespace Go.Proofs.YtmbcofnnibpbeaaGreat.Vm
open Go Go.Proofs
set_option linter.unusedSimpArgs false
set_option linter.unusedVariables false

theorem flat_at {n : Nat} : ∀ (rs : List (List Int)), (∀ r, r ∈ rs → r.length = n) → ∀ (i k : Nat) (hi : i < rs.length), k < n → lat rs.flatten (i * n + k) = lat rs[i] k
  | [], _, i, k, hi, _ => by simp at hi
  | r :: rs, h, 0, k, hi, hk => by
    have := h r List.mem_cons_self
    simp [lat, List.flatten_cons, List.getElem?_append_left (show k < r.length by omega)]
  | r :: rs, h, i + 1, k, hi, hk => by
    have hr := h r List.mem_cons_self
    have ih := flat_at rs (fun r hr => h r (List.mem_cons_of_mem _ hr)) i k (by simpa using hi) hk
    have e : (i + 1) * n + k = r.length + (i * n + k) := by rw [hr, Nat.add_mul]; omega
    rw [List.flatten_cons, e]
    simp only [lat, List.getD_eq_getElem?_getD] at ih ⊢
    rw [List.getElem?_append_right (by omega), Nat.add_sub_cancel_left, ih]; rfl
theorem rowsF_flat (s : Str) : rowsF s = (eqRows s).flatten := by
  unfold rowsF eqRows
  induction frees s.js with
  | nil => rfl
  | cons j js ih => simp [ih]
theorem eqRows_len (s : Str) : ∀ r, r ∈ eqRows s → r.length = s.ms.length := by
  intro r hr
  unfold eqRows at hr
  obtain ⟨j, _, hr⟩ := List.mem_flatMap.1 hr
  simp at hr
  rcases hr with rfl | rfl <;> simp
theorem aTo_at (s : Str) (n m : Nat) (h : m < n) : (iv (aTo s n))[m]'(by simpa using h) = [.int .i64 (ent s (m / nC s) (m % nC s))] := by simp [aTo]
theorem right_length (s : Str) (l : List Int) : (right s l).length = nR s := by
  have e : right s l = rightTo s l (frees s.js).length := by simp [right, rightTo]
  rw [e, rightTo_length s l _ (Nat.le_refl _)]; rfl
theorem right_at (s : Str) (l : List Int) : ∀ (fs : List Int) (i : Nat) (h : i < fs.length), lat (fs.flatMap fun j => [-lat l (2 * j).toNat, -lat l (2 * j + 1).toNat]) (2 * i) = -lat l (2 * fs[i]).toNat ∧ lat (fs.flatMap fun j => [-lat l (2 * j).toNat, -lat l (2 * j + 1).toNat]) (2 * i + 1) = -lat l (2 * fs[i] + 1).toNat
  | [], i, h => by simp at h
  | f :: fs, 0, _ => by simp [lat]
  | f :: fs, i + 1, h => by
    have ih := right_at s l fs i (by simpa using h)
    have e1 : 2 * (i + 1) = (2 * i) + 1 + 1 := by omega
    have e2 : 2 * (i + 1) + 1 = (2 * i + 1) + 1 + 1 := by omega
    rw [e2, e1]
    simpa [lat] using ih


theorem equilibrium_ro (s : Str) (hs : SOk s) : RO Tryz.prog 94 [.ptr s.c] (.sl (ivv (eqRows s))) := by
  have := ro_of_nw 2 (equilibrium_nw s hs) (dII_dep _)
  rwa [dII_fz] at this

def dPg (p : Pg) : D := .a [.c (.int .i64 p.rows), .c (.int .i64 p.cols), fl 1 (iv p.a), fl 1 (iv p.b), fl 1 (iv p.c)]

structure ABC where
  a : Int
  b : Int
  c : Int
structure abcOk (bl : Int → Option Blk) (gr gp : Int) (p : ABC) : Prop where
  a0 : 0 ≤ p.a
  b0 : 0 ≤ p.b
  c0 : 0 ≤ p.c
  ba : ¬p.b = p.a
  ca : ¬p.c = p.a
  cb : ¬p.c = p.b
  ar : ¬p.a = gr
  ap : ¬p.a = gp
  br : ¬p.b = gr
  bp : ¬p.b = gp
  cr : ¬p.c = gr
  cp : ¬p.c = gp
  fa : bl p.a = none
  fb : bl p.b = none
  fc : bl p.c = none

end Go.Proofs.YtmbcofnnibpbeaaGreat.Vm

namespace Go.Proofs.YtmbcofnnibpbeaaGreat.Vm
open Go Go.Proofs
set_option linter.unusedSimpArgs false
set_option linter.unusedVariables false

theorem own_pg {bl : Int → Option Blk} {p : Pg} {v : V} {gs : List Int} : OwnD bl (dPg p) v gs ↔ ∃ va vb vc ga gb gc, v = .agg [.int .i64 p.rows, .int .i64 p.cols, va, vb, vc] ∧ gs = ga ++ (gb ++ gc) ∧ (∀ g, g ∈ ga → g ∉ gb ++ gc) ∧ (∀ g, g ∈ gb → g ∉ gc) ∧
    OwnD bl (fl 1 (iv p.a)) va ga ∧ OwnD bl (fl 1 (iv p.b)) vb gb ∧ OwnD bl (fl 1 (iv p.c)) vc gc := by
  unfold dPg
  rw [OwnD]
  constructor
  · rintro ⟨vs, rfl, h⟩
    rw [OwnL] at h
    obtain ⟨v1, vs1, g1, r1, rfl, rfl, _, h1, h⟩ := h
    rw [OwnD] at h1
    obtain ⟨rfl, _, rfl⟩ := h1
    rw [OwnL] at h
    obtain ⟨v2, vs2, g2, r2, rfl, rfl, _, h2, h⟩ := h
    rw [OwnD] at h2
    obtain ⟨rfl, _, rfl⟩ := h2
    rw [OwnL] at h
    obtain ⟨va, vs3, ga, r3, rfl, rfl, ha, h3, h⟩ := h
    obtain ⟨vb, vc, gb, gc, rfl, rfl, hd, h4, h5⟩ := own_pair.1 h
    exact ⟨va, vb, vc, ga, gb, gc, rfl, rfl, ha, hd, h3, h4, h5⟩
  · rintro ⟨va, vb, vc, ga, gb, gc, rfl, rfl, ha, hb, h1, h2, h3⟩
    refine ⟨_, rfl, ?_⟩
    show OwnL bl [_, _, _, _, _] [_, _, _, _, _] ([] ++ ([] ++ (ga ++ (gb ++ gc))))
    exact own_cons (own_int _) (own_cons (own_int _) (own_cons h1 (own_pair.2 ⟨vb, vc, gb, gc, rfl, rfl, hb, h2, h3⟩) ha) (fun x hx => by cases hx)) (fun x hx => by cases hx)
theorem frz_pg {bl : Int → Option Blk} {p : Pg} {v : V} {gs : List Int} (h : OwnD bl (dPg p) v gs) (n : Nat) : frz bl (n + 2) v = some (.agg p.v) := by
  obtain ⟨va, vb, vc, ga, gb, gc, rfl, rfl, _, _, h1, h2, h3⟩ := own_pg.1 h
  rw [frz_agg, List.mapM_cons, frz_cl rfl, List.mapM_cons, frz_cl rfl, List.mapM_cons, frz_iv h1 n, List.mapM_cons, frz_iv h2 n, List.mapM_cons, frz_iv h3 n]
  simp [Pg.v]
theorem sc_pg (p : Pg) : (dPg p).sc = true := by simp [dPg, D.sc, D.scL, sc_iv, V.ow]

def noPg : Pg := ⟨0, 0, [], [], []⟩
def fpOf (s : Str) (l : List Int) : Pg := if lOk s l = true then fprog s l else noPg

def pgEq (p q : Pg) : Bool := decide (p.rows = q.rows) && (decide (p.cols = q.cols) && (decide (p.a = q.a) && (decide (p.b = q.b) && decide (p.c = q.c))))
@[simp] theorem pgEq_self (p : Pg) : pgEq p p = true := by simp [pgEq]
/-- The marks of a program from k on. -/
def mkP (k : Nat) (p : Pg) : Pg := ⟨p.rows, p.cols, marks k p.a.length, marks (k + p.a.length : Nat) p.b.length, marks (k + p.a.length + p.b.length : Nat) p.c.length⟩
def mkPN (k : Nat) (p : Pg) : Nat := k + p.a.length + p.b.length + p.c.length

end Go.Proofs.YtmbcofnnibpbeaaGreat.Vm

namespace Go.Proofs.YtmbcofnnibpbeaaGreat.Vm
open Go Go.Proofs
set_option linter.unusedSimpArgs false
set_option linter.unusedVariables false

theorem dPg_dep (p : Pg) : (dPg p).dep 2 := by simp [dPg, D.dep, D.depL, fl_dep]
theorem dPg_fz (p : Pg) : (dPg p).fz = .agg p.v := by simp [dPg, D.fz, D.fzL, Pg.v]
theorem fpOf_len (s : Str) (l : List Int) : (fpOf s l).a.length ≤ 1048576 ∧ (fpOf s l).b.length ≤ 1048576 ∧ (fpOf s l).c.length ≤ 1048576 := by
  unfold fpOf
  split
  · rename_i h
    have hs := (lOk_of h).sok
    have h6 := hs.nj
    have h8 := hs.nm
    have hfr := freesTo_le s.js s.js.length
    change (frees s.js).length ≤ s.js.length at hfr
    have hcn : nC s ≤ 2 * s.ms.length := colsTo_le s.ms s.ms.length
    have hrn : nR s ≤ 12 := by unfold nR; omega
    have : nR s * nC s ≤ 12 * 16 := Nat.mul_le_mul (by omega) (by omega)
    simp [fprog, right_length]; omega
  · simp [noPg]

end Go.Proofs.YtmbcofnnibpbeaaGreat.Vm

namespace Go.Proofs.YtmbcofnnibpbeaaGreat.Vm
open Go Go.Proofs
set_option linter.unusedSimpArgs false
set_option linter.unusedVariables false

def bv (bs : List Int) : List (List V) := bs.map fun b => [.int .u8 b]
@[simp] theorem bv_length (bs : List Int) : (bv bs).length = bs.length := by simp [bv]
theorem bv_get (bs : List Int) (i : Nat) (h : i < bs.length) : (bv bs)[i]? = some [.int .u8 bs[i]] := by simp [bv, h]
@[simp] theorem bv_getE (bs : List Int) (i : Nat) (h : i < (bv bs).length) : (bv bs)[i] = [.int .u8 (bs[i]'(by simpa using h))] := by simp [bv]
/-- A cursor over a code. -/
def cur (bs : List Int) (i h : Int) : Blk := ⟨3, [[.sl (bv bs), .int .i64 i, .int .i64 h]]⟩
theorem and255 (x : BitVec 64) : (x &&& 255#64).toNat ≤ 255 := by
  rw [BitVec.toNat_and]; exact Nat.and_le_right
/-- The last eight bits. -/
def lo8 (a : Int) : Int := IntKind.i64.wrap ((BitVec.ofInt 64 a &&& BitVec.ofInt 64 255).toNat)
theorem lo8_le (a : Int) : 0 ≤ lo8 a ∧ lo8 a ≤ 255 := by
  have h : (BitVec.ofInt 64 a &&& BitVec.ofInt 64 255).toNat ≤ 255 := by
    rw [BitVec.toNat_and]
    exact Nat.le_trans Nat.and_le_right (by decide)
  unfold lo8
  rw [i64_in (by omega) (by omega)]
  omega
@[simp high] theorem binV_lo8 (P : Program) (t : TypeId) (a : Int) : binV P .and t (.int .i64 a) (.int .i64 255) = some (.int .i64 (lo8 a)) := rfl
def shrN (a : Int) (n : Nat) : Int := a.fdiv (2 ^ n)
def xorI (a b : Int) : Int := IntKind.i64.wrap ((BitVec.ofInt 64 a ^^^ BitVec.ofInt 64 b).toNat)
@[simp high] theorem binV_33 (P : Program) (t : TypeId) (a : Int) : binV P .shr t (.int .i64 a) (.int .u64 33) = some (.int .i64 (shrN a 33)) := rfl
@[simp high] theorem binV_45 (P : Program) (t : TypeId) (a : Int) : binV P .shr t (.int .i64 a) (.int .u64 45) = some (.int .i64 (shrN a 45)) := rfl
@[simp high] theorem binV_xorI (P : Program) (t : TypeId) (a b : Int) : binV P .xor t (.int .i64 a) (.int .i64 b) = some (.int .i64 (xorI a b)) := rfl
structure CurOk (bs : List Int) (i : Int) : Prop where
  n : bs.length ≤ 1048576
  b : ∀ x, x ∈ bs → 0 ≤ x ∧ x < 256
  i0 : 0 ≤ i
  i1 : i ≤ bs.length

theorem l01Byte_cp {bl : Int → Option Blk} {K : V → (Int → Option Blk) → Prop} (bs : List Int) (i h g : Int) (hc : CurOk bs i) (hb : bl g = some (cur bs i h))
    (hK : ∀ (x i' h' : Int), 0 ≤ x ∧ x ≤ 255 → CurOk bs i' → K (.int .i64 x) (upd bl g (some (cur bs i' h')))) : CallP Tryz.prog 80 [.loc g 3 0 0] bl K := by
  obtain ⟨hn, hbs, h0, h1⟩ := hc
  obtain ⟨k, rfl⟩ : ∃ k : Nat, i = k := ⟨i.toNat, by omega⟩
  refine callP_of Tryz.func80 rfl rfl (by rw [Tryz.ntmps80]; simp) ?_
  rw [Tryz.ntmps80, Tryz.results80]
  refine AW_run ?_
  simp [hb, cur]
  generalize IntKind.i64.wrap (IntKind.i64.wrap (h * 6364136223846793005) + 1442695040888963407) = h2
  refine AW_quiet mixedO (by kernel_rfl) ?_
  simp [-binV, -intV, binV_lo8, binV_33, binV_45, binV_xorI]
  obtain ⟨x0, hx0⟩ : ∃ x, x = lo8 (xorI (shrN h2 33) (shrN h2 45)) := ⟨_, rfl⟩
  have bx := lo8_le (xorI (shrN h2 33) (shrN h2 45))
  rw [← hx0] at bx ⊢
  clear hx0
  refine AW_quiet mixedO (by kernel_rfl) ?_
  simp
  refine ⟨fun hlt => ?_, fun hlt => ?_⟩
  · have hk : k < bs.length := by omega
    have q := bv_get bs k hk
    have w1 : IntKind.i64.wrap ((k : Int) + 1) = k + 1 := i64_in (by omega) (by omega)
    refine AW_quiet mixedO (by kernel_rfl) ?_
    simp [hk, q, binV_lo8]
    rw [retK_ret]
    refine ⟨[_], by simp; rfl, ?_⟩
    simp [w1]
    exact hK _ _ _ (lo8_le _) ⟨hn, hbs, by omega, by omega⟩
  · rw [retK_ret]
    refine ⟨[_], by simp; rfl, ?_⟩
    simp
    exact hK _ _ _ bx ⟨hn, hbs, h0, h1⟩

theorem l01Below_cp {bl : Int → Option Blk} {K : V → (Int → Option Blk) → Prop} (bs : List Int) (i h g n : Int) (hn : 1 ≤ n ∧ n ≤ 256) (hc : CurOk bs i) (hb : bl g = some (cur bs i h))
    (hK : ∀ (x i' h' : Int), 0 ≤ x ∧ x < n → CurOk bs i' → K (.int .i64 x) (upd bl g (some (cur bs i' h')))) : CallP Tryz.prog 82 [.loc g 3 0 0, .int .i64 n] bl K := by
  refine callP_of Tryz.func82 rfl rfl (by rw [Tryz.ntmps82]; simp) ?_
  rw [Tryz.ntmps82, Tryz.results82]
  refine AW_run ?_
  simp
  refine ⟨fun h1 => by omega, fun h1 => ⟨fun h2 => ?_, fun h2 => by omega⟩⟩
  refine l01Byte_cp bs i h g hc hb fun x i' h' hx hc' => ?_
  have hm : x.tmod n = x % n := Int.tmod_eq_emod_of_nonneg hx.1
  have m1 := Int.emod_nonneg x (show n ≠ 0 by omega)
  have m2 := Int.emod_lt_of_pos x (show 0 < n by omega)
  have n0 : ¬ n = 0 := by omega
  simp [n0]
  rw [retK_ret]
  refine ⟨[_], by simp; rfl, ?_⟩
  simp
  rw [hm]
  exact hK _ _ _ ⟨m1, m2⟩ hc'

theorem l01Once_cp {bl : Int → Option Blk} {K : V → (Int → Option Blk) → Prop} (bs : List Int) (i h g n : Int) (hn : 1 ≤ n ∧ n ≤ 256) (hc : CurOk bs i) (hb : bl g = some (cur bs i h))
    (hK : ∀ (x : Bool) (i' h' : Int), CurOk bs i' → K (.bool x) (upd bl g (some (cur bs i' h')))) : CallP Tryz.prog 134 [.loc g 3 0 0, .int .i64 n] bl K := by
  refine callP_of Tryz.func134 rfl rfl (by rw [Tryz.ntmps134]; simp) ?_
  rw [Tryz.ntmps134, Tryz.results134]
  refine AW_run ?_
  simp
  refine l01Below_cp bs i h g n hn hc hb fun x i' h' hx hc' => ?_
  simp
  rw [retK_ret]
  refine ⟨[_], by simp; rfl, ?_⟩
  exact hK _ _ _ hc'

theorem l01Pick_cp {bl : Int → Option Blk} {K : V → (Int → Option Blk) → Prop} (bs : List Int) (i h g g2 : Int) (xs : List Int) (hn : 1 ≤ xs.length ∧ xs.length ≤ 256) (hc : CurOk bs i) (hb : bl g = some (cur bs i h)) (h2 : bl g2 = some ⟨1, iv xs⟩) (hne : g2 ≠ g) (h0 : 0 ≤ g2)
    (hK : ∀ (x i' h' : Int), x ∈ xs → CurOk bs i' → K (.int .i64 x) (upd bl g (some (cur bs i' h')))) : CallP Tryz.prog 83 [.loc g 3 0 0, .lsl g2 1 0 xs.length] bl K := by
  refine callP_of Tryz.func83 rfl rfl (by rw [Tryz.ntmps83]; simp) ?_
  rw [Tryz.ntmps83, Tryz.results83]
  refine AW_run ?_
  simp
  refine l01Below_cp bs i h g xs.length (by omega) hc hb fun x i' h' hx hc' => ?_
  obtain ⟨m, rfl⟩ : ∃ m : Nat, x = m := ⟨x.toNat, by omega⟩
  have hm : m < xs.length := by omega
  simp [hm, hne, h2]
  rw [retK_ret]
  refine ⟨[_], by simp; rfl, ?_⟩
  exact hK _ _ _ (List.getElem_mem hm) hc'

end Go.Proofs.YtmbcofnnibpbeaaGreat.Vm

namespace Go.Proofs.YtmbcofnnibpbeaaGreat.Vm
open Go Go.Proofs
set_option linter.unusedSimpArgs false
set_option linter.unusedVariables false

def msk (a b : Int) : Int := IntKind.i64.wrap ((BitVec.ofInt 64 a &&& BitVec.ofInt 64 b).toNat)
theorem binV_msk (P : Program) (t : TypeId) (a b : Int) : binV P .and t (.int .i64 a) (.int .i64 b) = some (.int .i64 (msk a b)) := rfl
theorem binV_addI (P : Program) (t : TypeId) (a b : Int) : binV P .add t (.int .i64 a) (.int .i64 b) = some (.int .i64 (IntKind.i64.wrap (a + b))) := rfl
theorem binV_mulI (P : Program) (t : TypeId) (a b : Int) : binV P .mul t (.int .i64 a) (.int .i64 b) = some (.int .i64 (IntKind.i64.wrap (a * b))) := rfl
theorem l01New_cp {bl : Int → Option Blk} {K : V → (Int → Option Blk) → Prop} (bs : List Int) (hn : bs.length ≤ 1048576)
    (hK : ∀ (g h : Int), 0 ≤ g → bl g = none → K (.loc g 3 0 0) (upd bl g (some (cur bs 0 h)))) : CallP Tryz.prog 37 [.sl (bv bs)] bl K := by
  refine callP_of Tryz.func37 rfl rfl (by rw [Tryz.ntmps37]; simp) ?_
  rw [Tryz.ntmps37, Tryz.results37]
  refine AW_run ?_
  simp
  refine AW_for (fun p : Nat × Int => [(0, .sl (bv bs)), (3, .int .i64 p.2), (4, .int .i64 p.1)]) (fun _ => bl) (fun p => p.1 ≤ bs.length) (fun p => bs.length - p.1) 32 (0, _) (Nat.zero_le _) ⟨rfl, by simp; rfl, Sub.refl _⟩ ?_
  rintro ⟨i, h⟩ hi
  simp only at hi
  refine AW_run ?_
  simp
  refine AW_way0 [(0, .sl (bv bs)), (3, .int .i64 h), (4, .int .i64 i)] _ bl 15 (.bool (decide (i < bs.length) && decide (i < 4000))) ⟨rfl, by simp, Sub.refl _⟩ rfl ?_ ?_
  · simp
    refine ⟨fun h => by rw [decide_eq_true h, Bool.true_and]; exact decide_eq_decide.2 (by omega), fun h1 h2 => by omega⟩
  have w1 : IntKind.i64.wrap ((i : Int) + 1) = i + 1 := i64_in (by omega) (by omega)
  simp [-binV, -intV, binV_msk, binV_addI, binV_mulI]
  refine ⟨fun h1 h2 => ?_, fun h1 => ?_⟩
  · simp [-binV, -intV, binV_msk, binV_addI, binV_mulI, h1, w1]
    rw [loopQ_normal]
    exact ⟨(i + 1, msk (IntKind.i64.wrap (IntKind.i64.wrap (IntKind.i64.wrap (h * 73) + IntKind.i64.wrap bs[i]) + 7)) 1073741823), by simp only; omega, by simp only; omega, rfl, by simp, Sub.refl _⟩
  · intro g hg hb
    rw [retK_ret]
    refine ⟨[_], by simp; rfl, ?_⟩
    exact hK g h hg hb

theorem l32New_cp {bl : Int → Option Blk} {K : V → (Int → Option Blk) → Prop} (bs : List Int) (n : Nat) (hn : bs.length ≤ 1048576) (hb : ∀ x, x ∈ bs → 0 ≤ x ∧ x < 256) (hn2 : n ≤ 1048576)
    (hK : ∀ (g i h : Int), 0 ≤ g → bl g = none → CurOk bs i → K (.loc g 3 0 0) (upd bl g (some (cur bs i h)))) : CallP Tryz.prog 38 [.sl (bv bs), .int .i64 n] bl K := by
  refine callP_of Tryz.func38 rfl rfl (by rw [Tryz.ntmps38]; simp) ?_
  rw [Tryz.ntmps38, Tryz.results38]
  refine AW_run ?_
  simp
  refine l01New_cp bs hn fun g h hg0 hg => ?_
  simp
  refine AW_for (fun p : Nat × Int × Int => [(1, .int .i64 n), (5, .loc g 3 0 0), (6, .int .i64 p.1)]) (fun p => upd bl g (some (cur bs p.2.1 p.2.2))) (fun p => p.1 ≤ n ∧ CurOk bs p.2.1) (fun p => n - p.1) 17 (0, 0, h) ⟨Nat.zero_le _, hn, hb, Int.le_refl _, by simp⟩ ⟨rfl, by simp, sub_eq rfl⟩ ?_
  rintro ⟨k, i, h⟩ ⟨hk, hc⟩
  simp only at hk hc
  refine AW_run ?_
  simp
  refine ⟨fun h1 => ?_, fun h1 => ?_⟩
  · refine l01Byte_cp bs i h g hc (by simp) fun x i' h' hx hc' => ?_
    have w1 : IntKind.i64.wrap ((k : Int) + 1) = k + 1 := i64_in (by omega) (by omega)
    simp [w1]
    rw [loopQ_normal]
    exact ⟨(k + 1, i', h'), ⟨by simp only; omega, hc'⟩, by simp only; omega, rfl, by simp, sub_eq (by simp)⟩
  · rw [retK_ret]
    refine ⟨[_], by simp; rfl, ?_⟩
    exact hK g i h hg0 hg hc

end Go.Proofs.YtmbcofnnibpbeaaGreat.Vm

namespace Go.Proofs.YtmbcofnnibpbeaaGreat.Vm
open Go Go.Proofs
set_option linter.unusedSimpArgs false
set_option linter.unusedVariables false

structure LD where
  k : Nat
  ns : List Int
  i : Int
  h : Int

theorem iv_set46 (ns : List Int) (i : Nat) (x : Int) : (iv ns).set i [.int .i64 x] = iv (ns.set i x) := by simp [iv, List.map_set]
theorem set_in {ns : List Int} {i : Nat} {x : Int} (h : ∀ y, y ∈ ns → -8 ≤ y ∧ y ≤ 8) (hx : -8 ≤ x ∧ x ≤ 8) : ∀ y, y ∈ ns.set i x → -8 ≤ y ∧ y ≤ 8 := by
  intro y hy
  rcases List.mem_or_eq_of_mem_set hy with hy | rfl
  · exact h y hy
  · exact hx
theorem l13Draw_cp {bl : Int → Option Blk} {K : V → (Int → Option Blk) → Prop} (bs : List Int) (i h g : Int) (s : Str) (hj : 1 ≤ s.js.length ∧ s.js.length ≤ 6) (hc : CurOk bs i) (hb : bl g = some (cur bs i h))
    (hK : ∀ (g2 : Int) (ns : List Int) (i' h' : Int) bl', 0 ≤ g2 → bl g2 = none → ns.length = 2 * s.js.length → (∀ x, x ∈ ns → -8 ≤ x ∧ x ≤ 8) → CurOk bs i' → bl' g = some (cur bs i' h') → bl' g2 = some ⟨1, iv ns⟩ → (∀ x y, x ≠ g → bl x = some y → bl' x = some y) → K (.lsl g2 1 0 (2 * s.js.length)) bl') :
    CallP Tryz.prog 79 [.loc g 3 0 0, .agg s.c] bl K := by
  refine callP_of Tryz.func79 rfl rfl (by rw [Tryz.ntmps79]; simp) ?_
  rw [Tryz.ntmps79, Tryz.results79]
  refine AW_run ?_
  have w0 : IntKind.i64.wrap (2 * (s.js.length : Int)) = 2 * s.js.length := i64_in (by omega) (by omega)
  simp [Str.c, w0]
  intro gs hgs0 hgs
  refine ⟨2 * s.js.length, by simp, by simp, by omega, by unfold maxLen; omega, fun g2 hg2 h2 => ?_⟩
  have ngs : gs ≠ g := fun e => by rw [e, hb] at hgs; cases hgs
  simp at h2
  obtain ⟨n2s, hb2⟩ := h2
  have n2g : g2 ≠ g := fun e => by rw [e, hb] at hb2; cases hb2
  have er : List.replicate (2 * s.js.length) [V.int IntKind.i64 0] = iv (List.replicate (2 * s.js.length) 0) := by simp [iv]
  simp [n2s, Ne.symm n2s, er]
  refine AW_for (fun p : LD => [(0, .loc g 3 0 0), (3, .loc gs 2 0 0), (5, .lsl g2 1 0 (2 * s.js.length)), (14, .sl (jv s.js)), (15, .int .i64 s.js.length), (16, .int .i64 p.k)]) (fun p => upd (upd (upd bl gs (some ⟨2, [[.sl (jv s.js), .sl (mv s.ms)]]⟩)) g2 (some ⟨1, iv p.ns⟩)) g (some (cur bs p.i p.h)))
    (fun p => p.k ≤ s.js.length ∧ CurOk bs p.i ∧ p.ns.length = 2 * s.js.length ∧ ∀ x, x ∈ p.ns → -8 ≤ x ∧ x ≤ 8) (fun p => s.js.length - p.k) 48 ⟨0, List.replicate (2 * s.js.length) 0, i, h⟩ ⟨Nat.zero_le _, hc, by simp, fun x hx => by simp at hx; omega⟩ ⟨rfl, by simp, fun x y hx => by simp only [upd_apply] at hx ⊢; grind⟩ ?_
  rintro ⟨k, ns, i', h'⟩ ⟨hk, hc', hl, hr⟩
  simp only at hk hc' hl hr
  refine AW_run ?_
  simp
  refine ⟨fun h1 => ?_, fun h1 => ?_⟩
  · simp [h1, J.c]
    intro g7 hg7 h7g h72 h7s hb7
    refine ⟨fun hf => ?_, fun hf => ?_⟩
    · have w2 : IntKind.i64.wrap (2 * (k : Int)) = 2 * k := i64_in (by omega) (by omega)
      have w3 : IntKind.i64.wrap (2 * (k : Int) + 1) = 2 * k + 1 := i64_in (by omega) (by omega)
      have p1 : 0 ≤ 2 * (k : Int) := by omega
      have p2 : 0 ≤ 2 * (k : Int) + 1 := by omega
      have p3 : 2 * (k : Int) < 2 * s.js.length := by omega
      have p4 : 2 * (k : Int) + 1 < 2 * s.js.length := by omega
      have t1 : (2 * (k : Int)).toNat = 2 * k := by omega
      have t2 : (2 * (k : Int) + 1).toNat = 2 * k + 1 := by omega
      refine l01Below_cp bs i' h' g 7 (by omega) hc' (by simp [Ne.symm h7g]) fun x i1 h1' hx hc1 => ?_
      have w4 : IntKind.i64.wrap (x - 3) = x - 3 := i64_in (by omega) (by omega)
      have k1 : 2 * k < ns.length := by omega
      simp [w2, w3, w4, p1, p2, p3, p4, t1, t2, h7g, Ne.symm h7g, h72, Ne.symm h72, n2g, Ne.symm n2g, k1]
      refine ⟨h1, l01Below_cp bs i1 h1' g 9 (by omega) hc1 (by simp [Ne.symm n2g]) fun y i2 h2' hy hc2 => ?_⟩
      have w5 : IntKind.i64.wrap (-y) = -y := i64_in (by omega) (by omega)
      have k2 : 2 * k + 1 < ns.length := by omega
      have w1 : IntKind.i64.wrap ((k : Int) + 1) = k + 1 := i64_in (by omega) (by omega)
      simp [w1, w5, p2, p4, t2, n2g, Ne.symm n2g, k2, iv_set46]
      rw [loopQ_normal]
      refine ⟨⟨k + 1, (ns.set (2 * k) (x - 3)).set (2 * k + 1) (-y), i2, h2'⟩, ⟨by simp only; omega, hc2, by simp [hl], set_in (set_in hr (by omega)) (by omega)⟩, by simp only; omega, rfl, by simp, ?_⟩
      intro u z hx
      simp only [upd_apply] at hx ⊢
      grind
    · have w1 : IntKind.i64.wrap ((k : Int) + 1) = k + 1 := i64_in (by omega) (by omega)
      simp [w1]
      rw [loopQ_normal]
      exact ⟨⟨k + 1, ns, i', h'⟩, ⟨by simp only; omega, hc', hl, hr⟩, by simp only; omega, rfl, by simp, by simp [h7g, h72, h7s, hb7]⟩
  · have n8 : 1 ≤ (8 : Int) ∧ (8 : Int) ≤ 256 := by omega
    refine l01Once_cp bs i' h' g 8 n8 hc' (by simp) fun x i1 h1' hc1 => ?_
    cases x
    · simp
      rw [retK_ret]
      refine ⟨[_], by simp; rfl, ?_⟩
      refine hK g2 ns i1 h1' _ hg2 hb2 hl hr hc1 (by simp) (by simp [n2g]) fun u z hu hz => ?_
      have e1 : u ≠ gs := fun e => by rw [e, hgs] at hz; cases hz
      have e2 : u ≠ g2 := fun e => by rw [e, hb2] at hz; cases hz
      simp [hu, e1, e2, hz]
    · have w6 : IntKind.i64.wrap (2 * (s.js.length : Int) - 1) = 2 * s.js.length - 1 := i64_in (by omega) (by omega)
      have p5 : 0 ≤ 2 * (s.js.length : Int) - 1 := by omega
      have p6 : 2 * (s.js.length : Int) - 1 < 2 * s.js.length := by omega
      have t3 : (2 * (s.js.length : Int) - 1).toNat = 2 * s.js.length - 1 := by omega
      have k3 : 2 * s.js.length - 1 < ns.length := by omega
      simp [w6, p5, p6, t3, n2g, Ne.symm n2g, k3, iv_set46]
      refine ⟨by omega, ?_⟩
      rw [retK_ret]
      refine ⟨[_], by simp; rfl, ?_⟩
      refine hK g2 (ns.set (2 * s.js.length - 1) 4) i1 h1' _ hg2 hb2 (by simp [hl]) (set_in hr (by omega)) hc1 (by simp [Ne.symm n2g]) (by simp) fun u z hu hz => ?_
      have e1 : u ≠ gs := fun e => by rw [e, hgs] at hz; cases hz
      have e2 : u ≠ g2 := fun e => by rw [e, hb2] at hz; cases hz
      simp [hu, e1, e2, hz]

end Go.Proofs.YtmbcofnnibpbeaaGreat.Vm

namespace Go.Proofs.YtmbcofnnibpbeaaGreat.Vm
open Go Go.Proofs
set_option linter.unusedSimpArgs false
set_option linter.unusedVariables false

/-- What follows a structure drawn. -/
def StrK (bl : Int → Option Blk) (K : V → (Int → Option Blk) → Prop) (bs : List Int) (g : Int) : Prop :=
  ∀ (s : Str) (i' h' : Int) bl', sOk s = true → 3 ≤ s.js.length → CurOk bs i' → bl' g = some (cur bs i' h') → (∀ x y, x ≠ g → bl x = some y → bl' x = some y) → K (.agg s.c) bl'
theorem iv4 (a b c d : Int) : [[V.int .i64 a], [V.int .i64 b], [V.int .i64 c], [V.int .i64 d]] = iv [a, b, c, d] := rfl
theorem iv3 (a b c : Int) : [[V.int .i64 a], [V.int .i64 b], [V.int .i64 c]] = iv [a, b, c] := rfl
def nmA : ByteArray := { data := #[97] }
def nmB : ByteArray := { data := #[98] }
def nmC : ByteArray := { data := #[99] }
def nmD : ByteArray := { data := #[100] }
def js3 (x1 x2 x3 x4 x5 x6 : Int) : List J := [⟨nmA, -1 - x1, x2, true⟩, ⟨nmB, 3 + x3, x4, true⟩, ⟨nmC, x5 - 1, -1 - x6, false⟩]
def ms2 (x7 : Int) : List Mb := [⟨0, 2, 1⟩, ⟨1, 2, x7⟩]
theorem sOk_mk {js : List J} {ms : List Mb} (hj : js.length ≤ 6) (hm : ms.length ≤ 8) (h1 : ∀ j, j ∈ js → j.ok = true) (h2 : (js.map (·.name)).Nodup) (h3 : ∀ m, m ∈ ms → mOk js m = true) : sOk ⟨js, ms⟩ = true := by
  unfold sOk
  simp only [Bool.and_eq_true, decide_eq_true_eq]
  refine ⟨⟨⟨hj, hm⟩, fun i hi => ⟨h1 _ (List.getElem_mem hi), ?_⟩⟩, List.all_eq_true.2 h3⟩
  refine ixf_here hi (fun j hj hlt => ?_) (by simp)
  have := List.pairwise_iff_getElem.1 h2 j i (by simpa using hj) (by simpa using hi) hlt
  simpa using this
theorem nms : isName nmA = true ∧ isName nmB = true ∧ isName nmC = true ∧ isName nmD = true := by decide
theorem hang_ok {x1 x2 x3 x4 x5 x6 x7 : Int} (h1 : 0 ≤ x1 ∧ x1 < 4) (h2 : 0 ≤ x2 ∧ x2 < 3) (h3 : 0 ≤ x3 ∧ x3 < 4) (h4 : 0 ≤ x4 ∧ x4 < 3) (h5 : 0 ≤ x5 ∧ x5 < 4) (h6 : 0 ≤ x6 ∧ x6 < 4) (h7 : 1 ≤ x7 ∧ x7 ≤ 3) : sOk ⟨js3 x1 x2 x3 x4 x5 x6, ms2 x7⟩ = true := by
  obtain ⟨na, nb, nc, nd⟩ := nms
  refine sOk_mk (by simp [js3]) (by simp [ms2]) (fun j hj => ?_) (by show ([nmA, nmB, nmC] : List ByteArray).Nodup; decide) (fun m hm => ?_)
  · simp only [js3, List.mem_cons, List.not_mem_nil, or_false] at hj
    rcases hj with rfl | rfl | rfl <;> simp [J.ok, na, nb, nc] <;> omega
  · simp only [ms2, List.mem_cons, List.not_mem_nil, or_false] at hm
    rcases hm with rfl | rfl <;> simp [mOk, js3, jat] <;> omega
def js4 (x1 x2 x3 x4 x5 x6 x8 : Int) : List J := js3 x1 x2 x3 x4 x5 x6 ++ [⟨nmD, x8 - 1, -7, true⟩]
def ms3 (x7 x9 : Int) : List Mb := ms2 x7 ++ [⟨3, 2, x9⟩]
theorem hang_ok4 {x1 x2 x3 x4 x5 x6 x7 x8 x9 : Int} (h1 : 0 ≤ x1 ∧ x1 < 4) (h2 : 0 ≤ x2 ∧ x2 < 3) (h3 : 0 ≤ x3 ∧ x3 < 4) (h4 : 0 ≤ x4 ∧ x4 < 3) (h5 : 0 ≤ x5 ∧ x5 < 4) (h6 : 0 ≤ x6 ∧ x6 < 4) (h7 : 1 ≤ x7 ∧ x7 ≤ 3) (h8 : 0 ≤ x8 ∧ x8 < 5) (h9 : 1 ≤ x9 ∧ x9 ≤ 3) : sOk ⟨js4 x1 x2 x3 x4 x5 x6 x8, ms3 x7 x9⟩ = true := by
  obtain ⟨na, nb, nc, nd⟩ := nms
  refine sOk_mk (by simp [js4, js3]) (by simp [ms3, ms2]) (fun j hj => ?_) (by show ([nmA, nmB, nmC, nmD] : List ByteArray).Nodup; decide) (fun m hm => ?_)
  · simp only [js4, js3, List.cons_append, List.nil_append, List.mem_cons, List.not_mem_nil, or_false] at hj
    rcases hj with rfl | rfl | rfl | rfl <;> simp [J.ok, na, nb, nc, nd] <;> omega
  · simp only [ms3, ms2, List.cons_append, List.nil_append, List.mem_cons, List.not_mem_nil, or_false] at hm
    rcases hm with rfl | rfl | rfl <;> simp [mOk, js4, js3, jat] <;> omega
theorem l12Hang_cp {bl : Int → Option Blk} {K : V → (Int → Option Blk) → Prop} (bs : List Int) (i h g : Int) (hc : CurOk bs i) (hb : bl g = some (cur bs i h)) (hK : StrK bl K bs g) :
    CallP Tryz.prog 136 [.loc g 3 0 0] bl K := by
  refine callP_of Tryz.func136 rfl rfl (by rw [Tryz.ntmps136]; simp) ?_
  rw [Tryz.ntmps136, Tryz.results136]
  refine AW_runA ?_
  simp
  intro ga hga0 hga
  have nag : ga ≠ g := fun e => by rw [e, hb] at hga; cases hga
  refine AW_runA ?_
  simp
  intro gs hgs0 hgsa hgs
  have nsg : gs ≠ g := fun e => by rw [e, hb] at hgs; cases hgs
  refine AW_runA ?_
  simp
  refine l01Below_cp bs i h g 4 (by omega) hc (by simp [nag, nsg, Ne.symm nag, Ne.symm nsg, hgsa, Ne.symm hgsa, hb]) fun x1 i1 h1 hx1 hc1 => ?_
  have w1 : IntKind.i64.wrap (-1 - x1) = -1 - x1 := i64_in (by omega) (by omega)
  simp [nag, nsg, Ne.symm nag, Ne.symm nsg, hgsa, Ne.symm hgsa, w1]
  refine l01Below_cp bs i1 h1 g 3 (by omega) hc1 (by simp [nag, nsg, Ne.symm nag, Ne.symm nsg, hgsa, Ne.symm hgsa, hb]) fun x2 i2 h2 hx2 hc2 => ?_
  simp [nag, nsg, Ne.symm nag, Ne.symm nsg, hgsa, Ne.symm hgsa]
  refine l01Below_cp bs i2 h2 g 4 (by omega) hc2 (by simp [nag, nsg, Ne.symm nag, Ne.symm nsg, hgsa, Ne.symm hgsa, hb]) fun x3 i3 h3 hx3 hc3 => ?_
  have w3 : IntKind.i64.wrap (3 + x3) = 3 + x3 := i64_in (by omega) (by omega)
  simp [nag, nsg, Ne.symm nag, Ne.symm nsg, hgsa, Ne.symm hgsa, w3]
  refine l01Below_cp bs i3 h3 g 3 (by omega) hc3 (by simp [nag, nsg, Ne.symm nag, Ne.symm nsg, hgsa, Ne.symm hgsa, hb]) fun x4 i4 h4 hx4 hc4 => ?_
  simp [nag, nsg, Ne.symm nag, Ne.symm nsg, hgsa, Ne.symm hgsa]
  refine l01Below_cp bs i4 h4 g 4 (by omega) hc4 (by simp [nag, nsg, Ne.symm nag, Ne.symm nsg, hgsa, Ne.symm hgsa, hb]) fun x5 i5 h5 hx5 hc5 => ?_
  have w5 : IntKind.i64.wrap (x5 - 1) = x5 - 1 := i64_in (by omega) (by omega)
  simp [nag, nsg, Ne.symm nag, Ne.symm nsg, hgsa, Ne.symm hgsa, w5]
  refine l01Below_cp bs i5 h5 g 4 (by omega) hc5 (by simp [nag, nsg, Ne.symm nag, Ne.symm nsg, hgsa, Ne.symm hgsa, hb]) fun x6 i6 h6 hx6 hc6 => ?_
  have w6 : IntKind.i64.wrap (-1 - x6) = -1 - x6 := i64_in (by omega) (by omega)
  simp [nag, nsg, Ne.symm nag, Ne.symm nsg, hgsa, Ne.symm hgsa, w6]
  intro g5 hg5 n5g n5s n5a hb5
  simp [nag, nsg, Ne.symm nag, Ne.symm nsg, hgsa, Ne.symm hgsa, n5g, n5s, n5a, Ne.symm n5g, Ne.symm n5s, Ne.symm n5a, show List.range 3 = [0, 1, 2] from rfl]
  refine AW_runA ?_
  simp [nag, nsg, Ne.symm nag, Ne.symm nsg, hgsa, Ne.symm hgsa, n5g, n5s, n5a, Ne.symm n5g, Ne.symm n5s, Ne.symm n5a]
  intro g6 hg6 n6s n65 n6g _ n6a hb6
  refine l01Pick_cp bs i6 h6 g g6 [1, 1, 1, 3] (by simp) hc6 (by simp [n6g, Ne.symm n6g, nag, nsg, Ne.symm nag, Ne.symm nsg, hgsa, Ne.symm hgsa, Ne.symm n5g]) (by simp [iv, show List.range 4 = [0, 1, 2, 3] from rfl]) n6g hg6 fun x7 i7 h7 hx7 hc7 => ?_
  simp [nag, nsg, Ne.symm nag, Ne.symm nsg, hgsa, Ne.symm hgsa, n5g, n5s, n5a, Ne.symm n5g, Ne.symm n5s, Ne.symm n5a, n6s, n65, n6g, n6a, Ne.symm n6s, Ne.symm n65, Ne.symm n6g, Ne.symm n6a]
  intro g7 hg7 n7g n76 n7s n75 _ _ n7a hb7
  simp [nag, nsg, Ne.symm nag, Ne.symm nsg, hgsa, Ne.symm hgsa, n5g, n5s, n5a, Ne.symm n5g, Ne.symm n5s, Ne.symm n5a, n6s, n65, n6g, n6a, Ne.symm n6s, Ne.symm n65, Ne.symm n6g, Ne.symm n6a, n7g, n76, n7s, n75, n7a, Ne.symm n7g, Ne.symm n76, Ne.symm n7s, Ne.symm n75, Ne.symm n7a, show List.range 2 = [0, 1] from rfl]
  have hx7' : x7 = 1 ∨ x7 = 3 := by simpa using hx7
  obtain ⟨b0, hb0⟩ : ∃ b0, b0 = upd bl g none := ⟨_, rfl⟩
  have b0g : b0 g = none := by rw [hb0]; simp
  have b0k : ∀ x, x ≠ g → b0 x = bl x := fun x hx => by rw [hb0, upd_apply, if_neg hx]
  have b0a : b0 ga = none := by rw [b0k _ nag]; exact hga
  have b0s : b0 gs = none := by rw [b0k _ nsg]; exact hgs
  have b05 : b0 g5 = none := by rw [b0k _ n5g]; exact hb5
  have b07 : b0 g7 = none := by rw [b0k _ n7g]; exact hb7
  clear hb0
  refine AW_at [(0, .loc g 3 0 0), (2, .loc ga 2 0 0), (3, .loc gs 2 0 0)] 54 (upd (upd (upd (upd (upd b0 ga (some ⟨2, [[.nils, .nils]]⟩)) g5 (some ⟨4, jv (js3 x1 x2 x3 x4 x5 x6)⟩)) g7 (some ⟨3, mv (ms2 x7)⟩)) gs (some ⟨2, [[.lsl g5 4 0 3, .lsl g7 3 0 2]]⟩)) g (some (cur bs i7 h7))) ⟨rfl, by simp, by
    simp only [jv, mv, js3, ms2, List.map, J.c, Mb.c, nmA, nmB, nmC, nmD]
    intro z b hz
    have := b0k z
    simp only [upd_apply] at hz ⊢
    grind⟩ ?_
  clear hb hga hgs hb5 hb6 hb7
  refine AW_runA ?_
  simp
  refine l01Once_cp bs i7 h7 g 2 (by omega) hc7 (by simp [n5g, n5s, n5a, Ne.symm n5g, Ne.symm n5s, Ne.symm n5a, n7g, n7s, n75, n7a, Ne.symm n7g, Ne.symm n7s, Ne.symm n75, Ne.symm n7a, nag, nsg, Ne.symm nag, Ne.symm nsg, hgsa, Ne.symm hgsa]) fun x8 i8 h8 hc8 => ?_
  cases x8
  · simp
    refine AW_frzAt 2 3 (.ptr (Str.mk (js3 x1 x2 x3 x4 x5 x6) (ms2 x7)).c) (upd (upd b0 ga (some ⟨2, [[.nils, .nils]]⟩)) g (some (cur bs i8 h8))) (by intro z b hz; simp only [upd_apply] at hz ⊢; grind) (by simp [frz, dropB, jv, mv, J.c, Mb.c, js3, ms2, V.cl, Int.not_lt.2 hg5, Int.not_lt.2 hg7, Str.c, b05, b07, b0s, n5g, n5s, n5a, Ne.symm n5g, Ne.symm n5s, Ne.symm n5a, n7g, n7s, n75, n7a, Ne.symm n7g, Ne.symm n7s, Ne.symm n75, Ne.symm n7a, nag, nsg, Ne.symm nag, Ne.symm nsg, hgsa, Ne.symm hgsa]) ?_
    refine AW_run ?_
    simp [Str.c, nag, Ne.symm nag]
    rw [retK_ret]
    refine ⟨[_], by simp [nag]; rfl, ?_⟩
    exact hK ⟨js3 x1 x2 x3 x4 x5 x6, ms2 x7⟩ i8 h8 _ (hang_ok (by omega) (by omega) (by omega) (by omega) (by omega) (by omega) (by omega)) (by simp [js3]) hc8 (by simp [nag, Ne.symm nag]) (fun x y hx hy => by have := b0k x hx; simp only [upd_apply]; grind)
  · simp
    refine AW_mixedBT mixedO (upd (upd (upd b0 ga (some ⟨2, [[.nils, .nils]]⟩)) g7 (some ⟨3, mv (ms2 x7)⟩)) gs (some ⟨2, [[.lsl g5 4 0 3, .lsl g7 3 0 2]]⟩)) (by intro z b hz; simp only [upd_apply] at hz ⊢; grind) [0, 1, 2] 7 9 (by kernel_rfl) ?_
    simp [n5g, n5s, n5a, Ne.symm n5g, Ne.symm n5s, Ne.symm n5a, n7g, n7s, n75, n7a, Ne.symm n7g, Ne.symm n7s, Ne.symm n75, Ne.symm n7a, nag, nsg, Ne.symm nag, Ne.symm nsg, hgsa, Ne.symm hgsa]
    refine DAny_one (i := 3) (by kernel_rfl) rfl rfl ?_
    simp
    refine l01Below_cp bs i8 h8 g 5 (by omega) hc8 (by simp [n5g, n5s, n5a, Ne.symm n5g, Ne.symm n5s, Ne.symm n5a, n7g, n7s, n75, n7a, Ne.symm n7g, Ne.symm n7s, Ne.symm n75, Ne.symm n7a, nag, nsg, Ne.symm nag, Ne.symm nsg, hgsa, Ne.symm hgsa]) fun x9 i9 h9 hx9 hc9 => ?_
    have w9 : IntKind.i64.wrap (x9 - 1) = x9 - 1 := i64_in (by omega) (by omega)
    simp
    refine ⟨by intro z b hz; simp only [upd_apply] at hz ⊢; grind, DAny_one (i := 4) (by kernel_rfl) rfl rfl ?_⟩
    simp [w9]
    refine ⟨by intro z b hz; simp only [upd_apply] at hz ⊢; grind, DAny_one (i := 5) (by kernel_rfl) rfl rfl ?_⟩
    simp
    refine ⟨by intro z b hz; simp only [upd_apply] at hz ⊢; grind, DAny_one (i := 6) (by kernel_rfl) rfl rfl ?_⟩
    simp [n5g, n5s, n5a, Ne.symm n5g, Ne.symm n5s, Ne.symm n5a, n7g, n7s, n75, n7a, Ne.symm n7g, Ne.symm n7s, Ne.symm n75, Ne.symm n7a, nag, nsg, Ne.symm nag, Ne.symm nsg, hgsa, Ne.symm hgsa]
    intro g9 hg9 n9g n9s n97 n95 n9a b09
    try simp [n5g, n5s, n5a, Ne.symm n5g, Ne.symm n5s, Ne.symm n5a, n7g, n7s, n75, n7a, Ne.symm n7g, Ne.symm n7s, Ne.symm n75, Ne.symm n7a, nag, nsg, Ne.symm nag, Ne.symm nsg, hgsa, Ne.symm hgsa, n9g, Ne.symm n9g, n9s, Ne.symm n9s, n97, Ne.symm n97, n95, Ne.symm n95, n9a, Ne.symm n9a]
    refine ⟨by intro z b hz; simp only [upd_apply, rem_apply] at hz ⊢; grind, DAny_one (i := 7) (by kernel_rfl) rfl rfl ?_⟩
    simp [n5g, n5s, n5a, Ne.symm n5g, Ne.symm n5s, Ne.symm n5a, n7g, n7s, n75, n7a, Ne.symm n7g, Ne.symm n7s, Ne.symm n75, Ne.symm n7a, nag, nsg, Ne.symm nag, Ne.symm nsg, hgsa, Ne.symm hgsa, n9g, Ne.symm n9g, n9s, Ne.symm n9s, n97, Ne.symm n97, n95, Ne.symm n95, n9a, Ne.symm n9a, appV, elsV, Int.not_lt.2 hg5, Int.not_lt.2 hg9, js3]
    intro g0 hg0 hh
    obtain ⟨n0g, n0s, n07, n0a, b00⟩ : ¬ g0 = g ∧ ¬ g0 = gs ∧ ¬ g0 = g7 ∧ ¬ g0 = ga ∧ b0 g0 = none := by
      by_cases e : g0 = g5
      · rw [e]; exact ⟨n5g, n5s, Ne.symm n75, n5a, b05⟩
      · obtain ⟨_, q1, q2, q3, _, q4, q5⟩ := hh e; exact ⟨q1, q2, q3, q4, q5⟩
    clear hh
    refine ⟨by intro z b hz; simp only [upd_apply, rem_apply] at hz ⊢; grind, DAny_one (i := 8) (by kernel_rfl) rfl rfl ?_⟩
    simp [n5g, n5s, n5a, Ne.symm n5g, Ne.symm n5s, Ne.symm n5a, n7g, n7s, n75, n7a, Ne.symm n7g, Ne.symm n7s, Ne.symm n75, Ne.symm n7a, nag, nsg, Ne.symm nag, Ne.symm nsg, hgsa, Ne.symm hgsa, n9g, Ne.symm n9g, n9s, Ne.symm n9s, n97, Ne.symm n97, n95, Ne.symm n95, n9a, Ne.symm n9a, n0g, Ne.symm n0g, n0s, Ne.symm n0s, n07, Ne.symm n07, n0a, Ne.symm n0a]
    refine ⟨by intro z b hz; simp only [upd_apply, rem_apply] at hz ⊢; grind, DAny_last (i := 9) (by kernel_rfl) rfl rfl rfl ?_⟩
    simp [n5g, n5s, n5a, Ne.symm n5g, Ne.symm n5s, Ne.symm n5a, n7g, n7s, n75, n7a, Ne.symm n7g, Ne.symm n7s, Ne.symm n75, Ne.symm n7a, nag, nsg, Ne.symm nag, Ne.symm nsg, hgsa, Ne.symm hgsa, n9g, Ne.symm n9g, n9s, Ne.symm n9s, n97, Ne.symm n97, n95, Ne.symm n95, n9a, Ne.symm n9a, n0g, Ne.symm n0g, n0s, Ne.symm n0s, n07, Ne.symm n07, n0a, Ne.symm n0a]
    refine DAny_done (by kernel_rfl) ?_
    try simp
    refine AW_at [(0, .loc g 3 0 0), (2, .loc ga 2 0 0), (3, .loc gs 2 0 0)] 54 (upd (upd (upd (upd (upd b0 ga (some ⟨2, [[.nils, .nils]]⟩)) g0 (some ⟨4, jv (js4 x1 x2 x3 x4 x5 x6 x9)⟩)) g7 (some ⟨3, mv (ms2 x7)⟩)) gs (some ⟨2, [[.lsl g0 4 0 4, .lsl g7 3 0 2]]⟩)) g (some (cur bs i9 h9))) ⟨rfl, by simp, by
      simp only [jv, mv, js4, js3, ms2, List.map, J.c, Mb.c, nmA, nmB, nmC, nmD, List.cons_append, List.nil_append]
      intro z b hz
      simp only [upd_apply, rem_apply] at hz ⊢
      grind⟩ ?_
    refine AW_mixedBT mixedO (upd (upd (upd b0 ga (some ⟨2, [[.nils, .nils]]⟩)) g0 (some ⟨4, jv (js4 x1 x2 x3 x4 x5 x6 x9)⟩)) gs (some ⟨2, [[.lsl g0 4 0 4, .lsl g7 3 0 2]]⟩)) (by intro z b hz; simp only [upd_apply, rem_apply] at hz ⊢; grind) [0, 1, 2] 7 9 (by kernel_rfl) ?_
    simp [n7g, n7s, n7a, Ne.symm n7g, Ne.symm n7s, Ne.symm n7a, nag, nsg, Ne.symm nag, Ne.symm nsg, hgsa, Ne.symm hgsa, n0g, Ne.symm n0g, n0s, Ne.symm n0s, n07, Ne.symm n07, n0a, Ne.symm n0a]
    refine DAny_one (i := 3) (by kernel_rfl) rfl rfl ?_
    simp [n7g, n7s, n7a, Ne.symm n7g, Ne.symm n7s, Ne.symm n7a, nag, nsg, Ne.symm nag, Ne.symm nsg, hgsa, Ne.symm hgsa, n0g, Ne.symm n0g, n0s, Ne.symm n0s, n07, Ne.symm n07, n0a, Ne.symm n0a, show List.range 3 = [0, 1, 2] from rfl]
    intro gb hgb nbg nbs nb7 nb0 nba b0b
    refine ⟨by intro z b hz; simp only [upd_apply, rem_apply] at hz ⊢; grind, DAny_one (i := 4) (by kernel_rfl) rfl rfl ?_⟩
    simp [n7g, n7s, n7a, Ne.symm n7g, Ne.symm n7s, Ne.symm n7a, nag, nsg, Ne.symm nag, Ne.symm nsg, hgsa, Ne.symm hgsa, n0g, Ne.symm n0g, n0s, Ne.symm n0s, n07, Ne.symm n07, n0a, Ne.symm n0a, nbg, Ne.symm nbg, nbs, Ne.symm nbs, nb7, Ne.symm nb7, nb0, Ne.symm nb0, nba, Ne.symm nba]
    refine l01Pick_cp bs i9 h9 g gb [1, 2, 3] (by simp) hc9 (by simp [n7g, n7s, n7a, Ne.symm n7g, Ne.symm n7s, Ne.symm n7a, nag, nsg, Ne.symm nag, Ne.symm nsg, hgsa, Ne.symm hgsa, n0g, Ne.symm n0g, n0s, Ne.symm n0s, n07, Ne.symm n07, n0a, Ne.symm n0a, nbg, Ne.symm nbg, nbs, Ne.symm nbs, nb7, Ne.symm nb7, nb0, Ne.symm nb0, nba, Ne.symm nba]) (by simp [iv]) nbg hgb fun xb ib hb hxb hcb => ?_
    have hxb' : xb = 1 ∨ xb = 2 ∨ xb = 3 := by simpa using hxb
    simp
    refine ⟨by intro z b hz; simp only [upd_apply, rem_apply] at hz ⊢; grind, DAny_one (i := 5) (by kernel_rfl) rfl rfl ?_⟩
    simp
    refine ⟨by intro z b hz; simp only [upd_apply, rem_apply] at hz ⊢; grind, DAny_one (i := 6) (by kernel_rfl) rfl rfl ?_⟩
    simp [n7g, n7s, n7a, Ne.symm n7g, Ne.symm n7s, Ne.symm n7a, nag, nsg, Ne.symm nag, Ne.symm nsg, hgsa, Ne.symm hgsa, n0g, Ne.symm n0g, n0s, Ne.symm n0s, n07, Ne.symm n07, n0a, Ne.symm n0a, nbg, Ne.symm nbg, nbs, Ne.symm nbs, nb7, Ne.symm nb7, nb0, Ne.symm nb0, nba, Ne.symm nba]
    intro gc hgc _ ncb ncg ncs nc7 nc0 nca b0c
    try simp [n7g, n7s, n7a, Ne.symm n7g, Ne.symm n7s, Ne.symm n7a, nag, nsg, Ne.symm nag, Ne.symm nsg, hgsa, Ne.symm hgsa, n0g, Ne.symm n0g, n0s, Ne.symm n0s, n07, Ne.symm n07, n0a, Ne.symm n0a, nbg, Ne.symm nbg, nbs, Ne.symm nbs, nb7, Ne.symm nb7, nb0, Ne.symm nb0, nba, Ne.symm nba, ncb, Ne.symm ncb, ncg, Ne.symm ncg, ncs, Ne.symm ncs, nc7, Ne.symm nc7, nc0, Ne.symm nc0, nca, Ne.symm nca]
    refine ⟨by intro z b hz; simp only [upd_apply, rem_apply] at hz ⊢; grind, DAny_one (i := 7) (by kernel_rfl) rfl rfl ?_⟩
    simp [n7g, n7s, n7a, Ne.symm n7g, Ne.symm n7s, Ne.symm n7a, nag, nsg, Ne.symm nag, Ne.symm nsg, hgsa, Ne.symm hgsa, n0g, Ne.symm n0g, n0s, Ne.symm n0s, n07, Ne.symm n07, n0a, Ne.symm n0a, nbg, Ne.symm nbg, nbs, Ne.symm nbs, nb7, Ne.symm nb7, nb0, Ne.symm nb0, nba, Ne.symm nba, ncb, Ne.symm ncb, ncg, Ne.symm ncg, ncs, Ne.symm ncs, nc7, Ne.symm nc7, nc0, Ne.symm nc0, nca, Ne.symm nca, appV, elsV, Int.not_lt.2 hg7, Int.not_lt.2 hgc, ms2]
    intro gd hgd hh
    obtain ⟨ndg, nds, nd0, nda, b0d⟩ : ¬ gd = g ∧ ¬ gd = gs ∧ ¬ gd = g0 ∧ ¬ gd = ga ∧ b0 gd = none := by
      by_cases e : gd = g7
      · rw [e]; exact ⟨n7g, n7s, Ne.symm n07, n7a, b07⟩
      · have := hh e; grind
    clear hh
    refine ⟨by intro z b hz; simp only [upd_apply, rem_apply] at hz ⊢; grind, DAny_one (i := 8) (by kernel_rfl) rfl rfl ?_⟩
    simp [n7g, n7s, n7a, Ne.symm n7g, Ne.symm n7s, Ne.symm n7a, nag, nsg, Ne.symm nag, Ne.symm nsg, hgsa, Ne.symm hgsa, n0g, Ne.symm n0g, n0s, Ne.symm n0s, n07, Ne.symm n07, n0a, Ne.symm n0a, nbg, Ne.symm nbg, nbs, Ne.symm nbs, nb7, Ne.symm nb7, nb0, Ne.symm nb0, nba, Ne.symm nba, ncb, Ne.symm ncb, ncg, Ne.symm ncg, ncs, Ne.symm ncs, nc7, Ne.symm nc7, nc0, Ne.symm nc0, nca, Ne.symm nca, ndg, Ne.symm ndg, nds, Ne.symm nds, nd0, Ne.symm nd0, nda, Ne.symm nda]
    refine ⟨by intro z b hz; simp only [upd_apply, rem_apply] at hz ⊢; grind, DAny_last (i := 9) (by kernel_rfl) rfl rfl rfl ?_⟩
    simp [n7g, n7s, n7a, Ne.symm n7g, Ne.symm n7s, Ne.symm n7a, nag, nsg, Ne.symm nag, Ne.symm nsg, hgsa, Ne.symm hgsa, n0g, Ne.symm n0g, n0s, Ne.symm n0s, n07, Ne.symm n07, n0a, Ne.symm n0a, nbg, Ne.symm nbg, nbs, Ne.symm nbs, nb7, Ne.symm nb7, nb0, Ne.symm nb0, nba, Ne.symm nba, ncb, Ne.symm ncb, ncg, Ne.symm ncg, ncs, Ne.symm ncs, nc7, Ne.symm nc7, nc0, Ne.symm nc0, nca, Ne.symm nca, ndg, Ne.symm ndg, nds, Ne.symm nds, nd0, Ne.symm nd0, nda, Ne.symm nda]
    refine DAny_done (by kernel_rfl) ?_
    try simp
    refine AW_at [(0, .loc g 3 0 0), (2, .loc ga 2 0 0), (3, .loc gs 2 0 0)] 54 (upd (upd (upd (upd (upd b0 ga (some ⟨2, [[.nils, .nils]]⟩)) g0 (some ⟨4, jv (js4 x1 x2 x3 x4 x5 x6 x9)⟩)) gd (some ⟨3, mv (ms3 x7 xb)⟩)) gs (some ⟨2, [[.lsl g0 4 0 4, .lsl gd 3 0 3]]⟩)) g (some (cur bs ib hb))) ⟨rfl, by simp, by
      simp only [jv, mv, js4, js3, ms3, ms2, List.map, J.c, Mb.c, nmA, nmB, nmC, nmD, List.cons_append, List.nil_append]
      intro z b hz
      simp only [upd_apply, rem_apply] at hz ⊢
      grind⟩ ?_
    refine AW_frzAt 2 3 (.ptr (Str.mk (js4 x1 x2 x3 x4 x5 x6 x9) (ms3 x7 xb)).c) (upd (upd b0 ga (some ⟨2, [[.nils, .nils]]⟩)) g (some (cur bs ib hb))) (by intro z b hz; simp only [upd_apply, rem_apply] at hz ⊢; grind) (by simp [frz, dropB, jv, mv, J.c, Mb.c, js4, js3, ms3, ms2, V.cl, Int.not_lt.2 hg0, Int.not_lt.2 hgd, Str.c, b00, b0d, b0s, n7g, n7s, n7a, Ne.symm n7g, Ne.symm n7s, Ne.symm n7a, nag, nsg, Ne.symm nag, Ne.symm nsg, hgsa, Ne.symm hgsa, n0g, Ne.symm n0g, n0s, Ne.symm n0s, n07, Ne.symm n07, n0a, Ne.symm n0a, ndg, Ne.symm ndg, nds, Ne.symm nds, nd0, Ne.symm nd0, nda, Ne.symm nda]) ?_
    refine AW_run ?_
    simp [Str.c, nag, Ne.symm nag]
    rw [retK_ret]
    refine ⟨[_], by simp [nag]; rfl, ?_⟩
    have hok := hang_ok4 hx1 hx2 hx3 hx4 hx5 hx6 (x7 := x7) (by rcases hx7' with h | h <;> rw [h] <;> decide) hx9 (x9 := xb) (by rcases hxb' with h | h | h <;> rw [h] <;> decide)
    exact hK ⟨js4 x1 x2 x3 x4 x5 x6 x9, ms3 x7 xb⟩ ib hb _ hok (by simp [js4, js3]) hcb (by simp [nag, Ne.symm nag]) (fun x y hx hy => by have := b0k x hx; simp only [upd_apply]; grind)
end Go.Proofs.YtmbcofnnibpbeaaGreat.Vm

namespace Go.Proofs.YtmbcofnnibpbeaaGreat.Vm
open Go Go.Proofs
set_option linter.unusedSimpArgs false
set_option linter.unusedVariables false

/-- Reading operations next. -/
theorem DAny_more {P : Program} {ops : Array Oper} {blK : Int → Option Blk} {tl : Nat → Bool} {K : St → Prop} {l : Array Bool} {σ : St} (is : List Nat) (fuel : Nat) (hs : Sub blK σ.bl) (hn : (is.all (fun i => decide (i < ops.size)) && hoistB ops is l && tailB ops tl is) = true)
    (h : HoistF P (ops.toList.map (·.dst)) blK (is.filterMap fun i => ops[i]?) (DAny P ops blK tl K fuel (setAll is l)) σ) : DAny P ops blK tl K (fuel + is.length) l σ := by
  simp only [Bool.and_eq_true] at hn
  exact DAny_hoist fuel is l σ (tailB_spec hn.2) hn.1.2 hs (Hoist_is _ is σ (filter_some is hn.1.1) h)

def tj (x1 x2 x3 x4 x5 x6 : Int) : List J := [⟨nmA, -2, x1, true⟩, ⟨nmB, 6, x2, true⟩, ⟨nmC, x3, -1 - x4, false⟩, ⟨nmD, 3 + x5, -1 - x6, false⟩]
structure TD where
  n : Nat
  ms : List Mb
  g : Int
  i : Int
  h : Int
def mGood (m : Mb) : Prop := (m.a = 0 ∨ m.a = 1 ∨ m.a = 2 ∨ m.a = 3) ∧ (m.b = 1 ∨ m.b = 2 ∨ m.b = 3) ∧ (1 ≤ m.kind ∧ m.kind ≤ 3) ∧ ((m.a ≤ 1 ∧ 2 ≤ m.b) ∨ (m.a = 2 ∧ m.b = 3) ∨ (m.a = 3 ∧ m.b = 1))
theorem two_ok {x1 x2 x3 x4 x5 x6 : Int} {ms : List Mb} (h1 : 0 ≤ x1 ∧ x1 < 3) (h2 : 0 ≤ x2 ∧ x2 < 3) (h3 : 0 ≤ x3 ∧ x3 < 2) (h4 : 0 ≤ x4 ∧ x4 < 3) (h5 : 0 ≤ x5 ∧ x5 < 2) (h6 : 0 ≤ x6 ∧ x6 < 3) (hl : ms.length ≤ 5) (hm : ∀ m, m ∈ ms → mGood m) : sOk ⟨tj x1 x2 x3 x4 x5 x6, ms⟩ = true := by
  obtain ⟨na, nb, nc, nd⟩ := nms
  refine sOk_mk (by simp [tj]) (by omega) (fun j hj => ?_) (by show ([nmA, nmB, nmC, nmD] : List ByteArray).Nodup; decide) (fun m hmm => ?_)
  · simp only [tj, List.mem_cons, List.not_mem_nil, or_false] at hj
    rcases hj with rfl | rfl | rfl | rfl <;> simp [J.ok, na, nb, nc, nd] <;> omega
  · obtain ⟨q1, q2, q3, q4⟩ := hm m hmm
    obtain ⟨ma, mb, mk⟩ := m
    simp only at q1 q2 q3 q4
    rcases q1 with rfl | rfl | rfl | rfl <;> rcases q2 with rfl | rfl | rfl <;> simp [mOk, tj, jat] at q4 ⊢ <;> omega
theorem frz_box2 {bl : Int → Option Blk} {gs g1 g2 : Int} {js : List J} {ms : List Mb} (h0 : 0 ≤ g1) (h0' : 0 ≤ g2) (hs : bl gs = some ⟨2, [[.lsl g1 4 0 js.length, .lsl g2 3 0 ms.length]]⟩) (h1 : bl g1 = some ⟨4, jv js⟩) (h2 : bl g2 = some ⟨3, mv ms⟩) : frz bl 2 (.loc gs 2 0 0) = some (.ptr (Str.mk js ms).c) := by
  have e1 := frz_slice (bl := bl) (bl0 := fun _ => none) (n := js.length) h0 rfl h1 (by simp) (jv_cl js)
  have e2 := frz_slice (bl := bl) (bl0 := fun _ => none) (n := ms.length) h0' rfl h2 (by simp) (mv_cl ms)
  change frz bl 1 _ = _ at e1
  change frz bl 1 _ = _ at e2
  rw [frz_loc0 hs]
  simp [e1, e2, Str.c]
theorem l12Two_cp {bl : Int → Option Blk} {K : V → (Int → Option Blk) → Prop} (bs : List Int) (i h g : Int) (hc : CurOk bs i) (hb : bl g = some (cur bs i h)) (hK : StrK bl K bs g) :
    CallP Tryz.prog 135 [.loc g 3 0 0] bl K := by
  refine callP_of Tryz.func135 rfl rfl (by rw [Tryz.ntmps135]; simp) ?_
  rw [Tryz.ntmps135, Tryz.results135]
  refine AW_runA ?_
  simp
  intro ga hga0 hga
  have nag : ga ≠ g := fun e => by rw [e, hb] at hga; cases hga
  refine AW_runA ?_
  simp
  intro gs hgs0 hgsa hgs
  have nsg : gs ≠ g := fun e => by rw [e, hb] at hgs; cases hgs
  refine AW_runA ?_
  simp
  refine l01Below_cp bs i h g 3 (by omega) hc (by simp [nag, nsg, Ne.symm nag, Ne.symm nsg, hgsa, Ne.symm hgsa, hb]) fun x1 i1 h1 hx1 hc1 => ?_
  simp [nag, nsg, Ne.symm nag, Ne.symm nsg, hgsa, Ne.symm hgsa]
  refine l01Below_cp bs i1 h1 g 3 (by omega) hc1 (by simp [nag, nsg, Ne.symm nag, Ne.symm nsg, hgsa, Ne.symm hgsa, hb]) fun x2 i2 h2 hx2 hc2 => ?_
  simp [nag, nsg, Ne.symm nag, Ne.symm nsg, hgsa, Ne.symm hgsa]
  refine l01Below_cp bs i2 h2 g 2 (by omega) hc2 (by simp [nag, nsg, Ne.symm nag, Ne.symm nsg, hgsa, Ne.symm hgsa, hb]) fun x3 i3 h3 hx3 hc3 => ?_
  simp [nag, nsg, Ne.symm nag, Ne.symm nsg, hgsa, Ne.symm hgsa]
  refine l01Below_cp bs i3 h3 g 3 (by omega) hc3 (by simp [nag, nsg, Ne.symm nag, Ne.symm nsg, hgsa, Ne.symm hgsa, hb]) fun x4 i4 h4 hx4 hc4 => ?_
  have w4 : IntKind.i64.wrap (-1 - x4) = -1 - x4 := i64_in (by omega) (by omega)
  simp [nag, nsg, Ne.symm nag, Ne.symm nsg, hgsa, Ne.symm hgsa, w4]
  refine l01Below_cp bs i4 h4 g 2 (by omega) hc4 (by simp [nag, nsg, Ne.symm nag, Ne.symm nsg, hgsa, Ne.symm hgsa, hb]) fun x5 i5 h5 hx5 hc5 => ?_
  have w5 : IntKind.i64.wrap (3 + x5) = 3 + x5 := i64_in (by omega) (by omega)
  simp [nag, nsg, Ne.symm nag, Ne.symm nsg, hgsa, Ne.symm hgsa, w5]
  refine l01Below_cp bs i5 h5 g 3 (by omega) hc5 (by simp [nag, nsg, Ne.symm nag, Ne.symm nsg, hgsa, Ne.symm hgsa, hb]) fun x6 i6 h6 hx6 hc6 => ?_
  have w6 : IntKind.i64.wrap (-1 - x6) = -1 - x6 := i64_in (by omega) (by omega)
  simp [nag, nsg, Ne.symm nag, Ne.symm nsg, hgsa, Ne.symm hgsa, w6]
  intro g5 hg5 n5g n5s n5a hb5
  simp [nag, nsg, Ne.symm nag, Ne.symm nsg, hgsa, Ne.symm hgsa, n5g, Ne.symm n5g, n5s, Ne.symm n5s, n5a, Ne.symm n5a, show List.range 4 = [0, 1, 2, 3] from rfl]
  refine AW_runA ?_
  simp [nag, nsg, Ne.symm nag, Ne.symm nsg, hgsa, Ne.symm hgsa, n5g, Ne.symm n5g, n5s, Ne.symm n5s, n5a, Ne.symm n5a]
  intro g6 hg6 n6s n65 n6g _ n6a hb6
  refine l01Pick_cp bs i6 h6 g g6 [1, 2, 3] (by simp) hc6 (by simp [nag, nsg, Ne.symm nag, Ne.symm nsg, hgsa, Ne.symm hgsa, n5g, Ne.symm n5g, n5s, Ne.symm n5s, n5a, Ne.symm n5a, n6g, Ne.symm n6g]) (by simp [iv, show List.range 3 = [0, 1, 2] from rfl]) n6g hg6 fun x7 i7 h7 hx7 hc7 => ?_
  simp [nag, nsg, Ne.symm nag, Ne.symm nsg, hgsa, Ne.symm hgsa, n5g, Ne.symm n5g, n5s, Ne.symm n5s, n5a, Ne.symm n5a, n6s, Ne.symm n6s, n65, Ne.symm n65, n6g, Ne.symm n6g, n6a, Ne.symm n6a]
  intro g7 hg7 n7g n76 n7s n75 _ _ n7a hb7
  simp [nag, nsg, Ne.symm nag, Ne.symm nsg, hgsa, Ne.symm hgsa, n5g, Ne.symm n5g, n5s, Ne.symm n5s, n5a, Ne.symm n5a, n6s, Ne.symm n6s, n65, Ne.symm n65, n6g, Ne.symm n6g, n6a, Ne.symm n6a, n7g, Ne.symm n7g, n76, Ne.symm n76, n7s, Ne.symm n7s, n75, Ne.symm n75, n7a, Ne.symm n7a, show List.range 3 = [0, 1, 2] from rfl]
  have hx7' : x7 = 1 ∨ x7 = 2 ∨ x7 = 3 := by simpa using hx7
  obtain ⟨b0, hb0⟩ : ∃ b0, b0 = upd bl g none := ⟨_, rfl⟩
  have b0g : b0 g = none := by rw [hb0]; simp
  have b0k : ∀ x, x ≠ g → b0 x = bl x := fun x hx => by rw [hb0, upd_apply, if_neg hx]
  have b0a : b0 ga = none := by rw [b0k _ nag]; exact hga
  have b0s : b0 gs = none := by rw [b0k _ nsg]; exact hgs
  have b05 : b0 g5 = none := by rw [b0k _ n5g]; exact hb5
  have b07 : b0 g7 = none := by rw [b0k _ n7g]; exact hb7
  clear hb0
  refine AW_at [(0, .loc g 3 0 0), (2, .loc ga 2 0 0), (3, .loc gs 2 0 0)] 56 (upd (upd (upd (upd (upd b0 ga (some ⟨2, [[.nils, .nils]]⟩)) g5 (some ⟨4, jv (tj x1 x2 x3 x4 x5 x6)⟩)) g7 (some ⟨3, mv [⟨0, 2, 1⟩, ⟨2, 3, x7⟩, ⟨3, 1, 1⟩]⟩)) gs (some ⟨2, [[.lsl g5 4 0 4, .lsl g7 3 0 3]]⟩)) g (some (cur bs i7 h7))) ⟨rfl, by simp, by
    simp only [jv, mv, tj, List.map, J.c, Mb.c, nmA, nmB, nmC, nmD]
    intro z b hz
    have := b0k z
    simp only [upd_apply] at hz ⊢
    grind⟩ ?_
  clear hb hga hgs hb5 hb6 hb7
  refine AW_runA ?_
  simp
  refine l01Below_cp bs i7 h7 g 3 (by omega) hc7 (by simp [nag, nsg, Ne.symm nag, Ne.symm nsg, hgsa, Ne.symm hgsa, n5g, Ne.symm n5g, n5s, Ne.symm n5s, n5a, Ne.symm n5a, n7g, n7s, n7a, Ne.symm n7g, Ne.symm n7s, Ne.symm n7a]) fun x8 i8 h8 hx8 hc8 => ?_
  simp
  refine AW_for (fun p : TD => [(0, .loc g 3 0 0), (2, .loc ga 2 0 0), (3, .loc gs 2 0 0), (4, .int .i64 p.n)]) (fun p => upd (upd (upd (upd (upd b0 ga (some ⟨2, [[.nils, .nils]]⟩)) g5 (some ⟨4, jv (tj x1 x2 x3 x4 x5 x6)⟩)) p.g (some ⟨3, mv p.ms⟩)) gs (some ⟨2, [[.lsl g5 4 0 4, .lsl p.g 3 0 p.ms.length]]⟩)) g (some (cur bs p.i p.h)))
    (fun p => (p.n ≤ 2 ∧ p.ms.length + p.n ≤ 5) ∧ (∀ m, m ∈ p.ms → mGood m) ∧ CurOk bs p.i ∧ (0 ≤ p.g ∧ ¬ p.g = g ∧ ¬ p.g = gs ∧ ¬ p.g = g5 ∧ ¬ p.g = ga ∧ b0 p.g = none)) (fun p => p.n) 56 ⟨x8.toNat, [⟨0, 2, 1⟩, ⟨2, 3, x7⟩, ⟨3, 1, 1⟩], g7, i8, h8⟩
    ⟨⟨by simp only; omega, by simp; omega⟩, fun m hm => ?_, hc8, hg7, n7g, n7s, n75, n7a, b07⟩ ⟨rfl, by simp; omega, by intro z b hz; simp only [upd_apply] at hz ⊢; grind⟩ ?_
  · simp only [List.mem_cons, List.not_mem_nil, or_false] at hm
    rcases hm with rfl | rfl | rfl
    · unfold mGood; simp
    · unfold mGood; simp; omega
    · unfold mGood; simp
  rintro ⟨n, ms, gm, ic, hcu⟩ ⟨⟨hn, hml⟩, hms, hcc, hgm, nmg, nms', nm5, nma, b0m⟩
  simp only at hn hml hms hcc hgm nmg nms' nm5 nma b0m
  refine AW_run ?_
  simp
  refine ⟨fun hp => ?_, fun hp => ?_⟩
  · refine AW_mixedBT mixedO (upd (upd (upd b0 ga (some ⟨2, [[.nils, .nils]]⟩)) g5 (some ⟨4, jv (tj x1 x2 x3 x4 x5 x6)⟩)) gs (some ⟨2, [[.lsl g5 4 0 4, .lsl gm 3 0 ms.length]]⟩)) (by intro z b hz; simp only [upd_apply, rem_apply] at hz ⊢; grind) [0, 1, 2, 4, 7] 10 14 (by kernel_rfl) ?_
    simp [nag, nsg, Ne.symm nag, Ne.symm nsg, hgsa, Ne.symm hgsa, n5g, Ne.symm n5g, n5s, Ne.symm n5s, n5a, Ne.symm n5a, nmg, Ne.symm nmg, nms', Ne.symm nms', nm5, Ne.symm nm5, nma, Ne.symm nma]
    refine DAny_one (i := 3) (by kernel_rfl) rfl rfl ?_
    simp
    refine l01Below_cp bs ic hcu g 2 (by omega) hcc (by simp [nag, nsg, Ne.symm nag, Ne.symm nsg, hgsa, Ne.symm hgsa, n5g, Ne.symm n5g, n5s, Ne.symm n5s, n5a, Ne.symm n5a, nmg, Ne.symm nmg, nms', Ne.symm nms', nm5, Ne.symm nm5, nma, Ne.symm nma]) fun y1 j1 k1 hy1 hd1 => ?_
    simp
    refine ⟨by intro z b hz; simp only [upd_apply, rem_apply] at hz ⊢; grind, DAny_one (i := 5) (by kernel_rfl) rfl rfl ?_⟩
    simp
    refine l01Below_cp bs j1 k1 g 2 (by omega) hd1 (by simp) fun y2 j2 k2 hy2 hd2 => ?_
    have wy2 : IntKind.i64.wrap (2 + y2) = 2 + y2 := i64_in (by omega) (by omega)
    simp
    refine ⟨by intro z b hz; simp only [upd_apply, rem_apply] at hz ⊢; grind, DAny_more (fuel := 7) [6] (by intro z b hz; simp only [upd_apply, rem_apply] at hz ⊢; grind) (by kernel_rfl) ?_⟩
    simp [wy2]
    refine DAny_one (i := 8) (by kernel_rfl) rfl rfl ?_
    simp
    refine l01Below_cp bs j2 k2 g 3 (by omega) hd2 (by simp) fun y3 j3 k3 hy3 hd3 => ?_
    have wy3 : IntKind.i64.wrap (1 + y3) = 1 + y3 := i64_in (by omega) (by omega)
    simp
    refine ⟨by intro z b hz; simp only [upd_apply, rem_apply] at hz ⊢; grind, DAny_one (i := 9) (by kernel_rfl) rfl rfl ?_⟩
    simp [wy3]
    refine ⟨by intro z b hz; simp only [upd_apply, rem_apply] at hz ⊢; grind, DAny_one (i := 10) (by kernel_rfl) rfl rfl ?_⟩
    simp
    refine ⟨by intro z b hz; simp only [upd_apply, rem_apply] at hz ⊢; grind, DAny_one (i := 11) (by kernel_rfl) rfl rfl ?_⟩
    simp
    intro gc hgc ncg ncs ncm nc5 nca b0c
    refine ⟨by intro z b hz; simp only [upd_apply, rem_apply] at hz ⊢; grind, DAny_one (i := 12) (by kernel_rfl) rfl rfl ?_⟩
    simp [nag, nsg, Ne.symm nag, Ne.symm nsg, hgsa, Ne.symm hgsa, n5g, Ne.symm n5g, n5s, Ne.symm n5s, n5a, Ne.symm n5a, nmg, Ne.symm nmg, nms', Ne.symm nms', nm5, Ne.symm nm5, nma, Ne.symm nma, ncg, Ne.symm ncg, ncs, Ne.symm ncs, ncm, Ne.symm ncm, nc5, Ne.symm nc5, nca, Ne.symm nca, appV, elsV, Int.not_lt.2 hgm, Int.not_lt.2 hgc]
    refine ⟨by omega, fun gd hgd hh => ?_⟩
    obtain ⟨ndg, nds, nd5, nda, b0d⟩ : ¬ gd = g ∧ ¬ gd = gs ∧ ¬ gd = g5 ∧ ¬ gd = ga ∧ b0 gd = none := by
      by_cases e : gd = gm
      · rw [e]; exact ⟨nmg, nms', nm5, nma, b0m⟩
      · have := hh e; grind
    clear hh
    refine ⟨by intro z b hz; simp only [upd_apply, rem_apply] at hz ⊢; grind, DAny_one (i := 13) (by kernel_rfl) rfl rfl ?_⟩
    simp [nag, nsg, Ne.symm nag, Ne.symm nsg, hgsa, Ne.symm hgsa, n5g, Ne.symm n5g, n5s, Ne.symm n5s, n5a, Ne.symm n5a, nmg, Ne.symm nmg, nms', Ne.symm nms', nm5, Ne.symm nm5, nma, Ne.symm nma, ncg, Ne.symm ncg, ncs, Ne.symm ncs, ncm, Ne.symm ncm, nc5, Ne.symm nc5, nca, Ne.symm nca, ndg, Ne.symm ndg, nds, Ne.symm nds, nd5, Ne.symm nd5, nda, Ne.symm nda]
    refine ⟨by intro z b hz; simp only [upd_apply, rem_apply] at hz ⊢; grind, DAny_last (i := 14) (by kernel_rfl) rfl rfl rfl ?_⟩
    simp [nag, nsg, Ne.symm nag, Ne.symm nsg, hgsa, Ne.symm hgsa, n5g, Ne.symm n5g, n5s, Ne.symm n5s, n5a, Ne.symm n5a, nmg, Ne.symm nmg, nms', Ne.symm nms', nm5, Ne.symm nm5, nma, Ne.symm nma, ncg, Ne.symm ncg, ncs, Ne.symm ncs, ncm, Ne.symm ncm, nc5, Ne.symm nc5, nca, Ne.symm nca, ndg, Ne.symm ndg, nds, Ne.symm nds, nd5, Ne.symm nd5, nda, Ne.symm nda]
    refine DAny_done (by kernel_rfl) ?_
    have wn : IntKind.i64.wrap ((n : Int) - 1) = ((n - 1 : Nat) : Int) := by rw [i64_in (by omega) (by omega)]; omega
    simp [wn, loopQ_normal]
    have emv : List.take ms.length (mv ms) ++ [[V.int IntKind.i64 y1, V.int IntKind.i64 (2 + y2), V.int IntKind.i64 (1 + y3)]] = mv (ms ++ [⟨y1, 2 + y2, 1 + y3⟩]) := by
      rw [← mv_length ms, List.take_length]; simp [mv, Mb.c]
    refine ⟨⟨n - 1, ms ++ [⟨y1, 2 + y2, 1 + y3⟩], gd, j3, k3⟩, ⟨⟨by simp only; omega, by simp; omega⟩, fun m hm => ?_, hd3, hgd, ndg, nds, nd5, nda, b0d⟩, by simp only; omega, rfl, by simp, ?_⟩
    · rcases List.mem_append.1 hm with hm | hm
      · exact hms m hm
      · obtain rfl : m = _ := by simpa using hm
        unfold mGood; simp only; omega
    · rw [emv]
      intro z b hz
      simp only [upd_apply, rem_apply, List.length_append, List.length_singleton] at hz ⊢
      grind
  · refine AW_frzAt 2 3 (.ptr (Str.mk (tj x1 x2 x3 x4 x5 x6) ms).c) (upd (upd b0 ga (some ⟨2, [[.nils, .nils]]⟩)) g (some (cur bs ic hcu))) (by intro z b hz; simp only [upd_apply, rem_apply] at hz ⊢; grind) (frz_box2 (g1 := g5) (g2 := gm) hg5 hgm (by simp [dropB, tj, b0s, nag, nsg, Ne.symm nag, Ne.symm nsg, hgsa, Ne.symm hgsa, n5g, Ne.symm n5g, n5s, Ne.symm n5s, n5a, Ne.symm n5a, nmg, Ne.symm nmg, nms', Ne.symm nms', nm5, Ne.symm nm5, nma, Ne.symm nma]) (by simp [dropB, b05, nag, nsg, Ne.symm nag, Ne.symm nsg, hgsa, Ne.symm hgsa, n5g, Ne.symm n5g, n5s, Ne.symm n5s, n5a, Ne.symm n5a, nmg, Ne.symm nmg, nms', Ne.symm nms', nm5, Ne.symm nm5, nma, Ne.symm nma]) (by simp [dropB, b0m, nag, nsg, Ne.symm nag, Ne.symm nsg, hgsa, Ne.symm hgsa, n5g, Ne.symm n5g, n5s, Ne.symm n5s, n5a, Ne.symm n5a, nmg, Ne.symm nmg, nms', Ne.symm nms', nm5, Ne.symm nm5, nma, Ne.symm nma])) ?_
    refine AW_run ?_
    simp [Str.c, nag, Ne.symm nag]
    rw [retK_ret]
    refine ⟨[_], by simp [nag]; rfl, ?_⟩
    have hok := two_ok hx1 hx2 hx3 hx4 hx5 hx6 (ms := ms) (by omega) hms
    exact hK ⟨tj x1 x2 x3 x4 x5 x6, ms⟩ ic hcu _ hok (by simp [tj]) hcc (by simp [nag, Ne.symm nag]) (fun x y hx hy => by have := b0k x hx; simp only [upd_apply]; grind)

theorem l12Draw_cp {bl : Int → Option Blk} {K : V → (Int → Option Blk) → Prop} (bs : List Int) (i h g : Int) (hc : CurOk bs i) (hb : bl g = some (cur bs i h)) (hK : StrK bl K bs g) :
    CallP Tryz.prog 78 [.loc g 3 0 0] bl K := by
  refine callP_of Tryz.func78 rfl rfl (by rw [Tryz.ntmps78]; simp) ?_
  rw [Tryz.ntmps78, Tryz.results78]
  refine AW_run ?_
  simp
  intro ga hga0 hga
  have nag : ga ≠ g := fun e => by rw [e, hb] at hga; cases hga
  refine l01Once_cp bs i h g 3 (by omega) hc (by simp [nag, Ne.symm nag, hb]) fun x i1 h1 hc1 => ?_
  have hK2 : ∀ (s : Str) (i' h' : Int) bl', sOk s = true → 3 ≤ s.js.length → CurOk bs i' → bl' g = some (cur bs i' h') → (∀ x y, x ≠ g → upd (upd bl ga (some ⟨2, [[.nils, .nils]]⟩)) g (some (cur bs i1 h1)) x = some y → bl' x = some y) → K (.agg s.c) (upd bl' ga (some ⟨2, [s.c]⟩)) := fun s i' h' bl' q1 q2 q3 q4 q5 =>
    hK s i' h' _ q1 q2 q3 (by simp [Ne.symm nag, q4]) (fun x y hx hy => by
      have e1 : x ≠ ga := fun e => by rw [e, hga] at hy; cases hy
      rw [upd_apply, if_neg e1]
      exact q5 x y hx (by rw [upd_apply, if_neg hx, upd_apply, if_neg e1]; exact hy))
  have hga2 : ∀ bl' : Int → Option Blk, (∀ x y, x ≠ g → upd (upd bl ga (some ⟨2, [[.nils, .nils]]⟩)) g (some (cur bs i1 h1)) x = some y → bl' x = some y) → bl' ga = some ⟨2, [[.nils, .nils]]⟩ := fun bl' q => q ga _ nag (by simp [nag])
  cases x
  · simp
    refine l12Hang_cp bs i1 h1 g hc1 (by simp) fun s i' h' bl' q1 q2 q3 q4 q5 => ?_
    have e2 := hga2 bl' q5
    simp [Str.c, e2]
    rw [retK_ret]
    refine ⟨[_], by simp; rfl, ?_⟩
    exact hK2 s i' h' bl' q1 q2 q3 q4 q5
  · simp
    refine l12Two_cp bs i1 h1 g hc1 (by simp) fun s i' h' bl' q1 q2 q3 q4 q5 => ?_
    have e2 := hga2 bl' q5
    simp [Str.c, e2]
    rw [retK_ret]
    refine ⟨[_], by simp; rfl, ?_⟩
    exact hK2 s i' h' bl' q1 q2 q3 q4 q5
end Go.Proofs.YtmbcofnnibpbeaaGreat.Vm

namespace Go.Proofs.YtmbcofnnibpbeaaGreat.Vm
open Go Go.Proofs
set_option linter.unusedSimpArgs false
set_option linter.unusedVariables false

theorem fitsL_mk {js : List J} {ns : List Int} (hl : ns.length = 2 * js.length) (h : ∀ x, x ∈ ns → -8 ≤ x ∧ x ≤ 8) : fitsL js ns = true := by
  unfold fitsL
  rw [Bool.and_eq_true]
  refine ⟨by simpa using hl, List.all_eq_true.2 fun x hx => ?_⟩
  have := h x hx
  simp [forceOk]; omega
theorem sOk_nj {s : Str} (h : sOk s = true) : s.js.length ≤ 6 := by
  unfold sOk at h
  simp only [Bool.and_eq_true, decide_eq_true_eq] at h
  exact h.1.1.1
theorem l14Case_cp {bl : Int → Option Blk} {K : V → (Int → Option Blk) → Prop} (bs : List Int) (i h g : Int) (hc : CurOk bs i) (hb : bl g = some (cur bs i h))
    (hK : ∀ (s : Str) (ns : List Int) bl', lOk s ns = true → 3 ≤ s.js.length → (∀ x, x ∈ ns → -8 ≤ x ∧ x ≤ 8) → (∀ x y, x ≠ g → bl x = some y → bl' x = some y) → K (.tup [.agg s.c, .sl (iv ns)]) bl') :
    CallP Tryz.prog 36 [.loc g 3 0 0] bl K := by
  refine callP_of Tryz.func36 rfl rfl (by rw [Tryz.ntmps36]; simp) ?_
  rw [Tryz.ntmps36, Tryz.results36]
  refine AW_runA ?_
  simp
  intro ga hga0 hga
  have nag : ga ≠ g := fun e => by rw [e, hb] at hga; cases hga
  refine AW_runA ?_
  simp
  refine l12Draw_cp bs i h g hc (by simp [Ne.symm nag, hb]) fun s i1 h1 b1 q1 q2 q3 q4 q5 => ?_
  have ea : b1 ga = some ⟨2, [[.nils, .nils]]⟩ := q5 ga _ nag (by simp)
  have q6 : ∀ x y, x ≠ g → bl x = some y → b1 x = some y := fun x y hx hy => q5 x y hx (by rw [upd_apply, if_neg (fun e => by rw [e, hga] at hy; cases hy)]; exact hy)
  have hnj := sOk_nj q1
  simp [Str.c]
  intro g4 hg4 hb4
  have n4g : g4 ≠ g := fun e => by rw [e, q4] at hb4; cases hb4
  have n4a : g4 ≠ ga := fun e => by rw [e, ea] at hb4; cases hb4
  have b04 : bl g4 = none := by
    rcases e : bl g4 with _ | y
    · rfl
    · rw [q6 g4 y n4g e] at hb4; cases hb4
  refine AW_runA ?_
  refine AW_mixedB mixedO (upd (upd bl g none) g4 (some ⟨2, [s.c]⟩)) (by
    intro z b hz
    have := q6 z
    simp only [upd_apply, Str.c] at hz ⊢
    grind) [0, 1, 2] 3 (by kernel_rfl) ?_
  simp [Str.c, n4g, n4a, Ne.symm n4g, Ne.symm n4a]
  refine DAny_one (i := 3) (by kernel_rfl) rfl rfl ?_
  simp
  refine l13Draw_cp bs i1 h1 g s ⟨by omega, hnj⟩ q3 (by simp [Ne.symm n4g, q4]) fun g2 ns i2 h2 b2 hg2 hb2 hl hr hc2 hbg hbg2 hk2 => ?_
  have n2g : g2 ≠ g := fun e => by rw [e] at hb2; simp [Ne.symm n4g, q4] at hb2
  have n24 : g2 ≠ g4 := fun e => by rw [e] at hb2; simp at hb2
  have n2a : g2 ≠ ga := fun e => by rw [e] at hb2; simp [Ne.symm n4a, ea] at hb2
  have b12 : b1 g2 = none := by simpa [n24] using hb2
  have b02 : bl g2 = none := by
    rcases e : bl g2 with _ | y
    · rfl
    · rw [q6 g2 y n2g e] at b12; cases b12
  have ea2 : b2 ga = some ⟨2, [[.nils, .nils]]⟩ := hk2 ga _ nag (by simp [Ne.symm n4a, ea])
  have e42 : b2 g4 = some ⟨2, [s.c]⟩ := hk2 g4 _ n4g (by simp [Str.c])
  have hs2 : ∀ x y, x ≠ g → bl x = some y → b2 x = some y := fun x y hx hy => hk2 x y hx (by rw [upd_apply, if_neg (fun e => by rw [e, b04] at hy; cases hy)]; exact q6 x y hx hy)
  have hsub : ∀ X : Option Blk, Sub (upd (upd bl g none) g4 (some ⟨2, [s.c]⟩)) (upd b2 ga X) := fun X z b hz => by
    have := hs2 z
    simp only [upd_apply] at hz ⊢
    grind
  have hsub0 : Sub (upd (upd bl g none) g4 (some ⟨2, [s.c]⟩)) b2 := fun z b hz => by
    have := hs2 z
    simp only [upd_apply] at hz ⊢
    grind
  simp only [Str.c] at hsub hsub0
  simp
  refine ⟨hsub0, DAny_one (i := 4) (by kernel_rfl) rfl rfl ?_⟩
  simp [ea2]
  refine ⟨hsub _, DAny_one (i := 5) (by kernel_rfl) rfl rfl ?_⟩
  simp
  refine ⟨hsub _, DAny_done (by kernel_rfl) ?_⟩
  simp
  refine AW_frzAt 1 3 (.sl (iv ns)) (upd (upd bl g none) ga (some ⟨2, [s.c]⟩)) (fun z b hz => by
    have := hs2 z
    simp only [upd_apply, Str.c] at hz ⊢
    grind) (by
      have e := frz_slice (bl := upd b2 ga (some ⟨2, [s.c]⟩)) (bl0 := upd (upd bl g none) ga (some ⟨2, [s.c]⟩)) (sz := 1) (n := 2 * s.js.length) hg2 (by simp [n2a, n2g, b02]) (els := iv ns) (by simp [n2a, hbg2]) (by simpa using hl) (iv_cl ns)
      simpa [Str.c] using e) ?_
  refine AW_run ?_
  simp
  rw [retK_ret]
  refine ⟨[.agg s.c, .sl (iv ns)], by simp [Str.c], ?_⟩
  refine hK s ns _ (by unfold lOk; rw [q1, fitsL_mk hl hr]; rfl) q2 hr (fun x y hx hy => ?_)
  have e1 : x ≠ ga := fun e => by rw [e, hga] at hy; cases hy
  simp [upd_apply, hx, e1, hy]

theorem MakeCase_cp {bl : Int → Option Blk} {K : V → (Int → Option Blk) → Prop} (bs : List Int) (hn : bs.length ≤ 1048576) (hbs : ∀ x, x ∈ bs → 0 ≤ x ∧ x < 256)
    (hK : ∀ (s : Str) (ns : List Int) bl', lOk s ns = true → 3 ≤ s.js.length → (∀ x, x ∈ ns → -8 ≤ x ∧ x ≤ 8) → Sub bl bl' → K (.tup [.agg s.c, .sl (iv ns)]) bl') :
    CallP Tryz.prog 9 [.sl (bv bs)] bl K := by
  refine callP_of Tryz.func9 rfl rfl (by rw [Tryz.ntmps9]; simp) ?_
  rw [Tryz.ntmps9, Tryz.results9]
  refine AW_run ?_
  simp
  intro ga hga0 hga
  refine l01New_cp bs hn fun g h hg0 hg => ?_
  have nga : g ≠ ga := fun e => by rw [e] at hg; simp at hg
  have bg : bl g = none := by simpa [nga] using hg
  simp
  refine l14Case_cp bs 0 h g ⟨hn, hbs, by omega, by omega⟩ (by simp) fun s ns b1 q1 q1a q1b q2 => ?_
  have ea : b1 ga = some ⟨2, [[.nils, .nils]]⟩ := q2 ga _ (Ne.symm nga) (by simp [Ne.symm nga])
  simp [Str.c, ea]
  rw [retK_ret]
  refine ⟨[.agg s.c, .sl (iv ns)], by simp [Str.c], ?_⟩
  refine hK s ns _ q1 q1a q1b (fun x y hy => ?_)
  have e1 : x ≠ ga := fun e => by rw [e, hga] at hy; cases hy
  have e2 : x ≠ g := fun e => by rw [e, bg] at hy; cases hy
  show upd b1 ga (some ⟨2, [[.sl (jv s.js), .sl (mv s.ms)]]⟩) x = some y
  rw [upd_apply, if_neg e1]
  exact q2 x y e2 (by simp [upd_apply, e1, e2, hy])
end Go.Proofs.YtmbcofnnibpbeaaGreat.Vm
