/- FnExactEquilibriumMatrix: for every structure the program's EquilibriumMatrix returns what the reference's returns; no condition. -/



import Derived.Test.YthhjmaianlmfpaaQCFnExactEquilibriumMatrix7

namespace Go.Proofs.Ythhjmaianlmfpaa.Vm
open Go Go.Proofs
set_option linter.unusedSimpArgs false
set_option linter.unusedVariables false

theorem OwnR.append {bl : Int → Option Blk} {sz : Nat} {rs2 : List (List D)} {e2 : List (List V)} {g2 : List Int} (h2 : OwnR bl sz rs2 e2 g2) : ∀ {rs : List (List D)} {els : List (List V)} {g1 : List Int}, OwnR bl sz rs els g1 → (∀ x, x ∈ g1 → x ∉ g2) → OwnR bl sz (rs ++ rs2) (els ++ e2) (g1 ++ g2)
  | [], els, g1, h, hd => by
    rw [OwnR] at h
    obtain ⟨rfl, rfl⟩ := h
    exact h2
  | r :: rs, els, g1, h, hd => by
    rw [OwnR] at h
    obtain ⟨e, els', ga, gb, rfl, rfl, h3, h4, h5, h6, h7⟩ := h
    have ih := OwnR.append h2 h7 fun x hx => hd x (List.mem_append_right _ hx)
    show OwnR bl sz (r :: (rs ++ rs2)) (e :: (els' ++ e2)) (ga ++ gb ++ g2)
    rw [OwnR]
    refine ⟨e, els' ++ e2, ga, gb ++ g2, rfl, by simp, fun x hx hx2 => ?_, h4, h5, h6, ih⟩
    rcases List.mem_append.1 hx2 with hx2 | hx2
    · exact h3 x hx hx2
    · exact hd x (List.mem_append_left _ hx) hx2

structure MX where
  r : Int
  c : Int
  cells : List RT
def MX.c3 (m : MX) : List V := [.int .i64 m.r, .int .i64 m.c, .sl (rv m.cells)]
def dMx (m : MX) : List D := [.c (.int .i64 m.r), .c (.int .i64 m.c), dRs m.cells]
theorem own_mx {bl : Int → Option Blk} {m : MX} {vs : List V} {gs : List Int} : OwnL bl (dMx m) vs gs ↔ ∃ w, vs = [.int .i64 m.r, .int .i64 m.c, w] ∧ OwnD bl (dRs m.cells) w gs := by
  unfold dMx
  constructor
  · intro h
    rw [OwnL] at h
    obtain ⟨v1, vs1, g1, r1, rfl, rfl, _, h1, h⟩ := h
    rw [OwnD] at h1
    obtain ⟨rfl, _, rfl⟩ := h1
    rw [OwnL] at h
    obtain ⟨v2, vs2, g2, r2, rfl, rfl, _, h2, h⟩ := h
    rw [OwnD] at h2
    obtain ⟨rfl, _, rfl⟩ := h2
    obtain ⟨w, rfl⟩ : ∃ w, vs2 = [w] := by
      have := h.length
      match vs2, this with
      | [w], _ => exact ⟨w, rfl⟩
    exact ⟨w, rfl, by simpa using own_single.1 h⟩
  · rintro ⟨w, rfl, h⟩
    exact own_cons (g1 := []) (g2 := gs) (own_int' _) (own_cons (g1 := []) (g2 := gs) (own_int' _) (own_single.2 h) (fun x hx => by cases hx)) (fun x hx => by cases hx)
def stAll (cells : List (List (Option Rat))) : Bool := cells.all allSome
def clMx (r c : Int) (cells : List (List (Option Rat))) : MX := if stAll cells = true then ⟨r, c, (cells.map roAll).flatten⟩ else ⟨0, 0, []⟩
def dMB (m : MX) (b : Bool) : D := .t [.a (dMx m), .c (.bool b)]
theorem own_dMB {bl : Int → Option Blk} {m : MX} {b : Bool} {v : V} {gs : List Int} : OwnD bl (dMB m b) v gs ↔ ∃ w, v = .tup [.agg [.int .i64 m.r, .int .i64 m.c, w], .bool b] ∧ OwnD bl (dRs m.cells) w gs := by
  unfold dMB
  rw [own_two]
  constructor
  · rintro ⟨v, rfl, h⟩
    rw [OwnD] at h
    obtain ⟨vs, rfl, h⟩ := h
    obtain ⟨w, rfl, h'⟩ := own_mx.1 h
    exact ⟨w, rfl, h'⟩
  · rintro ⟨w, rfl, h⟩
    exact ⟨_, rfl, by rw [OwnD]; exact ⟨_, rfl, own_mx.2 ⟨w, rfl, h⟩⟩⟩

def flatTo (cells : List (List (Option Rat))) (i : Nat) : List RT := ((cells.take i).map roAll).flatten
theorem flatTo_zero (cells : List (List (Option Rat))) : flatTo cells 0 = [] := by simp [flatTo]
theorem flatTo_succ (cells : List (List (Option Rat))) (i : Nat) (h : i < cells.length) : flatTo cells (i + 1) = flatTo cells i ++ roAll cells[i] := by
  unfold flatTo
  rw [List.take_add_one, List.getElem?_eq_getElem h, Option.toList_some, List.map_append, List.flatten_append]
  simp
theorem flatTo_all (cells : List (List (Option Rat))) : flatTo cells cells.length = (cells.map roAll).flatten := by unfold flatTo; rw [List.take_length]
theorem flatTo_le (cells : List (List (Option Rat))) (i : Nat) : (flatTo cells i).length ≤ cells.flatten.length := by
  have h : ∀ cs : List (List (Option Rat)), ((cs.map roAll).flatten).length = cs.flatten.length := by
    intro cs
    induction cs with
    | nil => rfl
    | cons w ws ih => rw [List.map_cons, List.flatten_cons, List.flatten_cons, List.length_append, List.length_append, ih, roAll_length]
  unfold flatTo
  rw [h]
  conv => rhs; rw [← List.take_append_drop i cells]
  rw [List.flatten_append, List.length_append]
  omega
theorem closed_nw (r c : Int) (cells : List (List (Option Rat))) (hr : cells.length ≤ 1048576) (hok : ∀ w, w ∈ cells → okL w) (hl : ∀ w, w ∈ cells → w.length ≤ 1048576) (htot : cells.flatten.length ≤ 100000) :
    NW Try.prog 104 [.agg [.int .i64 r, .int .i64 c, .sl (gv cells)]] (dMB (clMx r c cells) (stAll cells)) := by
  refine nw_of Try.func104 rfl rfl (by rw [Try.ntmps104]; simp) fun bl => ?_
  rw [Try.ntmps104, Try.results104]
  refine AW_runA ?_
  simp
  intro g1 hg1 hb1 g2 hg2 h21 hb2
  refine AW_runA ?_
  simp [h21, Ne.symm h21]
  intro g4 hg4
  intros
  have h42 : ¬ g4 = g2 := by assumption
  have h41 : ¬ g4 = g1 := by assumption
  have hb4 : bl g4 = none := by assumption
  try simp [h21, Ne.symm h21, h42, Ne.symm h42, h41, Ne.symm h41]
  refine AW_ghostCell (g := g4) (s := 3) (els := [[.int .i64 r, .int .i64 c, .nils]]) (e := [.int .i64 r, .int .i64 c, .nils]) 0 2 3 (by simp) rfl rfl fun ga hga hne => ?_
  simp [upd_apply] at hga
  obtain ⟨hga4, hga2, hga1, hbga⟩ : ga ≠ g4 ∧ ga ≠ g2 ∧ ga ≠ g1 ∧ bl ga = none := by grind
  refine AW_run ?_
  simp [h21, Ne.symm h21, h42, Ne.symm h42, h41, Ne.symm h41, hga1, Ne.symm hga1]
  refine AW_for (fun p : GrowG => [(2, .loc g2 3 0 0), (4, .loc g4 3 0 0), (15, .sl (gv cells)), (16, .int .i64 cells.length), (17, .int .i64 p.i)]) (fun p => p.b)
    (fun p => p.i ≤ cells.length ∧ (∀ w, w ∈ cells.take p.i → allSome w = true) ∧ p.els.length = (flatTo cells p.i).length ∧ p.b g2 = some ⟨3, [[.int .i64 0, .int .i64 0, .nils]]⟩ ∧ p.b g4 = some ⟨3, [[.int .i64 r, .int .i64 c, .lsl p.g 3 0 p.els.length]]⟩ ∧ p.b p.g = some ⟨3, p.els⟩ ∧ (p.g < 0 → p.els = []) ∧ OwnR p.b 3 ((flatTo cells p.i).map dR) p.els p.gs ∧ (p.g ∉ p.gs ∧ g2 ∉ p.gs ∧ g4 ∉ p.gs) ∧ (p.g ≠ g2 ∧ p.g ≠ g4) ∧ bl p.g = none ∧ (∀ x, x ∈ p.gs → bl x = none) ∧ Sub bl p.b)
    (fun p => cells.length - p.i) 36 ⟨0, ga, [], [], upd (upd (upd bl g2 (some ⟨3, [[.int .i64 0, .int .i64 0, .nils]]⟩)) g4 (some ⟨3, [[.int .i64 r, .int .i64 c, .lsl ga 3 0 0]]⟩)) ga (some ⟨3, []⟩)⟩
    ⟨Nat.zero_le _, by simp, by simp [flatTo_zero], by simp [Ne.symm hga2, h42, Ne.symm h42], by simp [Ne.symm hga4], by simp, fun _ => rfl, by simp [OwnR, flatTo_zero], by simp, ⟨hga2, hga4⟩, hbga, by simp, by intro z b hz; simp only [upd_apply] at hz ⊢; grind⟩ ⟨rfl, by simp, by intro z b hz; simp only [upd_apply] at hz ⊢; grind⟩ ?_
  rintro ⟨i, g, els, gs, b⟩ ⟨hi, hall, hel, hb2', hb4', hbg, hneg, ho, ⟨n1, n2, n3⟩, ⟨m2, m4⟩, hblg, hfr, hs⟩
  simp only at hi hall hel hb2' hb4' hbg hneg ho n1 n2 n3 m2 m4 hblg hfr hs
  refine AW_run ?_
  simp
  refine ⟨fun h => ?_, fun h => ?_⟩
  · have hw := List.getElem_mem h
    simp [h]
    refine callP_new (stores_nw cells[i] (hok _ hw) (hl _ hw)) fun v gv' b' o f fr => ?_
    obtain ⟨w', rfl, ow, w1, w2⟩ := own_dV o
    have eb2 := new_keep f fr hb2'
    have eb4 := new_keep f fr hb4'
    have ebg := new_keep f fr hbg
    have hs' : Sub bl b' := fun x y hy => new_keep f fr (hs x y hy)
    have ho' := ho.keep (bl' := b') fun x _ y hy => new_keep f fr hy
    have hfr' : ∀ x, x ∈ gv' → bl x = none := fun x hx => fresh_of hs (f x hx)
    have k1 : g ∉ gv' := fun hh => by have := f _ hh; rw [hbg] at this; cases this
    have k2 : g2 ∉ gv' := fun hh => by have := f _ hh; rw [hb2'] at this; cases this
    have k4 : g4 ∉ gv' := fun hh => by have := f _ hh; rw [hb4'] at this; cases this
    have kd : ∀ x, x ∈ gs → x ∉ gv' := fun x hx hh => ho.not (f x hh) hx
    cases ha : allSome cells[i]
    · have hno : stAll cells = false := by
        unfold stAll; rw [List.all_eq_false]; exact ⟨_, hw, by simp [ha]⟩
      have hcl : clMx r c cells = ⟨0, 0, []⟩ := by unfold clMx; rw [hno]; rfl
      simp [eb2, w1, w2]
      rw [hno, hcl]
      refine retNW [.agg [.int .i64 0, .int .i64 0, .nils], .bool false] [] (by simp) (own_dMB.2 ⟨.nils, rfl, own_rs.2 (.inl ⟨rfl, rfl, rfl⟩)⟩) (by simp) (hs'.upd hb2 _)
    · have hst : stQ cells[i] = roAll cells[i] := by unfold stQ; rw [ha]; rfl
      rw [hst] at ow
      have htk := flatTo_succ cells i h
      have hfl := flatTo_le cells (i + 1)
      have hall2 : ∀ w, w ∈ cells.take (i + 1) → allSome w = true := fun w hw2 => by
        rw [List.take_add_one, List.getElem?_eq_getElem h] at hw2
        rcases List.mem_append.1 hw2 with hw2 | hw2
        · exact hall w hw2
        · obtain rfl : w = cells[i] := by simpa using hw2
          exact ha
      simp [eb4, w1, w2]
      obtain ⟨els2, gs2, he2, ho2, hin2⟩ : ∃ els2 gs2, elsV b' 3 w' = some els2 ∧ OwnR b' 3 ((roAll cells[i]).map dR) els2 gs2 ∧ ∀ x, x ∈ gs2 → x ∈ gv' := by
        rcases own_rs.1 ow with ⟨h1, rfl, rfl⟩ | ⟨g', els', gs', rfl, rfl, hgn, hbg', hneg', ho2⟩
        · exact ⟨[], [], rfl, by rw [h1]; simp [OwnR], fun x hx => by cases hx⟩
        · refine ⟨els', gs', ?_, ho2, fun x hx => List.mem_cons_of_mem _ hx⟩
          have hll := OwnR.length ho2
          rw [List.length_map] at hll
          simp only [elsV]
          split
          · rename_i hg'; rw [hneg' hg']
          · rw [hbg']
            simp [hll]
            exact List.take_of_length_le (by rw [hll]; simp)
      have hl2 := OwnR.length ho2
      rw [List.length_map] at hl2
      have hlt : els.length + els2.length ≤ 100000 := by
        rw [hel, hl2, ← List.length_append, ← htk]; omega
      simp [appV, he2, ebg]
      refine ⟨by omega, fun g3 hg3 hb3 => ?_⟩
      have h32 : g3 ≠ g2 := fun e => by
        have := hb3 (by rw [e]; exact Ne.symm m2); rw [e, eb2] at this; cases this
      have h34 : g3 ≠ g4 := fun e => by
        have := hb3 (by rw [e]; exact Ne.symm m4); rw [e, eb4] at this; cases this
      have hbl3 : bl g3 = none := by
        by_cases e : g3 = g
        · rw [e]; exact hblg
        · exact fresh_of hs' (hb3 e)
      have h3s : g3 ∉ gs := fun hh => by
        by_cases e : g3 = g
        · exact n1 (e ▸ hh)
        · obtain ⟨y, hy⟩ := ho'.has g3 hh; rw [hb3 e] at hy; cases hy
      have h3v : g3 ∉ gs2 := fun hh => by
        by_cases e : g3 = g
        · exact k1 (e ▸ hin2 _ hh)
        · obtain ⟨y, hy⟩ := ho2.has g3 hh; rw [hb3 e] at hy; cases hy
      have hgs2 : g ∉ gs2 := fun hh => k1 (hin2 _ hh)
      simp [Ne.symm h34, Ne.symm m4, eb4]
      simp (disch := omega) [i64_in, loopQ_normal]
      refine ⟨⟨i + 1, g3, els ++ els2, gs ++ gs2, upd (upd (rem b' g) g3 (some ⟨3, els ++ els2⟩)) g4 (some ⟨3, [[.int .i64 r, .int .i64 c, .lsl g3 3 0 (els ++ els2).length]]⟩)⟩, ⟨by simp only; omega, hall2, by simp only; rw [htk, List.length_append, List.length_append, hel, hl2], ?_, by simp, ?_, ?_, ?_, ?_, ⟨h32, h34⟩, hbl3, ?_, ?_⟩, by simp only; omega, rfl, by simp, ?_⟩
      · simp only [upd_apply, rem_apply]; rw [if_neg (Ne.symm h42), if_neg (Ne.symm h32), if_neg (Ne.symm m2)]; exact eb2
      · simp only [upd_apply]; rw [if_neg h34]; simp
      · intro hn
        simp only at hn
        rcases hg3 with hg3 | hg3
        · omega
        · simpa using hg3
      · simp only
        rw [htk, List.map_append]
        refine OwnR.append (ho2.keep fun x hx y hy => ?_) (ho'.keep fun x hx y hy => ?_) fun x hx hx2 => kd x hx (hin2 x hx2)
        · have e1 : x ≠ g4 := fun e => k4 (e ▸ hin2 x hx)
          have e2 : x ≠ g3 := fun e => h3v (e ▸ hx)
          have e3 : x ≠ g := fun e => hgs2 (e ▸ hx)
          simp only [upd_apply, rem_apply]; rw [if_neg e1, if_neg e2, if_neg e3]; exact hy
        · have e1 : x ≠ g4 := fun e => n3 (e ▸ hx)
          have e2 : x ≠ g3 := fun e => h3s (e ▸ hx)
          have e3 : x ≠ g := fun e => n1 (e ▸ hx)
          simp only [upd_apply, rem_apply]; rw [if_neg e1, if_neg e2, if_neg e3]; exact hy
      · simp only [List.mem_append]
        exact ⟨fun h => h.elim h3s h3v, fun h => h.elim n2 (fun h => k2 (hin2 _ h)), fun h => h.elim n3 (fun h => k4 (hin2 _ h))⟩
      · intro x hx
        rcases List.mem_append.1 hx with hx | hx
        · exact hfr x hx
        · exact hfr' x (hin2 x hx)
      · intro x y hx
        have e1 : x ≠ g4 := fun e => by rw [e, hb4] at hx; cases hx
        have e2 : x ≠ g3 := fun e => by rw [e, hbl3] at hx; cases hx
        have e3 : x ≠ g := fun e => by rw [e, hblg] at hx; cases hx
        simp only [upd_apply, rem_apply]; rw [if_neg e1, if_neg e2, if_neg e3]; exact hs' x y hx
      · exact sub_eq (by simp)
  · have hi2 : i = cells.length := by omega
    subst hi2
    have hyes : stAll cells = true := List.all_eq_true.2 fun w hw => hall w (by rw [List.take_length]; exact hw)
    have hcl : clMx r c cells = ⟨r, c, flatTo cells cells.length⟩ := by unfold clMx; rw [hyes, flatTo_all]; rfl
    simp [hb2', hb4']
    rw [hyes, hcl]
    refine retNW [.agg [.int .i64 r, .int .i64 c, .lsl g 3 0 els.length], .bool true] (g :: gs) (by simp) ?_ (fun x hx => ?_) (hs.upd hb2 _)
    · refine own_dMB.2 ⟨_, rfl, own_rs.2 (.inr ⟨g, els, gs, by rw [hel], rfl, n1, ?_, hneg, ?_⟩)⟩
      · simp only [upd_apply]; rw [if_neg m2]; exact hbg
      · exact ho.frame fun x hx => by simp only [upd_apply]; rw [if_neg (fun e : x = g2 => n2 (e ▸ hx))]
    · rcases List.mem_cons.1 hx with rfl | hx
      · exact hblg
      · exact hfr x hx

end Go.Proofs.Ythhjmaianlmfpaa.Vm

namespace Go.Proofs.Ythhjmaianlmfpaa.Vm
open Go Go.Proofs
set_option linter.unusedSimpArgs false
set_option linter.unusedVariables false

def colK (m : Mb) (k : Nat) : List (Int × Int) := (if m.kind = 2 then [] else [((k : Int), 1)]) ++ (if m.kind = 1 then [] else [((k : Int), -1)])
def colsTo (ms : List Mb) (n : Nat) : List (Int × Int) := (List.range n).flatMap fun k => colK (ms.getD k default) k
def cols (ms : List Mb) : List (Int × Int) := colsTo ms ms.length
def cv (cs : List (Int × Int)) : List (List V) := cs.map fun p => [.int .i64 p.1, .int .i64 p.2]
theorem colsTo_succ (ms : List Mb) (n : Nat) : colsTo ms (n + 1) = colsTo ms n ++ colK (ms.getD n default) n := by
  unfold colsTo
  rw [List.range_succ, List.flatMap_append]; simp
theorem colK_le (m : Mb) (k : Nat) : (colK m k).length ≤ 2 := by
  unfold colK; split <;> split <;> simp
theorem colsTo_le (ms : List Mb) : ∀ n, (colsTo ms n).length ≤ 2 * n
  | 0 => by simp [colsTo]
  | n + 1 => by
    rw [colsTo_succ, List.length_append]
    have := colsTo_le ms n
    have := colK_le (ms.getD n default) n
    omega
theorem cv_append (a b : List (Int × Int)) : cv (a ++ b) = cv a ++ cv b := by simp [cv]
@[simp] theorem cv_length (a : List (Int × Int)) : (cv a).length = a.length := by simp [cv]
theorem cv_takeall (a : List (Int × Int)) : (cv a).take a.length = cv a := by rw [← cv_length a, List.take_length]
theorem cv_cl (a : List (Int × Int)) : (cv a).all (fun e => e.all V.cl) = true := by simp [cv, V.cl]
theorem cv_clen (a : List (Int × Int)) : ∀ r, r ∈ cv a → r.length = 2 := by
  intro r hr
  obtain ⟨n, _, rfl⟩ := List.mem_map.1 hr
  rfl
theorem own_cv {bl : Int → Option Blk} {ns : List (Int × Int)} {v : V} {gs : List Int} : OwnD bl (fl 2 (cv ns)) v gs ↔ (ns = [] ∧ v = .nils ∧ gs = []) ∨ ∃ g, v = .lsl g 2 0 ns.length ∧ gs = [g] ∧ bl g = some ⟨2, cv ns⟩ ∧ (g < 0 → ns = []) := by
  rw [own_fl (cv_cl ns) (cv_clen ns)]
  simp [cv]

theorem iv_two (a b : Int) : iv [a, b] = [[.int .i64 a], [.int .i64 b]] := rfl
theorem iv_one (a : Int) : iv [a] = [[.int .i64 a]] := rfl

def who (s : Str) : List Int := (cols s.ms).map (·.1)
def sgn (s : Str) : List Int := (cols s.ms).map (·.2)
def dWS (s : Str) : D := .t [fl 1 (iv (who s)), fl 1 (iv (sgn s))]
structure Two where
  i : Nat
  g : Int
  h : Int
  b : Int → Option Blk
def twoInv (bl : Int → Option Blk) (A B : Nat → List Int) (n : Nat) (p : Two) : Prop :=
  p.i ≤ n ∧ p.g ≠ p.h ∧ p.b p.g = some ⟨1, iv (A p.i)⟩ ∧ p.b p.h = some ⟨1, iv (B p.i)⟩ ∧ bl p.g = none ∧ bl p.h = none ∧ Sub bl p.b ∧ (p.g < 0 → A p.i = []) ∧ (p.h < 0 → B p.i = [])

end Go.Proofs.Ythhjmaianlmfpaa.Vm

namespace Go.Proofs.Ythhjmaianlmfpaa.Vm
open Go Go.Proofs
set_option linter.unusedSimpArgs false
set_option linter.unusedVariables false

def rowsTo (s : Str) (n : Nat) : List Int := ((frees s.js).take n).flatMap fun j => rowX s j ++ rowY s j
def rowsF (s : Str) : List Int := (frees s.js).flatMap fun j => rowX s j ++ rowY s j
theorem rowsTo_succ (s : Str) (n : Nat) (h : n < (frees s.js).length) : rowsTo s (n + 1) = rowsTo s n ++ rowX s (frees s.js)[n] ++ rowY s (frees s.js)[n] := by
  unfold rowsTo
  rw [List.take_add_one, List.getElem?_eq_getElem h, List.flatMap_append]; simp
theorem rowsTo_length (s : Str) : ∀ n, n ≤ (frees s.js).length → (rowsTo s n).length = 2 * s.ms.length * n
  | 0, _ => by simp [rowsTo]
  | n + 1, h => by
    rw [rowsTo_succ s n (by omega), List.length_append, List.length_append, rowsTo_length s n (by omega), rowX_length, rowY_length, Nat.mul_add]; omega

structure Three where
  i : Nat
  g : Int
  b : Int → Option Blk
def threeInv (bl : Int → Option Blk) (s : Str) (gs : Int) (p : Three) : Prop :=
  p.i ≤ (frees s.js).length ∧ p.g ≠ gs ∧ p.b p.g = some ⟨1, iv (rowsTo s p.i)⟩ ∧ p.b gs = some ⟨2, [[.sl (jv s.js), .sl (mv s.ms)]]⟩ ∧ bl p.g = none ∧ Sub bl p.b ∧ (p.g < 0 → rowsTo s p.i = [])

def xTo (s : Str) (j : Int) (n : Nat) : List Int := (s.ms.take n).map (eqX s j)
def yTo (s : Str) (j : Int) (n : Nat) : List Int := (s.ms.take n).map (eqY s j)
theorem xTo_succ (s : Str) (j : Int) (n : Nat) (h : n < s.ms.length) : xTo s j (n + 1) = xTo s j n ++ [eqX s j s.ms[n]] := by
  unfold xTo; rw [List.take_add_one, List.getElem?_eq_getElem h, List.map_append]; rfl
theorem yTo_succ (s : Str) (j : Int) (n : Nat) (h : n < s.ms.length) : yTo s j (n + 1) = yTo s j n ++ [eqY s j s.ms[n]] := by
  unfold yTo; rw [List.take_add_one, List.getElem?_eq_getElem h, List.map_append]; rfl
theorem xTo_all (s : Str) (j : Int) : xTo s j s.ms.length = rowX s j := by simp [xTo, rowX]
theorem yTo_all (s : Str) (j : Int) : yTo s j s.ms.length = rowY s j := by simp [yTo, rowY]
theorem xTo_length (s : Str) (j : Int) (n : Nat) (h : n ≤ s.ms.length) : (xTo s j n).length = n := by simp [xTo]; omega
theorem yTo_length (s : Str) (j : Int) (n : Nat) (h : n ≤ s.ms.length) : (yTo s j n).length = n := by simp [yTo]; omega

set_option maxHeartbeats 2000000 in
theorem l14Rows_nw (s : Str) (hs : SOk s) : NW Try.prog 102 [.agg s.c] (fl 1 (iv (rowsF s))) := by
  have h6 := hs.nj
  have h8 := hs.nm
  have hfr := freesTo_le s.js s.js.length
  change (frees s.js).length ≤ s.js.length at hfr
  refine nw_of Try.func102 rfl rfl (by rw [Try.ntmps102]; simp) fun bl => ?_
  rw [Try.ntmps102, Try.results102]
  refine AW_run ?_
  simp [Str.c]
  intro gs hgs0 hgs ga hga0 hgas hbga
  simp [Str.c, hgas, Ne.symm hgas]
  refine callP_ro (l12Free_ro s (by omega)) ?_
  simp
  refine AW_for (fun p : Three => [(1, .loc gs 2 0 0), (3, .lsl p.g 1 0 (2 * s.ms.length * p.i)), (14, .sl (iv (frees s.js))), (15, .int .i64 (frees s.js).length), (16, .int .i64 p.i)]) (fun p => p.b) (threeInv bl s gs) (fun p => (frees s.js).length - p.i) 78
    ⟨0, ga, upd (upd bl gs (some ⟨2, [[.sl (jv s.js), .sl (mv s.ms)]]⟩)) ga (some ⟨1, []⟩)⟩ ⟨Nat.zero_le _, hgas, by simp [rowsTo, iv], by simp [Ne.symm hgas], hbga, by simp [hgs, hbga], fun _ => rfl⟩ ⟨rfl, by simp, sub_eq (by simp [Str.c])⟩ ?_
  rintro ⟨i, g, b⟩ ⟨hi, hgg, hbg, hbs, hg, hsb, h0⟩
  simp only at hi hgg hbg hbs hg hsb h0
  refine AW_run ?_
  simp
  refine ⟨fun h => ?_, fun h => ?_⟩
  · have q := iv_get (frees s.js) i h
    simp [h]
    obtain ⟨j, hj⟩ : ∃ j, (frees s.js)[i] = j := ⟨_, rfl⟩
    rw [hj]
    intro gx hgx0 hbx gy hgy0 hyx hby
    have nxs : gx ≠ gs := fun e => by rw [e, hbs] at hbx; cases hbx
    have nys : gy ≠ gs := fun e => by rw [e, hbs] at hby; cases hby
    have nxg : gx ≠ g := fun e => by rw [e, hbg] at hbx; cases hbx
    have nyg : gy ≠ g := fun e => by rw [e, hbg] at hby; cases hby
    simp [nxs, Ne.symm nxs, nys, Ne.symm nys, hbs]
    refine AW_for (fun p : Two => [(1, .loc gs 2 0 0), (3, .lsl g 1 0 (2 * s.ms.length * i)), (5, .int .i64 j), (6, .lsl p.g 1 0 p.i), (7, .lsl p.h 1 0 p.i), (14, .sl (iv (frees s.js))), (15, .int .i64 (frees s.js).length), (16, .int .i64 i), (23, .sl (mv s.ms)), (24, .int .i64 s.ms.length), (25, .int .i64 p.i)])
      (fun p => p.b) (fun p => twoInv b (xTo s j) (yTo s j) s.ms.length p ∧ 0 ≤ p.g ∧ 0 ≤ p.h) (fun p => s.ms.length - p.i) 78 ⟨0, gx, gy, upd (upd b gx (some ⟨1, []⟩)) gy (some ⟨1, []⟩)⟩ ⟨⟨Nat.zero_le _, Ne.symm hyx, by simp [Ne.symm hyx, xTo, iv], by simp [yTo, iv], hbx, hby, by simp [hbx, hby], fun _ => rfl, fun _ => rfl⟩, hgx0, hgy0⟩ ⟨rfl, by simp, sub_eq (by simp)⟩ ?_
    rintro ⟨k, x, y, c⟩ ⟨⟨hk, hxy, hcx, hcy, hbx', hby', hsc, _, _⟩, hx0, hy0⟩
    simp only at hk hxy hcx hcy hbx' hby' hsc hx0 hy0
    have hcs := hsc _ _ hbs
    have hcg := hsc _ _ hbg
    have fr : ∀ x, c x = none → b x = none := fun x hx => fresh_of hsc hx
    have lx := xTo_length s j k hk
    have ly := yTo_length s j k hk
    have tkx : (iv (xTo s j k)).take k = iv (xTo s j k) := List.take_of_length_le (by simp [lx])
    have tky : (iv (yTo s j k)).take k = iv (yTo s j k) := List.take_of_length_le (by simp [ly])
    refine AW_run ?_
    simp
    refine ⟨fun hkl => ?_, fun hkl => ?_⟩
    · have hv := v_le hs (List.getElem_mem hkl)
      have hm : mat s (k : Int) = s.ms[k] := mat_nat hkl
      have hvec := l12Vector_ro s k hs (by omega) (by omega)
      rw [hm] at hvec
      have w1 : IntKind.i64.wrap ((k : Int) + 1) = k + 1 := i64_in (by omega) (by omega)
      have nx : IntKind.i64.wrap (-vx s s.ms[k]) = -vx s s.ms[k] := i64_in (by omega) (by omega)
      have ny : IntKind.i64.wrap (-vy s s.ms[k]) = -vy s s.ms[k] := i64_in (by omega) (by omega)
      have sx := xTo_succ s j k hkl
      have sy := yTo_succ s j k hkl
      simp [hkl, Mb.c]
      intro g1 hg1 hb1
      have n1s : g1 ≠ gs := fun e => by rw [e, hcs] at hb1; cases hb1
      have n1x : g1 ≠ x := fun e => by rw [e, hcx] at hb1; cases hb1
      have n1y : g1 ≠ y := fun e => by rw [e, hcy] at hb1; cases hb1
      simp [n1s, Ne.symm n1s, hcs]
      refine callP_ro hvec ?_
      simp
      refine ⟨fun e1 => ?_, fun e1 => ⟨fun e2 => ?_, fun e2 => ?_⟩⟩
      · intro g2 hg2 h21 hb2
        have n2x : g2 ≠ x := fun e => by rw [e, hcx] at hb2; cases hb2
        have n2y : g2 ≠ y := fun e => by rw [e, hcy] at hb2; cases hb2
        simp [hcx, n1x, h21, n2x, Ne.symm n1x, Ne.symm h21, Ne.symm n2x, lx, tkx, nx, ny, appV, elsV, Int.not_lt.2 hg2]
        refine ⟨by omega, fun g3 hg3 hb3 => ?_⟩
        have n31 : g3 ≠ g1 := by grind
        have n3y : g3 ≠ y := by grind
        simp [n31, Ne.symm n31, n3y, Ne.symm n3y, nx, ny]
        intro g4 hg4 h43 hb4
        have n41 : g4 ≠ g1 := by grind
        have n4y : g4 ≠ y := by grind
        simp [hxy, Ne.symm hxy, hcy, n1y, Ne.symm n1y, n2y, Ne.symm n2y, n31, Ne.symm n31, n3y, Ne.symm n3y, n41, Ne.symm n41, n4y, Ne.symm n4y, h43, Ne.symm h43, ly, tky, lx, tkx, nx, ny, appV, elsV, Int.not_lt.2 hg4]
        refine ⟨by omega, fun g5 hg5 hb5 => ?_⟩
        have n51 : g5 ≠ g1 := by grind
        have n53 : g5 ≠ g3 := by grind
        have f1 : eqX s j s.ms[k] = vx s s.ms[k] := by rw [eqX, if_pos e1]
        have f2 : eqY s j s.ms[k] = vy s s.ms[k] := by rw [eqY, if_pos e1]
        rw [f1] at sx
        rw [f2] at sy
        simp [w1, loopQ_normal]
        refine ⟨⟨k + 1, g3, g5, _⟩, ⟨⟨by simp only; omega, by simp only; grind, ?_, ?_, by simp only; grind, by simp only; grind, ?_, fun e => by simp only at e; omega, fun e => by simp only at e; omega⟩, hg3, hg5⟩, by simp only; omega, rfl, by simp, sub_eq rfl⟩
        · simp [hxy, Ne.symm hxy, n31, Ne.symm n31, n51, Ne.symm n51, n53, Ne.symm n53, n41, Ne.symm n41, h43, Ne.symm h43, n3y, Ne.symm n3y, n4y, Ne.symm n4y, sx, iv_append, iv_one, tkx, tky]
        · simp [hxy, Ne.symm hxy, n31, Ne.symm n31, n51, Ne.symm n51, n53, Ne.symm n53, n41, Ne.symm n41, h43, Ne.symm h43, n3y, Ne.symm n3y, n4y, Ne.symm n4y, sy, iv_append, iv_one, tkx, tky]
        · intro u z hx
          have hbx := hsc u z hx
          have ng : u ≠ x := fun e => by rw [e, hbx'] at hx; cases hx
          have nh : u ≠ y := fun e => by rw [e, hby'] at hx; cases hx
          simp [upd_apply, rem_apply]
          grind
      · intro g2 hg2 h21 hb2
        have n2x : g2 ≠ x := fun e => by rw [e, hcx] at hb2; cases hb2
        have n2y : g2 ≠ y := fun e => by rw [e, hcy] at hb2; cases hb2
        simp [hcx, n1x, h21, n2x, Ne.symm n1x, Ne.symm h21, Ne.symm n2x, lx, tkx, nx, ny, appV, elsV, Int.not_lt.2 hg2]
        refine ⟨by omega, fun g3 hg3 hb3 => ?_⟩
        have n31 : g3 ≠ g1 := by grind
        have n3y : g3 ≠ y := by grind
        simp [n31, Ne.symm n31, n3y, Ne.symm n3y, nx, ny]
        intro g4 hg4 h43 hb4
        have n41 : g4 ≠ g1 := by grind
        have n4y : g4 ≠ y := by grind
        simp [hxy, Ne.symm hxy, hcy, n1y, Ne.symm n1y, n2y, Ne.symm n2y, n31, Ne.symm n31, n3y, Ne.symm n3y, n41, Ne.symm n41, n4y, Ne.symm n4y, h43, Ne.symm h43, ly, tky, lx, tkx, nx, ny, appV, elsV, Int.not_lt.2 hg4]
        refine ⟨by omega, fun g5 hg5 hb5 => ?_⟩
        have n51 : g5 ≠ g1 := by grind
        have n53 : g5 ≠ g3 := by grind
        have f1 : eqX s j s.ms[k] = -vx s s.ms[k] := by rw [eqX, if_neg e1, if_pos e2]
        have f2 : eqY s j s.ms[k] = -vy s s.ms[k] := by rw [eqY, if_neg e1, if_pos e2]
        rw [f1] at sx
        rw [f2] at sy
        simp [w1, loopQ_normal]
        refine ⟨⟨k + 1, g3, g5, _⟩, ⟨⟨by simp only; omega, by simp only; grind, ?_, ?_, by simp only; grind, by simp only; grind, ?_, fun e => by simp only at e; omega, fun e => by simp only at e; omega⟩, hg3, hg5⟩, by simp only; omega, rfl, by simp, sub_eq rfl⟩
        · simp [hxy, Ne.symm hxy, n31, Ne.symm n31, n51, Ne.symm n51, n53, Ne.symm n53, n41, Ne.symm n41, h43, Ne.symm h43, n3y, Ne.symm n3y, n4y, Ne.symm n4y, sx, iv_append, iv_one, tkx, tky]
        · simp [hxy, Ne.symm hxy, n31, Ne.symm n31, n51, Ne.symm n51, n53, Ne.symm n53, n41, Ne.symm n41, h43, Ne.symm h43, n3y, Ne.symm n3y, n4y, Ne.symm n4y, sy, iv_append, iv_one, tkx, tky]
        · intro u z hx
          have hbx := hsc u z hx
          have ng : u ≠ x := fun e => by rw [e, hbx'] at hx; cases hx
          have nh : u ≠ y := fun e => by rw [e, hby'] at hx; cases hx
          simp [upd_apply, rem_apply]
          grind
      · intro g2 hg2 h21 hb2
        have n2x : g2 ≠ x := fun e => by rw [e, hcx] at hb2; cases hb2
        have n2y : g2 ≠ y := fun e => by rw [e, hcy] at hb2; cases hb2
        simp [hcx, n1x, h21, n2x, Ne.symm n1x, Ne.symm h21, Ne.symm n2x, lx, tkx, nx, ny, appV, elsV, Int.not_lt.2 hg2]
        refine ⟨by omega, fun g3 hg3 hb3 => ?_⟩
        have n31 : g3 ≠ g1 := by grind
        have n3y : g3 ≠ y := by grind
        simp [n31, Ne.symm n31, n3y, Ne.symm n3y, nx, ny]
        intro g4 hg4 h43 hb4
        have n41 : g4 ≠ g1 := by grind
        have n4y : g4 ≠ y := by grind
        simp [hxy, Ne.symm hxy, hcy, n1y, Ne.symm n1y, n2y, Ne.symm n2y, n31, Ne.symm n31, n3y, Ne.symm n3y, n41, Ne.symm n41, n4y, Ne.symm n4y, h43, Ne.symm h43, ly, tky, lx, tkx, nx, ny, appV, elsV, Int.not_lt.2 hg4]
        refine ⟨by omega, fun g5 hg5 hb5 => ?_⟩
        have n51 : g5 ≠ g1 := by grind
        have n53 : g5 ≠ g3 := by grind
        have f1 : eqX s j s.ms[k] = 0 := by rw [eqX, if_neg e1, if_neg e2]
        have f2 : eqY s j s.ms[k] = 0 := by rw [eqY, if_neg e1, if_neg e2]
        rw [f1] at sx
        rw [f2] at sy
        simp [w1, loopQ_normal]
        refine ⟨⟨k + 1, g3, g5, _⟩, ⟨⟨by simp only; omega, by simp only; grind, ?_, ?_, by simp only; grind, by simp only; grind, ?_, fun e => by simp only at e; omega, fun e => by simp only at e; omega⟩, hg3, hg5⟩, by simp only; omega, rfl, by simp, sub_eq rfl⟩
        · simp [hxy, Ne.symm hxy, n31, Ne.symm n31, n51, Ne.symm n51, n53, Ne.symm n53, n41, Ne.symm n41, h43, Ne.symm h43, n3y, Ne.symm n3y, n4y, Ne.symm n4y, sx, iv_append, iv_one, tkx, tky]
        · simp [hxy, Ne.symm hxy, n31, Ne.symm n31, n51, Ne.symm n51, n53, Ne.symm n53, n41, Ne.symm n41, h43, Ne.symm h43, n3y, Ne.symm n3y, n4y, Ne.symm n4y, sy, iv_append, iv_one, tkx, tky]
        · intro u z hx
          have hbx := hsc u z hx
          have ng : u ≠ x := fun e => by rw [e, hbx'] at hx; cases hx
          have nh : u ≠ y := fun e => by rw [e, hby'] at hx; cases hx
          simp [upd_apply, rem_apply]
          grind
    · have : k = s.ms.length := by omega
      subst this
      rw [xTo_all] at hcx
      rw [yTo_all] at hcy
      have nxs' : x ≠ gs := fun e => by rw [e, hbs] at hbx'; cases hbx'
      have nys' : y ≠ gs := fun e => by rw [e, hbs] at hby'; cases hby'
      have nxg' : x ≠ g := fun e => by rw [e, hbg] at hbx'; cases hbx'
      have nyg' : y ≠ g := fun e => by rw [e, hbg] at hby'; cases hby'
      have lr := rowsTo_length s i (by omega)
      have tkr : (iv (rowsTo s i)).take (2 * s.ms.length * i) = iv (rowsTo s i) := List.take_of_length_le (by simp [lr])
      have tkX : (iv (rowX s j)).take s.ms.length = iv (rowX s j) := List.take_of_length_le (by simp)
      have tkY : (iv (rowY s j)).take s.ms.length = iv (rowY s j) := List.take_of_length_le (by simp)
      have hi6 : 2 * s.ms.length * i ≤ 2 * 8 * 6 := Nat.mul_le_mul (by omega) (by omega)
      simp [hcg, hcx, hcy, nxg', nyg', Ne.symm nxg', Ne.symm nyg', Int.not_lt.2 hx0, Int.not_lt.2 hy0, appV, elsV, lr, tkr, tkX, tkY]
      refine ⟨by omega, fun go hgo hbo => ?_⟩
      have nos : go ≠ gs := by grind
      have nox : go ≠ x := by grind
      have noy : go ≠ y := by grind
      simp [nox, noy, Ne.symm nox, Ne.symm noy, nxg', nyg', Ne.symm nxg', Ne.symm nyg', hcx, hcy, Int.not_lt.2 hx0, Int.not_lt.2 hy0, appV, elsV, lr, tkr, tkX, tkY]
      refine ⟨by omega, fun gn hgn hbn => ?_⟩
      have nns : gn ≠ gs := by grind
      have w2 : IntKind.i64.wrap ((i : Int) + 1) = i + 1 := i64_in (by omega) (by omega)
      subst hj
      have rs := rowsTo_succ s i h
      have h1 : bl go = none := by
        by_cases e : go = g
        · rw [e]; exact hg
        · exact fresh_of hsb (fr _ (hbo e))
      have h2 : bl gn = none := by
        by_cases e : gn = go
        · rw [e]; exact h1
        · by_cases e2 : gn = g
          · rw [e2]; exact hg
          · exact fresh_of hsb (fr _ (by grind))
      simp [w2, loopQ_normal]
      refine ⟨⟨i + 1, gn, _⟩, ⟨by simp only; omega, nns, ?_, ?_, h2, ?_, ?_⟩, by simp only; omega, rfl, ?_, sub_eq rfl⟩
      · have tk2 : (iv (rowsTo s i) ++ iv (rowX s (frees s.js)[i])).take (2 * s.ms.length * i + s.ms.length) = iv (rowsTo s i) ++ iv (rowX s (frees s.js)[i]) := List.take_of_length_le (by simp [lr])
        simp [rs, iv_append, tk2]
      · simp [Ne.symm nns, Ne.symm nos, Ne.symm hgg, hcs]
      · intro u z hx
        have hbx := hsc u z (hsb u z hx)
        have n1 : u ≠ g := fun e => by rw [e, hg] at hx; cases hx
        have n2 : u ≠ go := fun e => by rw [e, h1] at hx; cases hx
        have n3 : u ≠ gn := fun e => by rw [e, h2] at hx; cases hx
        simp [n1, n2, n3, hbx]
      · intro e
        simp only at e ⊢
        have ez : s.ms = [] := by
          rcases hgn with hn | ⟨_, hn⟩
          · omega
          · have := congrArg List.length hn
            simpa using this
        have er := lr
        rw [ez] at er
        rw [rs]
        simp [rowX, rowY, ez] at er ⊢
        exact er
      · simp [Nat.mul_add]; omega
  · have : i = (frees s.js).length := by omega
    subst this
    refine retNW [.lsl g 1 0 (2 * s.ms.length * (frees s.js).length)] [g] (by simp) ?_ (by simpa using hg) hsb
    have e : rowsF s = rowsTo s (frees s.js).length := by simp [rowsF, rowsTo]
    refine own_iv.2 (.inr ⟨g, ?_, rfl, by rw [e]; exact hbg, by rw [e]; exact h0⟩)
    rw [e, rowsTo_length s _ (Nat.le_refl _)]; rfl

theorem l14Rows_ro (s : Str) (hs : SOk s) : RO Try.prog 102 [.agg s.c] (.sl (iv (rowsF s))) := by
  have := ro_of_nw 1 (l14Rows_nw s hs) (fl_dep _ _ 0)
  simpa using this

/-- Minus the load at the free joints. -/
def rightTo (s : Str) (l : List Int) (n : Nat) : List Int := ((frees s.js).take n).flatMap fun j => [-lat l (2 * j).toNat, -lat l (2 * j + 1).toNat]
def right (s : Str) (l : List Int) : List Int := (frees s.js).flatMap fun j => [-lat l (2 * j).toNat, -lat l (2 * j + 1).toNat]
theorem rightTo_succ (s : Str) (l : List Int) (n : Nat) (h : n < (frees s.js).length) : rightTo s l (n + 1) = rightTo s l n ++ [-lat l (2 * (frees s.js)[n]).toNat, -lat l (2 * (frees s.js)[n] + 1).toNat] := by
  unfold rightTo
  rw [List.take_add_one, List.getElem?_eq_getElem h, List.flatMap_append]; simp
theorem rightTo_length (s : Str) (l : List Int) : ∀ n, n ≤ (frees s.js).length → (rightTo s l n).length = 2 * n
  | 0, _ => by simp [rightTo]
  | n + 1, h => by
    rw [rightTo_succ s l n (by omega), List.length_append, rightTo_length s l n (by omega)]; simp; omega
theorem frees_range {s : Str} {j : Int} (h : j ∈ frees s.js) : 0 ≤ j ∧ j < s.js.length := by
  unfold frees freesTo at h
  obtain ⟨k, hk, rfl⟩ := List.mem_map.1 h
  have := List.mem_range.1 (List.mem_filter.1 hk).1
  omega

end Go.Proofs.Ythhjmaianlmfpaa.Vm

namespace Go.Proofs.Ythhjmaianlmfpaa.Vm
open Go Go.Proofs
set_option linter.unusedSimpArgs false
set_option linter.unusedVariables false

def zRow (row : List Int) : List (Option Rat) := row.map fun (n : Int) => some (n : Rat)
def zGrid (rows : List (List Int)) : List (List (Option Rat)) := rows.map zRow
def roInts (l : List Int) : List RT := l.map fun (n : Int) => ro (some (n : Rat))
theorem zGrid_eq (rows : List (List Int)) (c : Nat) (h : ∀ w, w ∈ rows → w.length = c) : gridOf rows.length c (fun i k => some (((rows.getD i []).getD k 0 : Int) : Rat)) = zGrid rows := by
  apply List.ext_getElem
  · simp [zGrid]
  · intro i h1 h2
    have hi : i < rows.length := by simpa using h1
    rw [gridOf_getE]
    simp only [zGrid, List.getElem_map]
    apply List.ext_getElem
    · simp [zRow, h _ (List.getElem_mem hi)]
    · intro k h3 h4
      have hk : k < rows[i].length := by simpa [zRow] using h4
      rw [rowOf_getE]
      simp [zRow, hi, hk]
theorem zGrid_all (rows : List (List Int)) : stAll (zGrid rows) = true := by
  unfold stAll zGrid
  rw [List.all_map, List.all_eq_true]
  intro w hw
  simp [allSome, zRow]
theorem zGrid_flat (rows : List (List Int)) : ((zGrid rows).map roAll).flatten = roInts rows.flatten := by
  induction rows with
  | nil => rfl
  | cons w ws ih =>
    simp only [zGrid, List.map_cons, List.flatten_cons] at ih ⊢
    rw [ih]
    simp [roInts, roAll, zRow]
/-- Small numbers. -/
def small (rows : List (List Int)) : Prop := ∀ w, w ∈ rows → ∀ n, n ∈ w → -100 ≤ n ∧ n ≤ 100
theorem eqG1_ro (rows : List (List Int)) (hs : small rows) (i k : Nat) (hi : i < rows.length) (hk : k < rows[i].length) : RO Try.prog 156 [.int .i64 i, .int .i64 k, .ptr [.sl (ivv rows)]] (fv (some (((rows.getD i []).getD k 0 : Int) : Rat))) := by
  have hb := hs _ (List.getElem_mem hi) _ (List.getElem_mem hk)
  refine ro_of2 Try.func156 rfl rfl (by rw [Try.ntmps156]; simp) fun bl => ?_
  rw [Try.ntmps156, Try.results156]
  refine AW_run ?_
  simp [hi, hk]
  refine callP_ro (whole_ro rows[i][k] (by omega)) ?_
  simp
  exact retRO [fv (some ((rows[i][k] : Int) : Rat))] 0 (by simp) (by simp [hi, hk, fv_frz]) (Sub.refl _)

theorem eqX_le {s : Str} (hs : SOk s) (j : Int) {m : Mb} (hm : m ∈ s.ms) : (-100 ≤ eqX s j m ∧ eqX s j m ≤ 100) ∧ (-100 ≤ eqY s j m ∧ eqY s j m ≤ 100) := by
  have := v_le hs hm
  unfold eqX eqY
  split
  · exact this
  · split
    · omega
    · omega
theorem eqRows_small {s : Str} (hs : SOk s) : small (eqRows s) ∧ ∀ w, w ∈ eqRows s → w.length = s.ms.length := by
  constructor
  · intro w hw n hn
    obtain ⟨j, _, hw⟩ := List.mem_flatMap.1 hw
    rcases List.mem_cons.1 hw with rfl | hw
    · obtain ⟨m, hm, rfl⟩ := List.mem_map.1 hn
      exact (eqX_le hs j hm).1
    · obtain rfl : w = rowY s j := by simpa using hw
      obtain ⟨m, hm, rfl⟩ := List.mem_map.1 hn
      exact (eqX_le hs j hm).2
  · intro w hw
    obtain ⟨j, _, hw⟩ := List.mem_flatMap.1 hw
    rcases List.mem_cons.1 hw with rfl | hw
    · simp
    · obtain rfl : w = rowY s j := by simpa using hw
      simp
theorem eqRows_length (s : Str) : (eqRows s).length = 2 * (frees s.js).length := by
  have := eqTo_length s (frees s.js).length (Nat.le_refl _)
  rw [← this]; unfold eqTo eqRows; rw [List.take_length]
theorem eqRows_flat (s : Str) : (eqRows s).flatten = rowsF s := by
  unfold eqRows rowsF
  induction frees s.js with
  | nil => rfl
  | cons j js ih =>
    rw [List.flatMap_cons, List.flatMap_cons, List.flatten_append, ih]
    simp
theorem equilibrium_roG (s : Str) (hs : SOk s) : RO Try.prog 154 [.ptr s.c] (.sl (ivv (eqRows s))) := by
  have := ro_of_nw 2 (equilibrium_nw s hs) (dII_dep _)
  rwa [dII_fz] at this
theorem equilibriumGrid_ro (s : Str) (hs : SOk s) : RO Try.prog 103 [.ptr s.c] (.agg [.int .i64 (eqRows s).length, .int .i64 s.ms.length, .sl (gv (zGrid (eqRows s)))]) := by
  obtain ⟨hsm, hlen⟩ := eqRows_small hs
  have hrl := eqRows_length s
  have hnj := hs.nj
  have hnm := hs.nm
  have hfl := freesTo_le s.js s.js.length
  change (frees s.js).length ≤ s.js.length at hfl
  have hG := ro_of_nw 3 (newGrid_nw (eqRows s).length s.ms.length (by omega) (by omega) 156 [.ptr [.sl (ivv (eqRows s))]] (fun i k => some ((((eqRows s).getD i []).getD k 0 : Int) : Rat)) (fun i k hi hk => eqG1_ro (eqRows s) hsm i k hi (by rw [hlen _ (List.getElem_mem hi)]; exact hk))) (dG_dep _ _ _)
  rw [dG_fz, zGrid_eq _ _ hlen] at hG
  refine ro_of2 Try.func103 rfl rfl (by rw [Try.ntmps103]; simp) fun bl => ?_
  rw [Try.ntmps103, Try.results103]
  refine AW_runA ?_
  simp
  intro g2 hg2 hb2
  refine AW_runA ?_
  simp
  refine callP_ro (equilibrium_roG s hs) ?_
  simp
  intro g3 hg3 h32 hb3
  refine AW_frzAt 1 3 (.ptr [.sl (ivv (eqRows s))]) (upd bl g2 (some ⟨3, [[.int .i64 0, .int .i64 0, .nils]]⟩)) (by simp [h32, hb3]) (by simp [frz, dropB, h32, Ne.symm h32, hb3, V.cl]) ?_
  refine AW_run ?_
  refine AW_mixedB mixedO bl (by simp [hb2]) [0, 1, 2, 3, 4, 5, 6] 3 (by kernel_rfl) ?_
  simp [Str.c]
  refine DAny_one (i := 7) (by kernel_rfl) rfl rfl ?_
  simp
  refine ⟨by simp [hb2], DAny_one (i := 8) (by kernel_rfl) rfl rfl ?_⟩
  try simp
  refine callP_ro hG ?_
  refine ⟨by simp [hb2], DAny_one (i := 9) (by kernel_rfl) rfl rfl ?_⟩
  simp
  refine ⟨by simp [hb2], DAny_done (by kernel_rfl) ?_⟩
  try simp
  exact retRO [.agg [.int .i64 (eqRows s).length, .int .i64 s.ms.length, .sl (gv (zGrid (eqRows s)))]] 1 (by simp) (by simp [frz, V.cl]) (by simp [hb2])

/-- The equilibrium matrix of a structure, or none. -/
def eqMx (s : Str) : MX := if sOk s = true then ⟨(eqRows s).length, s.ms.length, roInts (rowsF s)⟩ else ⟨0, 0, []⟩
theorem zGrid_ok {rows : List (List Int)} (h : small rows) : ∀ w, w ∈ zGrid rows → okL w := by
  intro w hw x hx
  obtain ⟨r, hr, rfl⟩ := List.mem_map.1 hw
  obtain ⟨n, hn, rfl⟩ := List.mem_map.1 hx
  have := h r hr n hn
  exact okQ_int (by omega)
theorem zGrid_flen (rows : List (List Int)) : (zGrid rows).flatten.length = rows.flatten.length := by
  induction rows with
  | nil => rfl
  | cons w ws ih =>
    simp only [zGrid, List.map_cons, List.flatten_cons, List.length_append] at ih ⊢
    rw [ih]; simp [zRow]
theorem rowsF_len (s : Str) : (rowsF s).length = 2 * (frees s.js).length * s.ms.length := by
  unfold rowsF
  induction frees s.js with
  | nil => simp
  | cons j js ih => rw [List.flatMap_cons, List.length_append, ih]; simp [Nat.add_mul, Nat.mul_add]; omega
theorem impl_EquilibriumMatrix_nw (s : Str) (hj : s.js.length ≤ 140737488351232) (hm : s.ms.length ≤ 140737488351232) (hn : ∀ j, j ∈ s.js → j.name.size ≤ 140737488351232) : NW Try.prog 52 [.agg s.c] (.a (dMx (eqMx s))) := by
  refine nw_of Try.func52 rfl rfl (by rw [Try.ntmps52]; simp) fun bl => ?_
  rw [Try.ntmps52, Try.results52]
  refine AW_runA ?_
  simp [Str.c]
  intro g hg0 hg g2 hg2 h2g hb2
  refine AW_frzAt 1 1 (.ptr s.c) (upd bl g2 (some ⟨3, [[.int .i64 0, .int .i64 0, .nils]]⟩)) (by intro z b hz; simp only [upd_apply] at hz ⊢; grind) (by simp [frz, dropB, hg, h2g, Ne.symm h2g, Str.c, V.cl]) ?_
  refine AW_run ?_
  simp [Str.c]
  refine callP_ro (impl_StructureOk_ro s hj hm hn) ?_
  cases hk : sOk s
  · have hz : eqMx s = ⟨0, 0, []⟩ := by unfold eqMx; rw [hk]; rfl
    rw [hz]
    simp
    refine retNW [.agg [.int .i64 0, .int .i64 0, .nils]] [] (by simp) ?_ (by simp) (by simp [hb2])
    show OwnD _ (.a (dMx _)) _ _
    rw [OwnD]
    exact ⟨_, rfl, own_mx.2 ⟨.nils, rfl, own_rs.2 (.inl ⟨rfl, rfl, rfl⟩)⟩⟩
  have hs := sOk_of hk
  obtain ⟨hsm, hlen⟩ := eqRows_small hs
  have hrl := eqRows_length s
  have hnj := hs.nj
  have hnm := hs.nm
  have hfl := freesTo_le s.js s.js.length
  change (frees s.js).length ≤ s.js.length at hfl
  have hz : eqMx s = ⟨(eqRows s).length, s.ms.length, roInts (rowsF s)⟩ := by unfold eqMx; rw [hk]; rfl
  have hrf := rowsF_len s
  have hmul : 2 * (frees s.js).length * s.ms.length ≤ 12 * 8 := Nat.mul_le_mul (by omega) hnm
  have hcl : clMx (eqRows s).length s.ms.length (zGrid (eqRows s)) = eqMx s := by
    unfold clMx; rw [zGrid_all, if_pos rfl, zGrid_flat, eqRows_flat, hz]
  have hC := closed_nw (eqRows s).length s.ms.length (zGrid (eqRows s)) (by simp [zGrid]; omega) (zGrid_ok hsm) (fun w hw => by
    obtain ⟨r, hr, rfl⟩ := List.mem_map.1 hw
    rw [zRow, List.length_map, hlen r hr]; omega) (by rw [zGrid_flen, eqRows_flat]; omega)
  rw [hcl, zGrid_all] at hC
  simp
  refine callP_ro (equilibriumGrid_ro s hs) ?_
  simp
  refine callP_new hC fun v gs b o f fr => ?_
  obtain ⟨w, rfl, ow⟩ := own_dMB.1 o
  obtain ⟨w1, w2⟩ := own_rs1 ow
  have e2 : b g2 = some ⟨3, [[.int .i64 0, .int .i64 0, .nils]]⟩ := new_keep f fr (by simp)
  have hgs : ∀ x, x ∈ gs → x ≠ g2 ∧ bl x = none := fun x hx => by have := f x hx; simp only [upd_apply] at this; split at this <;> simp_all
  have hs1 : Sub bl b := fun x y hy => new_keep f fr (by rw [upd_apply, if_neg (fun e => by rw [e, hb2] at hy; cases hy)]; exact hy)
  simp [w1, w2, e2]
  intro g3 hg3 hb3
  have h32 : g3 ≠ g2 := fun e => by rw [e, e2] at hb3; cases hb3
  have hb30 : bl g3 = none := fresh_of hs1 hb3
  simp [w1, w2, e2, h32, Ne.symm h32]
  refine retNW [.agg [.int .i64 (eqMx s).r, .int .i64 (eqMx s).c, w]] gs (by simp [w1, w2]) ?_ (fun x hx => (hgs x hx).2) ?_
  · show OwnD _ (.a (dMx _)) _ _
    rw [OwnD]
    refine ⟨_, rfl, own_mx.2 ⟨w, rfl, ow.frame fun x hx => ?_⟩⟩
    have e3 : x ≠ g3 := fun e => by obtain ⟨y, hy⟩ := ow.has x hx; rw [e, hb3] at hy; cases hy
    simp [upd_apply, (hgs x hx).1, e3]
  · intro x y hx
    have z2 : x ≠ g2 := fun e => by rw [e, hb2] at hx; cases hx
    have z3 : x ≠ g3 := fun e => by rw [e, hb30] at hx; cases hx
    simp [upd_apply, z2, z3, hs1 x y hx]

end Go.Proofs.Ythhjmaianlmfpaa.Vm

namespace Go.Proofs.Ythhjmaianlmfpaa.Vm
open Go Go.RowKit
set_option linter.unusedSimpArgs false
set_option linter.unusedVariables false

theorem Hoist_append {P : Program} {ops : Array Oper} {blK : Int → Option Blk} {K : St → Prop} : ∀ (is js : List Nat) (σ : St), Hoist P ops blK is (fun σ' => Hoist P ops blK js K σ') σ → Hoist P ops blK (is ++ js) K σ
  | [], js, σ, h => h
  | i :: is, js, σ, h => by
    rw [List.cons_append]
    unfold Hoist at h ⊢
    split at h
    · obtain ⟨v, h1, h2⟩ := h
      exact ⟨v, h1, Hoist_append is js _ h2⟩
    · exact h.elim
theorem HoistF_mono {P : Program} {ds : List (Option Tmp)} {blK : Int → Option Blk} {K K' : St → Prop} (hK : ∀ σ, K σ → K' σ) : ∀ (l : List Oper) (σ : St), HoistF P ds blK l K σ → HoistF P ds blK l K' σ
  | [], σ, h => hK σ h
  | o :: rest, σ, h => by
    have next : ∀ v, HoistF P ds blK rest K (σ.put o.dst v) → HoistF P ds blK rest K' (σ.put o.dst v) := fun v hv => HoistF_mono hK rest _ hv
    unfold HoistF at h ⊢
    cases hg : o.guard with
    | none =>
      simp only [hg] at h ⊢
      split at h
      · obtain ⟨p, h1, v, n, ys, h2, h3⟩ := h
        exact ⟨p, h1, v, n, ys, h2, next v h3⟩
      · obtain ⟨v, h1, h2⟩ := h
        exact ⟨v, h1, next v h2⟩
    | some jb =>
      obtain ⟨j, b⟩ := jb
      simp only [hg] at h ⊢
      split at h
      · rename_i d hd
        split at h
        · split at h
          · rename_i hq
            obtain ⟨v, h1, h2⟩ := h
            rw [if_pos hq]
            exact ⟨v, h1, next v h2⟩
          · rename_i hq
            rw [if_neg hq]
            exact next _ h
        · exact next _ h
        · exact h.elim
      · exact h.elim
/-- One operation, guarded or not, as what it yields. -/
def HStep (P : Program) (ops : Array Oper) (blK : Int → Option Blk) (i : Nat) (K : St → Prop) (σ : St) : Prop := match ops[i]? with
  | some o => ∃ v, DY P ops blK o σ v ∧ K (σ.put o.dst v)
  | none => False
theorem HStep_call {P : Program} {ops : Array Oper} {blK : Int → Option Blk} {K : St → Prop} {σ : St} {i j d : Nat} {o : Oper} {b : Bool} {f : Operand} {args : Array Operand} {ats : Array TypeId} {fid : FuncId} {xs : List V} {v : V}
    (ho : ops[i]? = some o) (hop : o.op = .call ⟨.value f, args, ats⟩) (hg : o.guard = some (j, b)) (hd : (ops[j]?).bind (·.dst) = some d) (hb : σ.ev (.tmp d) = .bool b) (hc : callV σ f args.toList = some (fid, xs)) (hr : RO P fid xs v) (hK : K (σ.put o.dst v)) : HStep P ops blK i K σ := by
  unfold HStep
  rw [ho]
  refine ⟨v, ?_, hK⟩
  unfold DY
  simp only [hg, hd, hb]
  exact ⟨fun _ => .inr ⟨_, f, (fid, xs), 0, [], hop, rfl, hc, .inr hr⟩, fun hh => by cases b <;> cases hh⟩
theorem HStep_skip {P : Program} {ops : Array Oper} {blK : Int → Option Blk} {K : St → Prop} {σ : St} {i j d : Nat} {o : Oper} {b : Bool}
    (ho : ops[i]? = some o) (hg : o.guard = some (j, b)) (hd : (ops[j]?).bind (·.dst) = some d) (hb : σ.ev (.tmp d) = .bool (!b)) (hK : K (σ.put o.dst (.tup []))) : HStep P ops blK i K σ := by
  unfold HStep
  rw [ho]
  refine ⟨.tup [], ?_, hK⟩
  unfold DY
  simp only [hg, hd, hb]
  cases b
  · exact ⟨fun hh => (by cases hh), fun _ => by first | trivial | rfl⟩
  · exact ⟨fun hh => (by cases hh), fun _ => by first | trivial | rfl⟩
/-- As AW_mixedB, with the guarded call i between the lists is1 and is2. -/
theorem AW_mixedC {P : Program} {id : Nat} {ops : Array Oper} {K : Ex → St → Prop} {σ : St} (hm : P.follows .mixedOrders = true) (blK : Int → Option Blk) (hs : Sub blK σ.bl) (is1 : List Nat) (i : Nat) (is2 : List Nat) (fuel : Nat)
    (hn : (ops.size == fuel + (is1 ++ i :: is2).length && (is1 ++ i :: is2).all (fun i => decide (i < ops.size)) && hoistB ops (is1 ++ i :: is2) (Array.replicate ops.size false)) = true)
    (h : HoistF P (ops.toList.map (·.dst)) blK (is1.filterMap fun i => ops[i]?) (HStep P ops blK i (HoistF P (ops.toList.map (·.dst)) blK (is2.filterMap fun i => ops[i]?) (DAny P ops blK (fun _ => false) (K .normal) fuel (setAll (is1 ++ i :: is2) (Array.replicate ops.size false))))) σ) : AW P (.region id ops true) K σ := by
  simp only [Bool.and_eq_true, beq_iff_eq] at hn
  have hall := List.all_eq_true.1 hn.1.2
  have f1 : is1.all (fun i => decide (i < ops.size)) = true := List.all_eq_true.2 fun x hx => hall x (List.mem_append_left _ hx)
  have f2 : is2.all (fun i => decide (i < ops.size)) = true := List.all_eq_true.2 fun x hx => hall x (List.mem_append_right _ (List.mem_cons_of_mem _ hx))
  refine AW_draw_mixed hm (is1 ++ i :: is2) fuel blK hs hn.1.1 hn.2 (tl := fun _ => false) (fun _ _ _ _ h => by cases h) (Hoist_append is1 (i :: is2) σ (Hoist_is _ is1 σ (filter_some is1 f1) ?_))
  refine HoistF_mono (fun σ' h' => ?_) _ _ h
  unfold HStep at h'
  unfold Hoist
  split at h'
  · rename_i o ho
    obtain ⟨v, h1, h2⟩ := h'
    rw [ho]
    exact ⟨v, h1, Hoist_is _ is2 _ (filter_some is2 f2) h2⟩
  · exact h'.elim

/-- AW_mixedB where the last operations may store. -/
theorem AW_mixedBT {P : Program} {id : Nat} {ops : Array Oper} {K : Ex → St → Prop} {σ : St} (hm : P.follows .mixedOrders = true) (blK : Int → Option Blk) (hs : Sub blK σ.bl) (is : List Nat) (fuel n : Nat) (hn : (ops.size == fuel + is.length && is.all (fun i => decide (i < ops.size)) && hoistB ops is (Array.replicate ops.size false) && tailB ops (fun j => decide (n ≤ j)) is) = true)
    (h : HoistF P (ops.toList.map (·.dst)) blK (is.filterMap fun i => ops[i]?) (DAny P ops blK (fun j => decide (n ≤ j)) (K .normal) fuel (setAll is (Array.replicate ops.size false))) σ) : AW P (.region id ops true) K σ := by
  simp only [Bool.and_eq_true, beq_iff_eq] at hn
  exact AW_draw_mixed hm is fuel blK hs hn.1.1.1 hn.1.2 (tl := fun j => decide (n ≤ j)) (tailB_spec hn.2) (Hoist_is _ is σ (filter_some is hn.1.1.2) h)

end Go.Proofs.Ythhjmaianlmfpaa.Vm

namespace Go.Proofs.Ythhjmaianlmfpaa.Vm
open Go Go.Proofs
set_option linter.unusedSimpArgs false
set_option linter.unusedVariables false

theorem roInts_append (a b : List Int) : roInts (a ++ b) = roInts a ++ roInts b := by simp [roInts]
@[simp] theorem roInts_length (a : List Int) : (roInts a).length = a.length := by simp [roInts]
theorem frz_sl3 {bl bl0 : Int → Option Blk} {g : Int} {n : Nat} {els : List (List V)} (h0 : 0 ≤ g ∨ n = 0) (hg : bl0 g = none) (hb : bl g = some ⟨3, els⟩) (hn : els.length = n) (hcl : els.all (fun e => e.all V.cl) = true) : frz (dropB bl bl0) 1 (.lsl g 3 0 n) = some (.sl els) := by
  rcases Int.lt_or_le g 0 with h | h
  · rcases h0 with h0 | h0
    · omega
    · have : els = [] := List.eq_nil_of_length_eq_zero (by omega)
      subst this
      simp [frz, h]
  · exact frz_slice h hg hb hn hcl
theorem MatrixOf_ro (r c : Nat) (l : List Int) (hr : r ≤ 24) (hc : c ≤ 24) (hl : l.length = r * c) (hs : ∀ n, n ∈ l → -100 ≤ n ∧ n ≤ 100) : RO Try.prog 100 [.int .i64 r, .int .i64 c, .sl (iv l)] (.agg [.int .i64 r, .int .i64 c, .sl (rv (roInts l))]) := by
  have hmul : r * c ≤ 24 * 24 := Nat.mul_le_mul hr hc
  have hw : IntKind.i64.wrap ((r : Int) * (c : Int)) = ((r * c : Nat) : Int) := by
    have : ((r : Int) * (c : Int)) = ((r * c : Nat) : Int) := by simp
    rw [this]; exact i64_in (by omega) (by omega)
  refine ro_of2 Try.func100 rfl rfl (by rw [Try.ntmps100]; simp) fun bl => ?_
  rw [Try.ntmps100, Try.results100]
  refine AW_runA ?_
  simp
  intro g6 hg6 hb6
  refine AW_runA ?_
  simp
  refine AW_way [(0, .int .i64 r), (1, .int .i64 c), (2, .sl (iv l)), (6, .loc g6 3 0 0)] _ (upd bl g6 (some ⟨3, [[.int .i64 0, .int .i64 0, .nils]]⟩)) 25 (.bool false) (upd bl g6 (some ⟨3, [[.int .i64 0, .int .i64 0, .nils]]⟩)) ⟨rfl, by simp, Sub.refl _⟩ rfl ?_ ?_
  · simp
    refine callP_ro (l01In_ro _ _ _) ?_
    have h1 : (0 : Int) ≤ r := by omega
    have h2 : (r : Int) ≤ 24 := by omega
    simp [h1, h2]
    refine callP_ro (l01In_ro _ _ _) ?_
    have h3 : (0 : Int) ≤ c := by omega
    have h4 : (c : Int) ≤ 24 := by omega
    simp [h3, h4, hw, hl]
  simp
  refine AW_runA ?_
  simp
  intro g7 hg7
  intros
  have h76 : ¬ g7 = g6 := by assumption
  have hb7 : bl g7 = none := by assumption
  try simp [h76, Ne.symm h76]
  refine AW_ghostCell (g := g7) (s := 3) (els := [[.int .i64 r, .int .i64 c, .nils]]) (e := [.int .i64 r, .int .i64 c, .nils]) 0 2 3 (by simp) rfl rfl fun ga hga hne => ?_
  simp [upd_apply] at hga
  obtain ⟨hga7, hga6, hbga⟩ : ga ≠ g7 ∧ ga ≠ g6 ∧ bl ga = none := by grind
  refine AW_run ?_
  simp [h76, Ne.symm h76]
  refine AW_for (fun p : Int × Nat => [(6, .loc g6 3 0 0), (7, .loc g7 3 0 0), (30, .sl (iv l)), (31, .int .i64 l.length), (32, .int .i64 p.2)]) (fun p => upd (upd (upd bl g6 (some ⟨3, [[.int .i64 0, .int .i64 0, .nils]]⟩)) g7 (some ⟨3, [[.int .i64 r, .int .i64 c, .lsl p.1 3 0 p.2]]⟩)) p.1 (some ⟨3, rv (roInts (l.take p.2))⟩))
    (fun p => p.2 ≤ l.length ∧ bl p.1 = none ∧ p.1 ≠ g6 ∧ p.1 ≠ g7 ∧ (0 ≤ p.1 ∨ p.2 = 0)) (fun p => l.length - p.2) _ (ga, 0) ⟨Nat.zero_le _, hbga, hga6, hga7, .inr rfl⟩ ⟨rfl, by simp, sub_eq (by simp [rv, roInts])⟩ ?_
  rintro ⟨g, i⟩ ⟨hi, hbg, n6, n7, hgi⟩
  simp only at hi hbg n6 n7 hgi
  refine AW_run ?_
  simp
  refine ⟨fun h => ?_, fun h => ?_⟩
  · have hb := hs _ (List.getElem_mem h)
    have hI := RatFromInt_ro l[i] (by omega)
    have hrow : (rv (roInts (l.take i))).take i ++ [[.bool (rq (l[i] : Rat)).neg, .sl (iv (rq (l[i] : Rat)).m), .sl (iv (rq (l[i] : Rat)).d)]] = rv (roInts (l.take (i + 1))) := by
      rw [List.take_add_one, List.getElem?_eq_getElem h, Option.toList_some, roInts_append, rv_append, List.take_of_length_le (by simp; omega)]
      rfl
    have hmin : min i l.length = i := by omega
    simp [h]
    refine AW_mixedBT mixedO (upd bl g7 (some ⟨3, [[.int .i64 r, .int .i64 c, .lsl g 3 0 i]]⟩)) (by intro z b hz; simp only [upd_apply] at hz ⊢; grind) [0, 1, 2, 3] 4 7 (by kernel_rfl) ?_
    simp
    refine hcQ_ro hI ?_
    simp [RT.c]
    refine DAny_one (i := 4) (by kernel_rfl) rfl rfl ?_
    simp [n6, Ne.symm n6, n7, Ne.symm n7, h76, Ne.symm h76]
    intro g2 hg2
    intros
    have h2g : ¬ g2 = g := by assumption
    have h27 : ¬ g2 = g7 := by assumption
    have h26 : ¬ g2 = g6 := by assumption
    have hb2 : bl g2 = none := by assumption
    refine ⟨by intro z b hz; simp only [upd_apply] at hz ⊢; grind, DAny_one (i := 5) (by kernel_rfl) rfl rfl ?_⟩
    simp [appV, elsV, Int.not_lt.2 hg2, h2g, Ne.symm h2g, n6, Ne.symm n6, n7, Ne.symm n7, hmin]
    refine ⟨by omega, fun g3 hg3 hb3 => ?_⟩
    have hb3' : bl g3 = none := by grind
    have h37 : ¬ g3 = g7 := by grind
    have h36 : ¬ g3 = g6 := by grind
    have h32 : ¬ g3 = g2 := by grind
    rw [hrow]
    refine ⟨by intro z b hz; simp only [upd_apply, rem_apply] at hz ⊢; grind, DAny_one (i := 6) (by kernel_rfl) rfl rfl ?_⟩
    simp
    refine ⟨by intro z b hz; simp only [upd_apply, rem_apply] at hz ⊢; grind, DAny_last (i := 7) (by kernel_rfl) rfl rfl rfl ?_⟩
    simp [h37, Ne.symm h37, h27, Ne.symm h27, n7, Ne.symm n7, h2g, Ne.symm h2g]
    refine DAny_done (by kernel_rfl) ?_
    simp (disch := omega) [i64_in, loopQ_normal]
    refine ⟨g3, i + 1, ⟨by omega, hb3', h36, h37, .inl hg3⟩, by omega, rfl, by simp, by intro z b hz; simp only [upd_apply, rem_apply] at hz ⊢; grind⟩
  · have hi2 : i = l.length := by omega
    subst hi2
    rw [List.take_length]
    simp [h76, Ne.symm h76, n6, Ne.symm n6, n7, Ne.symm n7]
    have hz := frz_sl3 (bl := upd (upd (upd (upd bl g6 (some ⟨3, [[.int .i64 0, .int .i64 0, .nils]]⟩)) g7 (some ⟨3, [[.int .i64 r, .int .i64 c, .lsl g 3 0 l.length]]⟩)) g (some ⟨3, rv (roInts l)⟩)) g6 (some ⟨3, [[.int .i64 r, .int .i64 c, .lsl g 3 0 l.length]]⟩)) (bl0 := bl) hgi hbg (els := rv (roInts l)) (by simp [n6]) (by simp) (rv_cl _)
    refine retRO [.agg [.int .i64 r, .int .i64 c, .lsl g 3 0 l.length]] 2 (by simp [h76, Ne.symm h76, n6, Ne.symm n6]) ?_ (by intro z b hz; simp only [upd_apply, rem_apply] at hz ⊢; grind)
    show frz _ 2 (.agg _) = _
    rw [frz_agg]
    simp only [List.mapM_cons, List.mapM_nil, hz, show ∀ (B : Int → Option Blk) (n : Int), frz B 1 (.int .i64 n) = some (.int .i64 n) from fun B n => by simp [frz]]
    rfl

theorem spec_EquilibriumMatrix_ro (s : Str) (hj : s.js.length ≤ 140737488351232) (hm : s.ms.length ≤ 140737488351232) (hn : ∀ j, j ∈ s.js → j.name.size ≤ 140737488351232) : RO Try.prog 51 [.agg s.c] (.agg (eqMx s).c3) := by
  refine ro_of2 Try.func51 rfl rfl (by rw [Try.ntmps51]; simp) fun bl => ?_
  rw [Try.ntmps51, Try.results51]
  refine AW_run ?_
  simp [Str.c]
  intro g hg0 hg g2 hg2 h2g hb2
  try simp [h2g, Ne.symm h2g]
  refine callP_ro (spec_StructureOk_ro s hj hm hn) ?_
  cases hk : sOk s
  · have hz : eqMx s = ⟨0, 0, []⟩ := by unfold eqMx; rw [hk]; rfl
    rw [hz]
    simp
    exact retRO [.agg [.int .i64 0, .int .i64 0, .nils]] 1 (by simp) (by simp [frz, MX.c3, V.cl, rv]) (by simp [hg, hb2])
  have hs := sOk_of hk
  obtain ⟨hsm, hlen⟩ := eqRows_small hs
  have hrl := eqRows_length s
  have hnj := hs.nj
  have hnm := hs.nm
  have hfl := freesTo_le s.js s.js.length
  change (frees s.js).length ≤ s.js.length at hfl
  have hz : eqMx s = ⟨(eqRows s).length, s.ms.length, roInts (rowsF s)⟩ := by unfold eqMx; rw [hk]; rfl
  have hw : IntKind.i64.wrap (2 * ((frees s.js).length : Int)) = (((eqRows s).length : Nat) : Int) := by
    rw [hrl, i64_in (by omega) (by omega)]; simp
  have hM := MatrixOf_ro (eqRows s).length s.ms.length (rowsF s) (by omega) (by omega) (by rw [rowsF_len, hrl]) (fun n hn => by
    rw [← eqRows_flat] at hn
    obtain ⟨w, hw, hn⟩ := List.mem_flatten.1 hn
    exact hsm w hw n hn)
  rw [hz]
  simp
  refine AW_mixedB mixedO (upd bl g (some ⟨2, [s.c]⟩)) (by (try simp only [Str.c]); intro z b hz; simp only [upd_apply, rem_apply] at hz ⊢; grind) [0, 1, 2, 3, 4, 5, 6, 7, 8, 9] 1 (by kernel_rfl) ?_
  simp [Str.c, h2g, Ne.symm h2g]
  refine hcQ_ro (l12Free_ro s (by omega)) ?_
  simp [Str.c, hw]
  refine hcQ_ro (l14Rows_ro s hs) ?_
  simp
  refine hcQ_ro hM ?_
  simp
  refine DAny_one (i := 10) (by kernel_rfl) rfl rfl ?_
  simp [h2g, Ne.symm h2g]
  refine ⟨by (try simp only [Str.c]); intro z b hz; simp only [upd_apply, rem_apply] at hz ⊢; grind, DAny_done (by kernel_rfl) ?_⟩
  simp
  exact retRO [.agg [.int .i64 (eqRows s).length, .int .i64 s.ms.length, .sl (rv (roInts (rowsF s)))]] 1 (by simp) (by simp [frz, MX.c3, V.cl]) (by simp [hg, hb2])

/-! ### Matrices in the laws -/
def MX.fit (m : MX) : Prop := fitQ m.cells 1048576 ∧ sumQ m.cells ≤ 100000000
theorem eqMx_fit (s : Str) (hm : s.ms.length ≤ 1048576) : (eqMx s).fit := by
  unfold eqMx
  split
  · rename_i hk
    have hs := sOk_of hk
    obtain ⟨hsm, hlen⟩ := eqRows_small hs
    have hnj := hs.nj
    have hnm := hs.nm
    have hfl := freesTo_le s.js s.js.length
    change (frees s.js).length ≤ s.js.length at hfl
    have hrf := rowsF_len s
    have hmul : 2 * (frees s.js).length * s.ms.length ≤ 12 * 8 := Nat.mul_le_mul (by omega) hnm
    have h1 : okL ((rowsF s).map fun (n : Int) => some (n : Rat)) := by
      intro x hx
      obtain ⟨n, hn, rfl⟩ := List.mem_map.1 hx
      rw [← eqRows_flat] at hn
      obtain ⟨w, hw, hn⟩ := List.mem_flatten.1 hn
      have := hsm w hw n hn
      exact okQ_int (by omega)
    have h2 := stQ_fit h1 (by rw [List.length_map]; omega)
    have h3 : stQ ((rowsF s).map fun (n : Int) => some (n : Rat)) = roInts (rowsF s) := by
      unfold stQ
      rw [if_pos (by simp [allSome])]
      simp [roAll, roInts]
    rw [h3] at h2
    exact h2
  · exact ⟨⟨by simp, fun r hr => by cases hr⟩, by simp [sumQ]⟩
theorem eqMatrix_ro (m : MX) (h : m.fit) : RO Try.prog 53 [.agg m.c3, .agg m.c3] (.bool true) := by
  refine ro_of2 Try.func53 rfl rfl (by rw [Try.ntmps53]; simp) fun bl => ?_
  rw [Try.ntmps53, Try.results53]
  refine AW_run ?_
  simp [MX.c3]
  intro g1 hg1 hb1 g2 hg2 h21 hb2
  try simp [h21, Ne.symm h21]
  refine callP_ro (eqRatS_ro m.cells h.1) ?_
  simp
  exact retRO [.bool true] 0 (by simp) rfl (by simp [hb1, hb2])
def mkMx (k : Nat) (m : MX) : MX := ⟨m.r, m.c, mkQs k m.cells⟩
theorem markMatrix_cp {bl : Int → Option Blk} {K : V → (Int → Option Blk) → Prop} (m : MX) (k : Nat) (vs : List V) (gs : List Int) (h : OwnL bl (dMx m) vs gs) (hk : mkQsN k m.cells ≤ 4611686018427387000)
    (hK : ∀ bl', OwnL bl' (dMx (mkMx k m)) vs gs → (∀ g, g ∉ gs → ∀ b, bl g = some b → bl' g = some b) → K (.int .i64 (mkQsN k m.cells : Nat)) bl') : CallP Try.prog 55 [.agg vs, .int .i64 k] bl K := by
  obtain ⟨w, rfl, ow⟩ := own_mx.1 h
  obtain ⟨w1, w2⟩ := own_rs1 ow
  refine callP_of Try.func55 rfl rfl (by rw [Try.ntmps55]; simp) ?_
  rw [Try.ntmps55, Try.results55]
  refine AW_run ?_
  simp [w1]
  intro g hg0 hg
  refine markRatS_cp m.cells k w gs (ow.keep fun x _ y hy => kp_of hg _ x y hy) hk fun B1 o1 q1 => ?_
  simp
  rw [retK_ret]
  refine ⟨[_], by simp; rfl, ?_⟩
  exact hK B1 (own_mx.2 ⟨w, rfl, o1⟩) (fun x hx y hy => q1 x hx y (kp_of hg _ x y hy))
theorem heldMatrix_ro (m : MX) (k : Nat) (hk : mkQsN k m.cells ≤ 4611686018427387000) : RO Try.prog 56 [.agg (mkMx k m).c3, .int .i64 k] (.int .i64 (mkQsN k m.cells : Nat)) := by
  refine ro_of2 Try.func56 rfl rfl (by rw [Try.ntmps56]; simp) fun bl => ?_
  rw [Try.ntmps56, Try.results56]
  refine AW_run ?_
  simp [MX.c3, mkMx]
  intro g hg0 hg
  refine callP_ro (heldRatS_ro m.cells k hk) ?_
  simp
  refine ⟨fun h => by omega, ?_⟩
  exact retRO [_] 0 (by simp; rfl) (by simp [frz, V.cl]) (by simp [hg])
theorem frz_mx {bl : Int → Option Blk} {m : MX} {vs : List V} {gs : List Int} (h : OwnL bl (dMx m) vs gs) (n : Nat) : frz bl (n + 3) (.agg vs) = some (.agg m.c3) := by
  obtain ⟨w, rfl, ow⟩ := own_mx.1 h
  have hz := frz_rs ow n
  rw [frz_agg]
  simp only [List.mapM_cons, List.mapM_nil, hz, show ∀ (B : Int → Option Blk) (k : Nat) (n : Int), frz B k (.int .i64 n) = some (.int .i64 n) from fun B k n => by cases k <;> simp [frz]]
  rfl
theorem dMx_sc (m : MX) : (D.a (dMx m)).sc = true := by simp [D.sc, dMx, D.scL, dRs_sc, V.ow]
theorem impl_EquilibriumMatrix_ro (s : Str) (hj : s.js.length ≤ 140737488351232) (hm : s.ms.length ≤ 140737488351232) (hn : ∀ j, j ∈ s.js → j.name.size ≤ 140737488351232) : RO Try.prog 52 [.agg s.c] (.agg (eqMx s).c3) := by
  have := ro_of_nw 3 (impl_EquilibriumMatrix_nw s hj hm hn) (by rw [D.dep]; exact ⟨by omega, by simp [dMx, D.depL, D.dep, dRs_dep]⟩)
  rwa [D.fz, show D.fzL (dMx (eqMx s)) = (eqMx s).c3 by simp [dMx, D.fzL, D.fz, dRs_fz, MX.c3]] at this

end Go.Proofs.Ythhjmaianlmfpaa.Vm

namespace Go.Proofs.Ythhjmaianlmfpaa.Vm
open Go Go.Proofs
set_option linter.unusedSimpArgs false
set_option linter.unusedVariables false

theorem law_EquilibriumMatrix_ro (s : Str) (hs : s.sz) : RO Try.prog 11 [.agg s.c] (.bool true) := by
  refine ro_of2 Try.func11 rfl rfl (by rw [Try.ntmps11]; simp) fun bl => ?_
  rw [Try.ntmps11, Try.results11]
  refine AW_run ?_
  simp [Str.c]
  intro gx0 hgx0 hbgx0
  have kp := kp_of (bl := bl) hbgx0 (some ⟨2, [[.sl (jv s.js), .sl (mv s.ms)]]⟩)
  have egx0 : upd bl gx0 (some ⟨2, [[.sl (jv s.js), .sl (mv s.ms)]]⟩) gx0 = some ⟨2, [[.sl (jv s.js), .sl (mv s.ms)]]⟩ := by simp
  have sb1 : Sub bl (upd bl gx0 (some ⟨2, [[.sl (jv s.js), .sl (mv s.ms)]]⟩)) := fun x y hx => kp x y ((Sub.refl _) x y hx)
  generalize upd bl gx0 (some ⟨2, [[.sl (jv s.js), .sl (mv s.ms)]]⟩) = b1 at *
  clear kp
  refine callP_ro (szStructure_ro s _ (by omega) hs.js hs.ms hs.nm) ?_
  try simp [egx0]
  refine ⟨fun h => ?_, fun hzs => ?_⟩
  · exact retRO [_] 0 rfl rfl sb1
  obtain ⟨l1s, l2s, l3s⟩ := szStr_le (s := s) (left := 1048576) (by omega) (by omega)
  have hles : -1 ≤ (szStr s 1048576) ∧ (szStr s 1048576) ≤ 1048576 := by omega
  have jss : s.js.length ≤ 1048576 := by omega
  have mss : s.ms.length ≤ 1048576 := by omega
  have ts := toStructure_ro s jss mss
  have hS := spec_EquilibriumMatrix_ro s hs.js hs.ms hs.nm
  have hI := impl_EquilibriumMatrix_nw s hs.js hs.ms hs.nm
  have hJ := impl_EquilibriumMatrix_ro s hs.js hs.ms hs.nm
  have wl := eqMx_fit s mss
  generalize eqMx s = w at hS hI hJ wl
  have we := eqMatrix_ro w wl
  obtain ⟨wq, ws⟩ := wl
  refine callP_ro ts ?_
  try simp [egx0]
  refine callP_ro hS ?_
  try simp [egx0, MX.c3]
  intro gx1 hgx1 hbgx1
  have z_gx1_gx0 : gx0 ≠ gx1 := fun e => by rw [← e, egx0] at hbgx1; cases hbgx1
  try simp [z_gx1_gx0, Ne.symm z_gx1_gx0, egx0]
  have kp := kp_of (bl := b1) hbgx1 (some ⟨3, [[.int .i64 w.r, .int .i64 w.c, .sl (rv w.cells)]]⟩)
  have egx1 : upd b1 gx1 (some ⟨3, [[.int .i64 w.r, .int .i64 w.c, .sl (rv w.cells)]]⟩) gx1 = some ⟨3, [[.int .i64 w.r, .int .i64 w.c, .sl (rv w.cells)]]⟩ := by simp
  have sb2 : Sub bl (upd b1 gx1 (some ⟨3, [[.int .i64 w.r, .int .i64 w.c, .sl (rv w.cells)]]⟩)) := fun x y hx => kp x y (sb1 x y hx)
  generalize upd b1 gx1 (some ⟨3, [[.int .i64 w.r, .int .i64 w.c, .sl (rv w.cells)]]⟩) = b2 at *
  have egx0 := kp _ _ egx0
  clear kp
  try simp [egx0, egx1]
  refine callP_new (toStructure_nw s jss mss) fun va0 ga0 cb0 ot fa0 fra0 => ?_
  obtain ⟨va0a, va0b, rfl, oa0, c1, c2, c3, c4⟩ := own_agg ot
  clear ot
  have m_gx0_ga0 : gx0 ∉ ga0 := fun hh => by have hz := fa0 _ hh; rw [egx0] at hz; cases hz
  have m_gx1_ga0 : gx1 ∉ ga0 := fun hh => by have hz := fa0 _ hh; rw [egx1] at hz; cases hz
  have fr_ga0 : ∀ x, x ∈ ga0 → bl x = none := fun x hx => fresh_of sb2 (fa0 x hx)
  have egx0 := new_keep fa0 fra0 egx0
  have egx1 := new_keep fa0 fra0 egx1
  have scb0 : Sub bl cb0 := fun x y hx => new_keep fa0 fra0 (sb2 x y hx)
  try simp [egx0, egx1, c1, c2, c3, c4]
  intro gx2 hgx2 hbgx2
  have z_gx2_gx0 : gx0 ≠ gx2 := fun e => by rw [← e, egx0] at hbgx2; cases hbgx2
  have z_gx2_gx1 : gx1 ≠ gx2 := fun e => by rw [← e, egx1] at hbgx2; cases hbgx2
  try simp [z_gx2_gx0, Ne.symm z_gx2_gx0, z_gx2_gx1, Ne.symm z_gx2_gx1, egx0, egx1]
  have kp := kp_of (bl := cb0) hbgx2 (some ⟨2, [[va0a, va0b]]⟩)
  have egx2 : upd cb0 gx2 (some ⟨2, [[va0a, va0b]]⟩) gx2 = some ⟨2, [[va0a, va0b]]⟩ := by simp
  have sb3 : Sub bl (upd cb0 gx2 (some ⟨2, [[va0a, va0b]]⟩)) := fun x y hx => kp x y (scb0 x y hx)
  generalize upd cb0 gx2 (some ⟨2, [[va0a, va0b]]⟩) = b3 at *
  have egx0 := kp _ _ egx0
  have egx1 := kp _ _ egx1
  have m_gx2_ga0 : gx2 ∉ ga0 := oa0.not hbgx2
  have oa0 := oa0.keep (bl' := b3) fun x _ y hy => kp x y hy
  clear kp
  try simp [egx0, egx1, egx2, c1, c2, c3, c4]
  refine callP_lend 3 (ys := [.agg s.c]) (by simp [frz_str oa0 1]; try simp [frz]) hI (dMx_sc _) fun vr gr d0 oT fr0 frr0 => ?_
  rw [OwnD] at oT
  obtain ⟨vs, rfl, oR⟩ := oT
  obtain ⟨w0, rfl, ow0⟩ := own_mx.1 oR
  obtain ⟨p1, p2⟩ := own_rs1 ow0
  clear ow0
  have m_gx0_gr : gx0 ∉ gr := fun hh => by have hz := fr0 _ hh; rw [egx0] at hz; cases hz
  have m_gx1_gr : gx1 ∉ gr := fun hh => by have hz := fr0 _ hh; rw [egx1] at hz; cases hz
  have m_gx2_gr : gx2 ∉ gr := fun hh => by have hz := fr0 _ hh; rw [egx2] at hz; cases hz
  have n_gr_ga0 : ∀ x, x ∈ gr → x ∉ ga0 := fun x hx => oa0.not (fr0 x hx)
  have fr_gr : ∀ x, x ∈ gr → bl x = none := fun x hx => fresh_of sb3 (fr0 x hx)
  have egx0 := new_keep fr0 frr0 egx0
  have egx1 := new_keep fr0 frr0 egx1
  have egx2 := new_keep fr0 frr0 egx2
  have oa0 := oa0.keep (bl' := d0) fun x _ y hy => new_keep fr0 frr0 hy
  have sd0 : Sub bl d0 := fun x y hx => new_keep fr0 frr0 (sb3 x y hx)
  try simp [egx0, egx1, egx2, p1, p2]
  intro gx3 hgx3 hbgx3
  have z_gx3_gx0 : gx0 ≠ gx3 := fun e => by rw [← e, egx0] at hbgx3; cases hbgx3
  have z_gx3_gx1 : gx1 ≠ gx3 := fun e => by rw [← e, egx1] at hbgx3; cases hbgx3
  have z_gx3_gx2 : gx2 ≠ gx3 := fun e => by rw [← e, egx2] at hbgx3; cases hbgx3
  try simp [z_gx3_gx0, Ne.symm z_gx3_gx0, z_gx3_gx1, Ne.symm z_gx3_gx1, z_gx3_gx2, Ne.symm z_gx3_gx2, egx0, egx1, egx2]
  have kp := kp_of (bl := d0) hbgx3 (some ⟨3, [[.int .i64 w.r, .int .i64 w.c, w0]]⟩)
  have egx3 : upd d0 gx3 (some ⟨3, [[.int .i64 w.r, .int .i64 w.c, w0]]⟩) gx3 = some ⟨3, [[.int .i64 w.r, .int .i64 w.c, w0]]⟩ := by simp
  have sb4 : Sub bl (upd d0 gx3 (some ⟨3, [[.int .i64 w.r, .int .i64 w.c, w0]]⟩)) := fun x y hx => kp x y (sd0 x y hx)
  generalize upd d0 gx3 (some ⟨3, [[.int .i64 w.r, .int .i64 w.c, w0]]⟩) = b4 at *
  have egx0 := kp _ _ egx0
  have egx1 := kp _ _ egx1
  have egx2 := kp _ _ egx2
  have m_gx3_ga0 : gx3 ∉ ga0 := oa0.not hbgx3
  have oa0 := oa0.keep (bl' := b4) fun x _ y hy => kp x y hy
  have m_gx3_gr : gx3 ∉ gr := oR.not hbgx3
  have oR := oR.keep (bl' := b4) fun x _ y hy => kp x y hy
  clear kp
  try simp [egx0, egx1, egx2, egx3, p1, p2]
  refine callP_borrow 3 (ys := [.agg w.c3, .agg w.c3]) (by simp [frz_mx oR 0]; simp [frz, MX.c3, V.cl]) we rfl ?_
  try simp [egx0, egx1, egx2, egx3]
  refine AW_quiet mixedO (by kernel_rfl) ?_
  simp [egx0, egx1, egx2, egx3]
  refine hcQ_ro ts ?_
  try simp
  refine hcQ_of 3 (eqStructure_ro s s hs.js hs.ms) (by simp [frz_str oa0 1]; simp [frz, Str.c, V.cl]) rfl ?_
  try simp [egx0, egx1, egx2, egx3]
  have bd0 : (mkN 1 s) ≤ 4611686018427387000 := by simp only [mkN]; omega
  refine markStructure_cp s 1 _ ga0 oa0 bd0 fun mb0 oa0 k0 => ?_
  have egx0 := k0 gx0 m_gx0_ga0 _ egx0
  have egx1 := k0 gx1 m_gx1_ga0 _ egx1
  have egx2 := k0 gx2 m_gx2_ga0 _ egx2
  have egx3 := k0 gx3 m_gx3_ga0 _ egx3
  have oR := oR.keep (bl' := mb0) fun x hx y hy => k0 x (n_gr_ga0 x hx) y hy
  have smb0 : Sub bl mb0 := fun x y hx => k0 x (fun h => by rw [fr_ga0 x h] at hx; cases hx) y (sb4 x y hx)
  try simp [egx0, egx1, egx2, egx3]
  refine AW_way0 [(1, .loc gx0 2 0 0), (5, .loc gx2 2 0 0), (4, .loc gx1 3 0 0), (6, .loc gx3 3 0 0), (7, .int .i64 ((mkN 1 s) : Nat))] _ mb0 42 (.bool false) ⟨rfl, by simp, Sub.refl _⟩ rfl ?_ ?_
  · simp [egx0, egx1, egx2, egx3]
    refine callP_borrow 3 (ys := [.agg w.c3, .agg w.c3]) (by simp [frz_mx oR 0]; simp [frz, MX.c3, V.cl]) we rfl ?_
    simp
  try simp [egx0, egx1, egx2, egx3]
  have bw : mkQsN 1 w.cells ≤ 4611686018427387000 := by have := wq.1; rw [mkQsN_sum]; omega
  refine markMatrix_cp w 1 _ gr oR bw fun f0 oR kr => ?_
  have egx0 := kr gx0 m_gx0_gr _ egx0
  have egx1 := kr gx1 m_gx1_gr _ egx1
  have egx2 := kr gx2 m_gx2_gr _ egx2
  have egx3 := kr gx3 m_gx3_gr _ egx3
  have oa0 := oa0.keep (bl' := f0) fun x hx y hy => kr x (fun hh => n_gr_ga0 x hh hx) y hy
  have sf0 : Sub bl f0 := fun x y hx => kr x (fun h => by rw [fr_gr x h] at hx; cases hx) y (smb0 x y hx)
  have hh := heldMatrix_ro w 1 bw
  have hneg : ¬ (mkQsN 1 w.cells : Int) < 0 := by omega
  try simp [egx0, egx1, egx2, egx3]
  refine callP_borrow 3 (ys := [.agg (mkMx 1 w).c3, .int .i64 1]) (by simp [frz_mx oR 0, show (mkMx 1 w).r = w.r from rfl, show (mkMx 1 w).c = w.c from rfl]; simp [frz]) hh rfl ?_
  try simp [egx0, egx1, egx2, egx3, hneg]
  refine callP_ro ts ?_
  try simp [egx0, egx1, egx2, egx3]
  refine callP_ro hJ ?_
  try simp [egx0, egx1, egx2, egx3, MX.c3]
  intro gx4 hgx4 hbgx4
  have z_gx4_gx0 : gx0 ≠ gx4 := fun e => by rw [← e, egx0] at hbgx4; cases hbgx4
  have z_gx4_gx1 : gx1 ≠ gx4 := fun e => by rw [← e, egx1] at hbgx4; cases hbgx4
  have z_gx4_gx2 : gx2 ≠ gx4 := fun e => by rw [← e, egx2] at hbgx4; cases hbgx4
  have z_gx4_gx3 : gx3 ≠ gx4 := fun e => by rw [← e, egx3] at hbgx4; cases hbgx4
  try simp [z_gx4_gx0, Ne.symm z_gx4_gx0, z_gx4_gx1, Ne.symm z_gx4_gx1, z_gx4_gx2, Ne.symm z_gx4_gx2, z_gx4_gx3, Ne.symm z_gx4_gx3, egx0, egx1, egx2, egx3]
  have kp := kp_of (bl := f0) hbgx4 (some ⟨3, [[.int .i64 w.r, .int .i64 w.c, .sl (rv w.cells)]]⟩)
  have egx4 : upd f0 gx4 (some ⟨3, [[.int .i64 w.r, .int .i64 w.c, .sl (rv w.cells)]]⟩) gx4 = some ⟨3, [[.int .i64 w.r, .int .i64 w.c, .sl (rv w.cells)]]⟩ := by simp
  have sb5 : Sub bl (upd f0 gx4 (some ⟨3, [[.int .i64 w.r, .int .i64 w.c, .sl (rv w.cells)]]⟩)) := fun x y hx => kp x y (sf0 x y hx)
  generalize upd f0 gx4 (some ⟨3, [[.int .i64 w.r, .int .i64 w.c, .sl (rv w.cells)]]⟩) = b5 at *
  have egx0 := kp _ _ egx0
  have egx1 := kp _ _ egx1
  have egx2 := kp _ _ egx2
  have egx3 := kp _ _ egx3
  have m_gx4_ga0 : gx4 ∉ ga0 := oa0.not hbgx4
  have oa0 := oa0.keep (bl' := b5) fun x _ y hy => kp x y hy
  have m_gx4_gr : gx4 ∉ gr := oR.not hbgx4
  have oR := oR.keep (bl' := b5) fun x _ y hy => kp x y hy
  clear kp
  try simp [egx0, egx1, egx2, egx3, egx4]
  refine callP_ro we ?_
  try simp [egx0, egx1, egx2, egx3, egx4]
  refine callP_borrow 3 (ys := [.agg (mkMx 1 w).c3, .int .i64 1]) (by simp [frz_mx oR 0, show (mkMx 1 w).r = w.r from rfl, show (mkMx 1 w).c = w.c from rfl]; simp [frz]) hh rfl ?_
  try simp [egx0, egx1, egx2, egx3, egx4, hneg]
  exact retRO [_] 0 rfl rfl sb5

end Go.Proofs.Ythhjmaianlmfpaa.Vm

namespace Go.Proofs.Ythhjmaianlmfpaa.lawEquilibriumMatrix
open Go Go.RowKit Go.ChangeShapes Go.WideShapes Vm
theorem body (xs : List V) (h : ArgsOk Try.prog Try.f11.params.toList xs) : RO Try.prog 11 xs (.bool true) := by
  rw [Try.params11] at h
  obtain ⟨c0, ys, rfl, h0, h⟩ := args_cons h
  obtain rfl := args_nil h
  obtain ⟨x0, rfl, y0⟩ := str_of_co h0
  rw [toV_struct Try.underlying69]
  exact law_EquilibriumMatrix_ro x0 ⟨y0.js, y0.ms, y0.names⟩
set_option maxRecDepth 100000 in
theorem lifted (os : Os) (started : os.Started) (H : Type) (enc : TypeId × Value → H) :
    ReturnsInHanded {} Try.checked os 11 .any (Rows.fnExactEquilibriumMatrixSpec.pre6 enc Try.prog Try.f11 Rows.fnExactEquilibriumMatrixRow.domain false) (Rows.fnExactEquilibriumMatrixSpec.post enc Try.prog Try.f11 false true false false) := by
  refine returnsInHanded_of_change_sized (C := Try.checked) own started (by kernel_rfl) Try.func11
    (ChangeSpec.witness6 (enc := enc) (C := Try.checked) false ⟨#[], #[.agg #[.slice none 0 0, .slice none 0 0]], []⟩ 8 (by kernel_rfl) (by kernel_rfl) (by kernel_rfl) (by kernel_rfl)) ?_
  intro W base args ds gs before hval hW hcnd hsz _
  refine law_calls (tb := 4) rfl rfl Try.underlying4 laidOut (by kernel_rfl) (fun ds hds => ?_) body W base args ds gs before hval hW hsz
  rw [Try.params11] at hds
  first
    | (match ds, hds with | [a], _ => rfl)
    | (match ds, hds with | [a, b], _ => rfl)
    | (match ds, hds with | [a, b, c], _ => rfl)
    | (match ds, hds with | [a, b, c, d], _ => rfl)
    | (match ds, hds with | [a, b, c, d, e], _ => rfl)
    | (match ds, hds with | [a, b, c, d, e, f], _ => rfl)
theorem over : Rows.fnExactEquilibriumMatrixRow.holds Try.pinned (OpenSpec.ofChange Rows.fnExactEquilibriumMatrixSpec) :=
  OpenClaim.holds_of_wide 11 Try.f11 rfl rfl rfl rfl rfl rfl rfl ⟨rfl, rfl, rfl, rfl, rfl⟩ rfl rfl rfl rfl rfl (by kernel_rfl) Try.func11 (facts (by kernel_rfl))
    (of_decide_eq_true (by kernel_rfl)) (by unfold Func.isWrapper; first | (rw [if_pos (by decide +kernel)]; kernel_rfl) | (rw [if_neg (by decide +kernel)]; exact ⟨rfl, rfl⟩))
    (fun os started H enc _ => lifted os started H enc)
theorem proved : Rows.FnExactEquilibriumMatrixSaid := over
#print axioms proved
end Go.Proofs.Ythhjmaianlmfpaa.lawEquilibriumMatrix
