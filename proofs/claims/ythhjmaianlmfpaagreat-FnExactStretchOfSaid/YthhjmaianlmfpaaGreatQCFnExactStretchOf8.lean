/- FnExactStretchOf: for every structure and number and list of fractions the program's StretchOf returns what the reference's returns; no condition. -/



import Derived.Test.YthhjmaianlmfpaaGreatQCFnExactStretchOf7

namespace Go.Proofs.YthhjmaianlmfpaaGreat.Vm
open Go Go.Proofs
set_option linter.unusedSimpArgs false
set_option linter.unusedVariables false

/-- The number of free joints before joint i. -/
def idx (js : List J) (i : Nat) : Nat := (freesTo js i).length
def fxd (js : List J) (i : Nat) : Bool := (js.getD i default).fixed
theorem idx_get (js : List J) : ∀ n i, i < n → fxd js i = false → (freesTo js n)[idx js i]? = some (i : Int) := by
  intro n
  induction n with
  | zero => intro i h; omega
  | succ n ih =>
    intro i hi hf
    rw [freesTo_succ]
    by_cases h : i < n
    · have h1 := ih i h hf
      have hl : idx js i < (freesTo js n).length := by
        rcases Nat.lt_or_ge (idx js i) (freesTo js n).length with h2 | h2
        · exact h2
        · rw [List.getElem?_eq_none h2] at h1; cases h1
      rw [List.getElem?_append_left hl]; exact h1
    · obtain rfl : i = n := by omega
      unfold fxd at hf
      rw [hf, show idx js i = (freesTo js i).length from rfl, List.getElem?_append_right (Nat.le_refl _)]
      simp
theorem idx_of (js : List J) : ∀ n t, t < (freesTo js n).length → ∃ i, i < n ∧ fxd js i = false ∧ idx js i = t ∧ (freesTo js n)[t]? = some (i : Int) := by
  intro n
  induction n with
  | zero => intro t h; simp [freesTo] at h
  | succ n ih =>
    intro t ht
    by_cases h : t < (freesTo js n).length
    · obtain ⟨i, h1, h2, h3, h4⟩ := ih t h
      exact ⟨i, by omega, h2, h3, by rw [freesTo_succ, List.getElem?_append_left h]; exact h4⟩
    · rw [freesTo_succ] at ht ⊢
      cases hf : (js.getD n default).fixed
      · rw [hf] at ht
        rw [List.length_append] at ht
        simp at ht
        obtain rfl : t = (freesTo js n).length := by omega
        exact ⟨n, by omega, hf, rfl, by rw [List.getElem?_append_right (Nat.le_refl _)]; simp⟩
      · rw [hf] at ht
        simp at ht; omega
theorem idx_inj {js : List J} {i k : Nat} (hi : i < js.length) (hk : k < js.length) (fi : fxd js i = false) (fk : fxd js k = false) (h : idx js i = idx js k) : i = k := by
  have h1 := idx_get js js.length i hi fi
  have h2 := idx_get js js.length k hk fk
  rw [h] at h1
  rw [h1] at h2
  have := Option.some.inj h2
  omega
theorem idx_ltf {js : List J} {i : Nat} (hi : i < js.length) (fi : fxd js i = false) : idx js i < (frees js).length := by
  have h1 := idx_get js js.length i hi fi
  rcases Nat.lt_or_ge (idx js i) (frees js).length with h2 | h2
  · exact h2
  · rw [List.getElem?_eq_none (show (freesTo js js.length).length ≤ _ from h2)] at h1; cases h1
theorem frees_at (js : List J) (t : Nat) (h : t < (frees js).length) : ∃ i : Nat, (frees js)[t] = i ∧ i < js.length ∧ fxd js i = false ∧ idx js i = t := by
  obtain ⟨i, h1, h2, h3, h4⟩ := idx_of js js.length t h
  refine ⟨i, ?_, h1, h2, h3⟩
  have : (frees js)[t]? = some (i : Int) := h4
  rw [List.getElem?_eq_getElem h] at this
  exact Option.some.inj this

/-- The list of displacements after t free joints. -/
def dAt (js : List J) (d : List (Option Rat)) (t p : Nat) : Option Rat := if fxd js (p / 2) = true then some 0 else if idx js (p / 2) < t then d.getD (2 * idx js (p / 2) + p % 2) none else some 0
def dsp (js : List J) (d : List (Option Rat)) (t : Nat) : List (Option Rat) := (List.range (2 * js.length)).map (dAt js d t)
@[simp] theorem dsp_length (js : List J) (d : List (Option Rat)) (t : Nat) : (dsp js d t).length = 2 * js.length := by simp [dsp]
theorem dsp_get (js : List J) (d : List (Option Rat)) (t p : Nat) (h : p < (dsp js d t).length) : (dsp js d t)[p] = dAt js d t p := by simp [dsp]
theorem dAt_zero (js : List J) (d : List (Option Rat)) (p : Nat) : dAt js d 0 p = some 0 := by unfold dAt; split <;> simp
theorem dsp_step (js : List J) (d : List (Option Rat)) (t i : Nat) (hi : i < js.length) (hf : fxd js i = false) (ht : idx js i = t) : ((dsp js d t).set (2 * i) (d.getD (2 * t) none)).set (2 * i + 1) (d.getD (2 * t + 1) none) = dsp js d (t + 1) := by
  apply List.ext_getElem (by simp)
  intro p h1 h2
  have hp : p < 2 * js.length := by simpa using h2
  rw [List.getElem_set, List.getElem_set, dsp_get, dsp_get]
  by_cases e1 : 2 * i + 1 = p
  · subst e1
    rw [if_pos rfl]
    unfold dAt
    rw [show (2 * i + 1) / 2 = i by omega, show (2 * i + 1) % 2 = 1 by omega, hf, ht]
    simp
  rw [if_neg e1]
  by_cases e2 : 2 * i = p
  · subst e2
    rw [if_pos rfl]
    unfold dAt
    rw [show (2 * i) / 2 = i by omega, show (2 * i) % 2 = 0 by omega, hf, ht]
    simp
  rw [if_neg e2]
  unfold dAt
  cases hq : fxd js (p / 2)
  · have hne : idx js (p / 2) ≠ t := fun h => by
      have := idx_inj (i := p / 2) (k := i) (by omega) hi hq hf (by rw [h, ht])
      omega
    by_cases h3 : idx js (p / 2) < t
    · rw [if_pos h3, if_pos (show idx js (p / 2) < t + 1 by omega)]
    · rw [if_neg h3, if_neg (show ¬ idx js (p / 2) < t + 1 by omega)]
  · rfl
def dspF (js : List J) (d : List (Option Rat)) : List (Option Rat) := dsp js d (frees js).length
@[simp] theorem dspF_length (js : List J) (d : List (Option Rat)) : (dspF js d).length = 2 * js.length := dsp_length _ _ _
def dX (js : List J) (d : List (Option Rat)) (i : Nat) : Option Rat := if fxd js i = true then some 0 else d.getD (2 * idx js i) none
def dY (js : List J) (d : List (Option Rat)) (i : Nat) : Option Rat := if fxd js i = true then some 0 else d.getD (2 * idx js i + 1) none
theorem dspF_X (js : List J) (d : List (Option Rat)) (i : Nat) (hi : i < js.length) (h : 2 * i < (dspF js d).length) : (dspF js d)[2 * i] = dX js d i := by
  unfold dspF at h ⊢
  rw [dsp_get]
  unfold dAt dX
  rw [show (2 * i) / 2 = i by omega, show (2 * i) % 2 = 0 by omega]
  cases hf : fxd js i
  · have := idx_ltf hi hf
    simp [this]
  · rfl
theorem dspF_Y (js : List J) (d : List (Option Rat)) (i : Nat) (hi : i < js.length) (h : 2 * i + 1 < (dspF js d).length) : (dspF js d)[2 * i + 1] = dY js d i := by
  unfold dspF at h ⊢
  rw [dsp_get]
  unfold dAt dY
  rw [show (2 * i + 1) / 2 = i by omega, show (2 * i + 1) % 2 = 1 by omega]
  cases hf : fxd js i
  · have := idx_ltf hi hf
    simp [this]
  · rfl
theorem getD_ok {d : List (Option Rat)} (hd : okL d) (i : Nat) : okQ (d.getD i none) := by
  rcases Nat.lt_or_ge i d.length with h | h
  · rw [getD_at _ _ _ h]; exact hd _ (List.getElem_mem h)
  · rw [List.getD_eq_getElem?_getD, List.getElem?_eq_none h]; exact fun _ e => by cases e
theorem okQ_zero : okQ (some 0) := fun x h => by cases h; exact fits_zero
theorem dX_ok (js : List J) {d : List (Option Rat)} (hd : okL d) (i : Nat) : okQ (dX js d i) := by
  unfold dX; split
  · exact okQ_zero
  · exact getD_ok hd _
theorem dY_ok (js : List J) {d : List (Option Rat)} (hd : okL d) (i : Nat) : okQ (dY js d i) := by
  unfold dY; split
  · exact okQ_zero
  · exact getD_ok hd _

theorem two0 (k : Nat) : 0 ≤ 2 * (k : Int) := by omega
theorem two1 (k : Nat) : 0 ≤ 2 * (k : Int) + 1 := by omega
theorem twoN0 (k : Nat) : (2 * (k : Int)).toNat = 2 * k := by omega
theorem twoN1 (k : Nat) : (2 * (k : Int) + 1).toNat = 2 * k + 1 := by omega

/-! ### The program -/
theorem loadsOf_ro (d : List RT) (n : Nat) (hd : fitQ d 1048576) : RO Tryz.prog 96 [.sl (rv d), .int .i64 n] (.tup [.sl (fvs (if (decide (d.length = n) && allOk d) = true then rdAll d else [])), .bool (decide (d.length = n) && allOk d)]) := by
  generalize hz : (decide (d.length = n) && allOk d) = z
  refine ro_of2 Tryz.func96 rfl rfl (by rw [Tryz.ntmps96]; simp) fun bl => ?_
  rw [Tryz.ntmps96, Tryz.results96]
  refine AW_run ?_
  simp
  refine ⟨fun h => ?_, fun h => ?_⟩
  · have e : decide (d.length = n) = false := by simp; omega
    rw [e] at hz
    obtain rfl : z = false := by rw [← hz]; rfl
    exact retRO [.nils, .bool false] 1 (by simp) (by simp [frz, fvs, V.cl]) (Sub.refl _)
  · have e : decide (d.length = n) = true := by simp; omega
    rw [e, Bool.true_and] at hz
    subst hz
    refine callP_ro (loads_ro d hd) ?_
    simp
    exact retRO [.sl (fvs (if allOk d = true then rdAll d else [])), .bool (allOk d)] 1 (by simp) (by simp [frz]) (Sub.refl _)

def movOk (s : Str) (d : List RT) : Bool := (sOk s && decide (d.length = 2 * (frees s.js).length)) && allOk d
theorem displacements_ro (s : Str) (d : List RT) (hj : s.js.length ≤ 140737488351232) (hm : s.ms.length ≤ 140737488351232) (hn : ∀ j, j ∈ s.js → j.name.size ≤ 140737488351232) (hd : fitQ d 1048576) : RO Tryz.prog 83 [.ptr s.c, .sl (rv d)] (.tup [.sl (fvs (if movOk s d = true then dspF s.js (rdAll d) else [])), .bool (movOk s d)]) := by
  have w0 := whole_ro 0 (by omega)
  rw [zero_cast] at w0
  refine ro_of2 Tryz.func83 rfl rfl (by rw [Tryz.ntmps83]; simp) fun bl => ?_
  rw [Tryz.ntmps83, Tryz.results83]
  refine AW_run ?_
  simp [Str.c]
  refine callP_ro (impl_StructureOk_ro s hj hm hn) ?_
  cases hk : sOk s
  · have hz : movOk s d = false := by unfold movOk; rw [hk]; rfl
    rw [hz]
    simp
    exact retRO [.nils, .bool false] 1 (by simp) (by simp [frz, fvs, V.cl]) (Sub.refl _)
  have hs := sOk_of hk
  have hnj := hs.nj
  have hfl := freesTo_le s.js s.js.length
  change (frees s.js).length ≤ s.js.length at hfl
  have hz : movOk s d = (decide (d.length = 2 * (frees s.js).length) && allOk d) := by unfold movOk; rw [hk]; rfl
  have hL := loadsOf_ro d (2 * (frees s.js).length) hd
  rw [← hz] at hL
  have e2 : ((2 * (frees s.js).length : Nat) : Int) = 2 * ((frees s.js).length : Int) := by omega
  rw [e2] at hL
  have w2 : IntKind.i64.wrap (2 * ((frees s.js).length : Int)) = 2 * ((frees s.js).length : Int) := i64_in (by omega) (by omega)
  obtain ⟨n, en⟩ : ∃ n : Nat, n = 2 * s.js.length := ⟨_, rfl⟩
  have wn : IntKind.i64.wrap (2 * (s.js.length : Int)) = (n : Int) := by rw [i64_in (by omega) (by omega)]; omega
  simp
  refine callP_ro (freeJoints_ro s (by omega)) ?_
  simp
  rw [w2]
  refine callP_ro hL ?_
  cases hp : movOk s d
  · simp
    exact retRO [.nils, .bool false] 1 (by simp) (by simp [frz, fvs, V.cl]) (Sub.refl _)
  rw [hp] at hz
  have hlen : d.length = 2 * (frees s.js).length := by have := hz.symm; simp at this; exact this.1
  simp
  rw [wn]
  simp
  refine ⟨by omega, by unfold maxLen; omega, fun g hg0 hg => ?_⟩
  have hdl : (rdAll d).length = 2 * (frees s.js).length := by simpa using hlen
  generalize hD : rdAll d = D at *
  refine AW_for (fun i : Nat => [(6, .sl (iv (frees s.js))), (7, .sl (fvs D)), (9, .lsl g 1 0 n), (38, .int .i64 n), (39, .int .i64 i)]) (fun i => upd bl g (some ⟨1, part (fvs (dsp s.js D 0)) [.nilp] i⟩)) (fun i => i ≤ n) (fun i => n - i) _ 0 (Nat.zero_le _) ⟨rfl, by simp, sub_eq (by simp [en])⟩ ?_
  intro i hi
  refine AW_run ?_
  simp
  refine ⟨fun h => ?_, fun h => ?_⟩
  · have hi' : i < (fvs (dsp s.js D 0)).length := by simp; omega
    have h9 : i < n := by omega
    have hpl : i < (part (fvs (dsp s.js D 0)) [.nilp] i).length := by simp [part]; omega
    have hpi : (part (fvs (dsp s.js D 0)) [.nilp] i)[i]? = some [.nilp] := part_get _ _ _ hi'
    have hpe : (part (fvs (dsp s.js D 0)) [.nilp] i)[i] = [.nilp] := by
      rw [List.getElem?_eq_getElem hpl] at hpi; exact Option.some.inj hpi
    have hset : (part (fvs (dsp s.js D 0)) [.nilp] i).set i [fv (some 0)] = part (fvs (dsp s.js D 0)) [.nilp] (i + 1) := by
      rw [part_set _ _ _ hi']
      simp [dsp_get, dAt_zero]
    simp [h]
    refine callP_ro w0 ?_
    simp [h, h9, hpl, hpe]
    simp (disch := omega) [i64_in, loopQ_normal]
    refine ⟨i + 1, by omega, by omega, rfl, by simp, ?_⟩
    intro z y hz
    simp only [upd_apply, hset] at hz ⊢
    grind
  · have hi2 : n = i := by omega
    subst hi2
    rw [part_all _ _ _ (by simp [en])]
    simp
    refine AW_for (fun t : Nat => [(7, .sl (fvs D)), (9, .lsl g 1 0 n), (47, .sl (iv (frees s.js))), (48, .int .i64 (frees s.js).length), (49, .int .i64 t)]) (fun t => upd bl g (some ⟨1, fvs (dsp s.js D t)⟩)) (fun t => t ≤ (frees s.js).length) (fun t => (frees s.js).length - t) _ 0 (Nat.zero_le _) ⟨rfl, by simp, sub_eq (by simp)⟩ ?_
    intro t ht
    refine AW_run ?_
    simp
    refine ⟨fun h => ?_, fun h => ?_⟩
    · obtain ⟨i, ei, hi, hf, hx⟩ := frees_at s.js t h
      have w1 : IntKind.i64.wrap (2 * (i : Int)) = 2 * i := i64_in (by omega) (by omega)
      have w2 : IntKind.i64.wrap (2 * (i : Int) + 1) = 2 * i + 1 := i64_in (by omega) (by omega)
      have w3 : IntKind.i64.wrap (2 * (t : Int)) = 2 * t := i64_in (by omega) (by omega)
      have w4 : IntKind.i64.wrap (2 * (t : Int) + 1) = 2 * t + 1 := i64_in (by omega) (by omega)
      have p1 : 2 * i < n := by omega
      have p2 : 2 * i + 1 < n := by omega
      have p3 : 2 * t < D.length := by omega
      have p4 : 2 * t + 1 < D.length := by omega
      have p5 : 2 * (i : Int) < n := by omega
      have p6 : 2 * (i : Int) + 1 < n := by omega
      have p7 : 2 * (t : Int) < D.length := by omega
      have p8 : 2 * (t : Int) + 1 < D.length := by omega
      have p9 : 2 * i < 2 * s.js.length := by omega
      have p10 : 2 * i + 1 < 2 * s.js.length := by omega
      have hst := dsp_step s.js D t i hi hf hx
      rw [getD_at _ _ _ p3, getD_at _ _ _ p4] at hst
      have hsv : ((fvs (dsp s.js D t)).set (2 * i) [fv D[2 * t]]).set (2 * i + 1) [fv D[2 * t + 1]] = fvs (dsp s.js D (t + 1)) := by
        rw [← hst]; simp [fvs, List.map_set]
      simp [h, ei]
      refine AW_mixedB mixedO bl (by simp [hg]) [0, 1, 2, 3, 4, 5, 6, 7, 8, 9, 10, 11, 12, 13, 14, 15, 16, 17, 18] 3 (by kernel_rfl) ?_
      simp [w1, w2, w3, w4, p1, p2, p3, p4, p5, p6, p7, p8, p9, p10, two0, two1, twoN0, twoN1]
      refine DAny_one (i := 19) (by kernel_rfl) rfl rfl ?_
      simp [w1, w2, w3, w4, p1, p2, p3, p4, p5, p6, p7, p8, p9, p10, two0, two1, twoN0, twoN1]
      refine ⟨by simp [hg], DAny_one (i := 20) (by kernel_rfl) rfl rfl ?_⟩
      simp [w1, w2, w3, w4, p1, p2, p3, p4, p5, p6, p7, p8, p9, p10, two0, two1, twoN0, twoN1]
      refine ⟨by simp [hg], DAny_one (i := 21) (by kernel_rfl) rfl rfl ?_⟩
      simp [w1, w2, w3, w4, p1, p2, p3, p4, p5, p6, p7, p8, p9, p10, two0, two1, twoN0, twoN1]
      refine ⟨by simp [hg], DAny_done (by kernel_rfl) ?_⟩
      simp (disch := omega) [i64_in, loopQ_normal]
      refine ⟨t + 1, by omega, by omega, rfl, by simp, ?_⟩
      intro z y hz
      simp only [upd_apply, hsv] at hz ⊢
      grind
    · have hi2 : t = (frees s.js).length := by omega
      subst hi2
      refine retRO [.lsl g 1 0 n, .bool true] 2 (by simp) (frz_tup2 (frz_slice (sz := 1) (n := n) hg0 hg (els := fvs (dspF s.js D)) ?_ (by simp [en]) (fvs_cl _))) (by simp [hg])
      simp [dspF]
end Go.Proofs.YthhjmaianlmfpaaGreat.Vm

namespace Go.Proofs.YthhjmaianlmfpaaGreat.Vm
open Go Go.Proofs
set_option linter.unusedSimpArgs false
set_option linter.unusedVariables false

theorem dT_sc (r : RT) (b : Bool) : (dT r b).sc = true := by simp [dT, D.sc, D.scL, dRT_sc, dR_sc, V.ow]
theorem dT_dep (r : RT) (b : Bool) : (dT r b).dep 3 := by
  unfold dT; rw [D.dep]; exact ⟨by omega, by simp [D.depL, D.dep, dR_dep]⟩
theorem dT_fz (r : RT) (b : Bool) : (dT r b).fz = .tup [.agg r.c, .bool b] := by simp [dT, D.fz, D.fzL, dR_fz]
end Go.Proofs.YthhjmaianlmfpaaGreat.Vm

namespace Go.Proofs.YthhjmaianlmfpaaGreat.Vm
open Go Go.Proofs
set_option linter.unusedSimpArgs false
set_option linter.unusedVariables false

def apX (s : Str) (d : List (Option Rat)) (m : Mb) : Option Rat := op2 (· - ·) (dX s.js d m.b.toNat) (dX s.js d m.a.toNat)
def apY (s : Str) (d : List (Option Rat)) (m : Mb) : Option Rat := op2 (· - ·) (dY s.js d m.b.toNat) (dY s.js d m.a.toNat)
def strQ (s : Str) (d : List (Option Rat)) (k : Nat) : Option Rat := op2 (· + ·) (op2 (· * ·) (some (vx s (mat s k) : Rat)) (apX s d (mat s k))) (op2 (· * ·) (some (vy s (mat s k) : Rat)) (apY s d (mat s k)))
theorem strQ_ok (s : Str) (d : List (Option Rat)) (k : Nat) : okQ (strQ s d k) := okQ_op2 _ _ _
theorem apart_ro (s : Str) (d : List (Option Rat)) (k : Nat) (hs : SOk s) (hd : okL d) (hk : k < s.ms.length) : RO Tryz.prog 137 [.ptr s.c, .int .i64 k, .sl (fvs (dspF s.js d))] (.tup [fv (apX s d (mat s k)), fv (apY s d (mat s k))]) := by
  have hm := mat_at s k hk
  obtain ⟨⟨a1, a2⟩, ⟨b1, b2⟩⟩ := hs.ix _ (List.getElem_mem hk)
  have hnj := hs.nj
  rw [hm]
  obtain ⟨a, ha⟩ : ∃ a : Nat, s.ms[k].a = a := ⟨s.ms[k].a.toNat, by omega⟩
  obtain ⟨b, hb⟩ : ∃ b : Nat, s.ms[k].b = b := ⟨s.ms[k].b.toNat, by omega⟩
  rw [ha] at a1 a2
  rw [hb] at b1 b2
  have ha' : a < s.js.length := by omega
  have hb' : b < s.js.length := by omega
  have w1 : IntKind.i64.wrap (2 * (a : Int)) = 2 * a := i64_in (by omega) (by omega)
  have w2 : IntKind.i64.wrap (2 * (a : Int) + 1) = 2 * a + 1 := i64_in (by omega) (by omega)
  have w3 : IntKind.i64.wrap (2 * (b : Int)) = 2 * b := i64_in (by omega) (by omega)
  have w4 : IntKind.i64.wrap (2 * (b : Int) + 1) = 2 * b + 1 := i64_in (by omega) (by omega)
  have p1 : 2 * a < 2 * s.js.length := by omega
  have p2 : 2 * a + 1 < 2 * s.js.length := by omega
  have p3 : 2 * b < 2 * s.js.length := by omega
  have p4 : 2 * b + 1 < 2 * s.js.length := by omega
  have p5 : 2 * (a : Int) < 2 * (s.js.length : Int) := by omega
  have p6 : 2 * (a : Int) + 1 < 2 * (s.js.length : Int) := by omega
  have p7 : 2 * (b : Int) < 2 * (s.js.length : Int) := by omega
  have p8 : 2 * (b : Int) + 1 < 2 * (s.js.length : Int) := by omega
  have x1 := dspF_X s.js d a ha' (by simpa using p1)
  have x2 := dspF_Y s.js d a ha' (by simpa using p2)
  have x3 := dspF_X s.js d b hb' (by simpa using p3)
  have x4 := dspF_Y s.js d b hb' (by simpa using p4)
  have hX := sub_ro _ _ (dX_ok s.js hd b) (dX_ok s.js hd a)
  have hY := sub_ro _ _ (dY_ok s.js hd b) (dY_ok s.js hd a)
  have eX : op2 (· - ·) (dX s.js d b) (dX s.js d a) = apX s d s.ms[k] := by unfold apX; rw [ha, hb]; rfl
  have eY : op2 (· - ·) (dY s.js d b) (dY s.js d a) = apY s d s.ms[k] := by unfold apY; rw [ha, hb]; rfl
  rw [eX] at hX
  rw [eY] at hY
  refine ro_of2 Tryz.func137 rfl rfl (by rw [Tryz.ntmps137]; simp) fun bl => ?_
  rw [Tryz.ntmps137, Tryz.results137]
  refine AW_runA ?_
  simp
  refine AW_runA ?_
  simp [Str.c, hk, Mb.c]
  intro g hg0 hg
  refine AW_run ?_
  refine AW_quiet mixedO (by kernel_rfl) ?_
  simp [ha, hb, w1, w2, w3, w4, p1, p2, p3, p4, p5, p6, p7, p8, x1, x2, x3, x4, two0, two1, twoN0, twoN1]
  refine hcQ_ro hX ?_
  simp [ha, hb, w1, w2, w3, w4, p1, p2, p3, p4, p5, p6, p7, p8, x1, x2, x3, x4, two0, two1, twoN0, twoN1]
  refine hcQ_ro hY ?_
  simp
  exact retRO [fv (apX s d s.ms[k]), fv (apY s d s.ms[k])] 1 (by simp) (by simp [frz, frzL]) (by simp [hg])
theorem stretch_ro (s : Str) (d : List (Option Rat)) (k : Nat) (hs : SOk s) (hd : okL d) (hk : k < s.ms.length) : RO Tryz.prog 85 [.ptr s.c, .int .i64 k, .sl (fvs (dspF s.js d))] (fv (strQ s d k)) := by
  have hm := mat_at s k hk
  have hnm := hs.nm
  have hle := vxy_le hs (List.getElem_mem hk)
  rw [← hm] at hle
  obtain ⟨⟨l1, l2⟩, ⟨l3, l4⟩⟩ := hle
  refine ro_of2 Tryz.func85 rfl rfl (by rw [Tryz.ntmps85]; simp) fun bl => ?_
  rw [Tryz.ntmps85, Tryz.results85]
  refine AW_run ?_
  simp
  refine callP_ro (vector_ro s k hs (by omega) (by omega)) ?_
  simp
  refine callP_ro (apart_ro s d k hs hd hk) ?_
  simp
  refine callP_ro (whole_ro (vx s (mat s k)) (by omega)) ?_
  simp
  refine callP_ro (mul_ro _ _ (okQ_int (by omega)) (okQ_op2 _ _ _)) ?_
  simp
  refine callP_ro (whole_ro (vy s (mat s k)) (by omega)) ?_
  simp
  refine callP_ro (mul_ro _ _ (okQ_int (by omega)) (okQ_op2 _ _ _)) ?_
  simp
  refine callP_ro (add_ro _ _ (okQ_op2 _ _ _) (okQ_op2 _ _ _)) ?_
  simp
  exact retRO [fv (strQ s d k)] 0 (by simp [strQ]) (frz_cl (fv_cl _)) (Sub.refl _)

/-- The stretch of member k, if there is one. -/
def strOk (s : Str) (k : Int) (d : List RT) : Bool := movOk s d && (decide (0 ≤ k) && decide (k < s.ms.length))
def strW (s : Str) (k : Int) (d : List RT) : Option Rat := if strOk s k d = true then strQ s (rdAll d) k.toNat else none
theorem strW_ok (s : Str) (k : Int) (d : List RT) : okQ (strW s k d) := by
  unfold strW; split
  · exact strQ_ok _ _ _
  · exact fun _ e => by cases e
theorem movOk_of {s : Str} {d : List RT} (h : movOk s d = true) : SOk s ∧ d.length = 2 * (frees s.js).length ∧ allOk d = true := by
  unfold movOk at h
  simp only [Bool.and_eq_true, decide_eq_true_eq] at h
  exact ⟨sOk_of h.1.1, h.1.2, h.2⟩
theorem impl_StretchOf_nw (s : Str) (k : Int) (d : List RT) (hj : s.js.length ≤ 140737488351232) (hm : s.ms.length ≤ 140737488351232) (hn : ∀ j, j ∈ s.js → j.name.size ≤ 140737488351232) (hd : fitQ d 1048576) : NW Tryz.prog 32 [.agg s.c, .int .i64 k, .sl (rv d)] (dT (ro (strW s k d)) (strW s k d).isSome) := by
  refine nw_of Tryz.func32 rfl rfl (by rw [Tryz.ntmps32]; simp) fun bl => ?_
  rw [Tryz.ntmps32, Tryz.results32]
  refine AW_runA ?_
  simp [Str.c]
  intro g hg0 hg g6 hg6 h6g hb6
  refine AW_frzAt 1 3 (.ptr s.c) (upd bl g6 (some ⟨3, [[.bool false, .nils, .nils]]⟩)) (by intro z b hz; simp only [upd_apply] at hz ⊢; grind) (by simp [frz, dropB, hg, h6g, Ne.symm h6g, Str.c, V.cl]) ?_
  refine AW_run ?_
  simp
  refine callP_ro (displacements_ro s d hj hm hn hd) ?_
  simp
  refine AW_way0 [(1, .int .i64 k), (2, .sl (rv d)), (3, .ptr s.c), (6, .loc g6 3 0 0), (7, .bool false), (8, .sl (fvs (if movOk s d = true then dspF s.js (rdAll d) else []))), (9, .bool (movOk s d))] _ (upd bl g6 (some ⟨3, [[.bool false, .nils, .nils]]⟩)) 27 (.bool (!strOk s k d)) ⟨rfl, by simp, Sub.refl _⟩ rfl ?_ ?_
  · cases hp : movOk s d
    · simp [strOk, hp]
    simp [strOk, hp, Str.c]
    by_cases h0 : 0 ≤ k
    · have h1 : ¬ k < 0 := by omega
      simp [h0, h1, Str.c]
      rw [Bool.eq_iff_iff]
      simp
    · have h1 : k < 0 := by omega
      simp [h0, h1]
  cases hw : strOk s k d
  · have hz : strW s k d = none := by unfold strW; rw [hw]; rfl
    rw [hz]
    simp
    refine retNW [.agg [.bool false, .nils, .nils], .bool false] [] (by simp) ?_ (by simp) (by simp [hb6])
    exact own_dT.2 ⟨_, rfl, own_rtL.2 ⟨.nils, .nils, [], [], rfl, rfl, by simp, own_iv.2 (.inl ⟨rfl, rfl, rfl⟩), own_iv.2 (.inl ⟨rfl, rfl, rfl⟩)⟩⟩
  have hz : strW s k d = strQ s (rdAll d) k.toNat := by unfold strW; rw [hw]; rfl
  unfold strOk at hw
  simp only [Bool.and_eq_true, decide_eq_true_eq] at hw
  obtain ⟨hmv, h0, h1⟩ := hw
  obtain ⟨hs, hlen, hall⟩ := movOk_of hmv
  obtain ⟨i, rfl⟩ : ∃ i : Nat, k = i := ⟨k.toNat, by omega⟩
  have hS := stretch_ro s (rdAll d) i hs (rdAll_ok d) (by omega)
  rw [show ((i : Int).toNat) = i from rfl] at hz
  rw [← hz] at hS
  have ho := strW_ok s i d
  rw [hmv]
  generalize strW s i d = x at *
  simp
  refine callP_ro hS ?_
  simp
  refine callP_new (told_nw x ho) fun v gs b' o f fr => ?_
  obtain ⟨vs, rfl, ol⟩ := own_dT.1 o
  obtain ⟨vm, vd, ga, gb, rfl, rfl, hd', om, od⟩ := own_rtL.1 ol
  obtain ⟨c1, c2⟩ := om.one
  obtain ⟨d1, d2⟩ := od.one
  have e1 : ∀ x, x ∈ ga ++ gb → x ≠ g6 ∧ bl x = none := fun x hx => by have := f x hx; simp only [upd_apply] at this; split at this <;> simp_all
  have n2 : b' g6 = some ⟨3, [[.bool false, .nils, .nils]]⟩ := new_keep f fr (by simp)
  have hsb : Sub bl b' := fun x y hy => by
    have z2 : x ≠ g6 := fun h => by rw [h, hb6] at hy; cases hy
    exact new_keep f fr (by simp [upd_apply, z2, hy])
  simp [n2, c1, d1]
  refine retNW [.agg [.bool (ro x).neg, vm, vd], .bool x.isSome] (ga ++ gb) (by simp [c1, d1]) ?_ (fun x hx => (e1 x hx).2) (hsb.upd hb6 _)
  refine own_dT.2 ⟨_, rfl, (own_rtL.2 ⟨vm, vd, ga, gb, rfl, rfl, hd', om, od⟩).frame fun x hx => by simp [upd_apply, (e1 x hx).1]⟩
theorem impl_StretchOf_ro (s : Str) (k : Int) (d : List RT) (hj : s.js.length ≤ 140737488351232) (hm : s.ms.length ≤ 140737488351232) (hn : ∀ j, j ∈ s.js → j.name.size ≤ 140737488351232) (hd : fitQ d 1048576) : RO Tryz.prog 32 [.agg s.c, .int .i64 k, .sl (rv d)] (.tup [.agg (ro (strW s k d)).c, .bool (strW s k d).isSome]) := by
  have := ro_of_nw 3 (impl_StretchOf_nw s k d hj hm hn hd) (dT_dep _ _)
  rwa [dT_fz] at this
end Go.Proofs.YthhjmaianlmfpaaGreat.Vm

namespace Go.Proofs.YthhjmaianlmfpaaGreat.Vm
open Go Go.Proofs
set_option linter.unusedSimpArgs false
set_option linter.unusedVariables false

def fineQ (rs : List RT) : Bool := rs.all fun r => !decide (r.d = [])
theorem fine_ro (zs : List (Option Rat)) : fineQ (roAll zs) = allSome zs := by
  unfold fineQ roAll allSome
  rw [List.all_map]
  congr 1
  funext x
  cases x with
  | none => simp [ro, rz]
  | some q => simp [ro, rq, lim_nil, q.den_nz]
def pairOk (a b : List RT) : Bool := (vecOk a && vecOk b) && decide (a.length = b.length)
/-! ### Results -/
def addQs (a b : List RT) : List (Option Rat) := if pairOk a b = true then List.zipWith (op2 (· + ·)) (rdAll a) (rdAll b) else [none]
theorem pairOk_len {a b : List RT} (h : pairOk a b = true) : a.length = b.length ∧ a.length ≤ 24 ∧ allOk a = true ∧ allOk b = true := by
  unfold pairOk vecOk at h
  simp at h
  exact ⟨h.2, h.1.1.1, h.1.1.2, h.1.2.2⟩
theorem zip_ok (f : Rat → Rat → Rat) (xs ys : List (Option Rat)) : okL (List.zipWith (op2 f) xs ys) := by
  intro x hx
  obtain ⟨i, hi, rfl⟩ := List.getElem_of_mem hx
  rw [List.getElem_zipWith]
  exact okQ_op2 _ _ _
theorem addQs_ok (a b : List RT) : okL (addQs a b) ∧ (addQs a b).length ≤ 24 := by
  unfold addQs; split
  · rename_i h; exact ⟨zip_ok _ _ _, by have := pairOk_len h; simp; omega⟩
  · exact ⟨okL_none, by simp⟩
theorem ro_of_ok {rs : List RT} (h : allOk rs = true) (i : Nat) (hi : i < rs.length) : ∃ q, rd rs[i] = some q ∧ rs[i] = ro (some q) ∧ okQ (some q) := by
  have := List.all_eq_true.1 h rs[i] (List.getElem_mem hi)
  obtain ⟨q, hq⟩ := Option.isSome_iff_exists.1 this
  obtain ⟨h1, h2⟩ := rd_some hq
  exact ⟨q, hq, h1, fun x hx => by cases hx; exact h2⟩
def sclQs (r : RT) (q : List RT) : List (Option Rat) := if (r.ok ∧ vecOk q = true) then (rdAll q).map (op2 (· * ·) (rd r)) else [none]
theorem vecOk_len {q : List RT} (h : vecOk q = true) : q.length ≤ 24 ∧ allOk q = true := by
  unfold vecOk at h; simp at h; exact h
theorem sclQs_ok (r : RT) (q : List RT) : okL (sclQs r q) ∧ (sclQs r q).length ≤ 24 := by
  unfold sclQs; split
  · rename_i h
    refine ⟨fun x hx => ?_, by have := vecOk_len h.2; simp; omega⟩
    obtain ⟨y, _, rfl⟩ := List.mem_map.1 hx
    exact okQ_op2 _ _ _
  · exact ⟨okL_none, by simp⟩
end Go.Proofs.YthhjmaianlmfpaaGreat.Vm

namespace Go.Proofs.YthhjmaianlmfpaaGreat.Vm
open Go Go.Proofs
set_option linter.unusedSimpArgs false
set_option linter.unusedVariables false

theorem l15Moves_ro (s : Str) (d : List RT) (hj : s.js.length ≤ 140737488351232) (hm : s.ms.length ≤ 140737488351232) (hn : ∀ j, j ∈ s.js → j.name.size ≤ 140737488351232) (hd : fitQ d 1048576) : RO Tryz.prog 80 [.agg s.c, .sl (rv d)] (.bool (movOk s d)) := by
  refine ro_of2 Tryz.func80 rfl rfl (by rw [Tryz.ntmps80]; simp) fun bl => ?_
  rw [Tryz.ntmps80, Tryz.results80]
  refine AW_run ?_
  simp [Str.c]
  intro g hg0 hg
  refine AW_way [(1, .sl (rv d)), (2, .loc g 2 0 0)] _ (upd bl g (some ⟨2, [s.c]⟩)) 4 (.bool (movOk s d)) (upd bl g (some ⟨2, [s.c]⟩)) ⟨rfl, by simp, sub_eq (by simp [Str.c])⟩ rfl ?_ ?_
  · simp [Str.c]
    refine callP_ro (spec_StructureOk_ro s hj hm hn) ?_
    cases hk : sOk s
    · simp [movOk, hk]
    have hs := sOk_of hk
    have hnj := hs.nj
    have hfl := freesTo_le s.js s.js.length
    change (frees s.js).length ≤ s.js.length at hfl
    simp [Str.c]
    refine callP_ro (l12Free_ro s (by omega)) ?_
    simp
    rw [i64_in (by omega) (by omega)]
    by_cases h : d.length = 2 * (frees s.js).length
    · have h' : (d.length : Int) = 2 * ((frees s.js).length : Int) := by omega
      simp [h, h']
      refine callP_ro (l09Valid_ro d hd) ?_
      simp [movOk, hk, h]
    · have h' : ¬ (d.length : Int) = 2 * ((frees s.js).length : Int) := by omega
      simp [h, h', movOk, hk]
  simp
  exact retRO [.bool (movOk s d)] 0 (by simp) (by simp [frz]) (by simp [hg])

theorem idx_succ (js : List J) (k : Nat) : idx js (k + 1) = idx js k + (if fxd js k = true then 0 else 1) := by
  unfold idx fxd
  rw [freesTo_succ]
  split <;> simp
theorem idx_le (js : List J) (k : Nat) : idx js k ≤ k := freesTo_le js k
def atW (s : Str) (i : Nat) : Int := if fxd s.js i = true then -1 else (idx s.js i : Int)
theorem l15At_ro (s : Str) (i : Nat) (hi : i < s.js.length) (hj : s.js.length ≤ 1000) : RO Tryz.prog 136 [.agg s.c, .int .i64 i] (.int .i64 (atW s i)) := by
  refine ro_of2 Tryz.func136 rfl rfl (by rw [Tryz.ntmps136]; simp) fun bl => ?_
  rw [Tryz.ntmps136, Tryz.results136]
  refine AW_runA ?_
  simp [Str.c]
  intro g hg0 hg
  refine AW_frzAt 1 2 (.ptr s.c) bl (by simp [hg]) (by simp [frz, dropB, hg, Str.c, V.cl]) ?_
  refine AW_run ?_
  simp [Str.c]
  refine AW_for (fun k : Nat => [(1, .int .i64 i), (5, .int .i64 (idx s.js k : Nat)), (9, .sl (jv s.js)), (10, .int .i64 s.js.length), (11, .int .i64 k)]) (fun _ => bl) (fun k => k ≤ i) (fun k => s.js.length - k) _ 0 (Nat.zero_le _) ⟨rfl, by simp [idx, freesTo], Sub.refl _⟩ ?_
  intro k hk
  have hle := idx_le s.js k
  have wi : IntKind.i64.wrap ((idx s.js k : Int) + 1) = (idx s.js k : Int) + 1 := i64_in (by omega) (by omega)
  have wk : IntKind.i64.wrap ((k : Int) + 1) = (k : Int) + 1 := i64_in (by omega) (by omega)
  refine AW_run ?_
  simp
  refine ⟨fun h => ?_, fun h => ?_⟩
  · have hfx : fxd s.js k = s.js[k].fixed := by unfold fxd; rw [getD_at _ _ _ h]
    have hsu := idx_succ s.js k
    simp [h]
    intro g7 hg7 hb7
    refine ⟨by simp [J.c], fun he => ?_, fun he => ?_⟩
    · obtain rfl : k = i := by omega
      simp [J.c]
      refine ⟨fun hf => ?_, fun hf => ?_⟩
      · have : atW s k = -1 := by unfold atW; rw [hfx, hf]; rfl
        exact retRO [.int .i64 (-1)] 0 (by simp) (by simp [frz, this]) (by simp [hb7])
      · have : atW s k = (idx s.js k : Int) := by unfold atW; rw [hfx, hf]; rfl
        exact retRO [.int .i64 (idx s.js k : Int)] 0 (by simp) (by simp [frz, this]) (by simp [hb7])
    · cases hf : s.js[k].fixed
      · rw [hfx, hf] at hsu
        simp [J.c, hf, wi, wk, loopQ_normal]
        refine ⟨k + 1, by omega, by omega, rfl, by simp [hsu], by simp [hb7]⟩
      · rw [hfx, hf] at hsu
        simp [J.c, hf, wi, wk, loopQ_normal]
        refine ⟨k + 1, by omega, by omega, rfl, by simp [hsu], by simp [hb7]⟩
  · omega

theorem ro_rd {rs : List RT} (h : allOk rs = true) (i : Nat) (hi : i < rs.length) : ro (rd rs[i]) = rs[i] := by
  obtain ⟨q, e1, e2, _⟩ := ro_of_ok h i hi
  rw [e1]; exact e2.symm
theorem l15Move_ro (s : Str) (d : List RT) (i : Nat) (h : movOk s d = true) (hi : i < s.js.length) : RO Tryz.prog 81 [.agg s.c, .sl (rv d), .int .i64 i] (.tup [.agg (ro (dX s.js (rdAll d) i)).c, .agg (ro (dY s.js (rdAll d) i)).c]) := by
  obtain ⟨hs, hlen, hall⟩ := movOk_of h
  have hnj := hs.nj
  have hA := l15At_ro s i hi (by omega)
  have w0 := RatFromInt_ro 0 (by omega)
  rw [zero_cast] at w0
  refine ro_of2 Tryz.func81 rfl rfl (by rw [Tryz.ntmps81]; simp) fun bl => ?_
  rw [Tryz.ntmps81, Tryz.results81]
  refine AW_runA ?_
  simp [Str.c]
  intro g hg0 hg g6 hg6 h6g hb6 g7 hg7 h76 h7g hb7
  refine AW_frzAt 1 3 (.ptr s.c) (upd (upd bl g6 (some ⟨3, [[.bool false, .nils, .nils]]⟩)) g7 (some ⟨3, [[.bool false, .nils, .nils]]⟩)) (by intro z b hz; simp only [upd_apply] at hz ⊢; grind) (by simp [frz, dropB, hg, h6g, Ne.symm h6g, h7g, Ne.symm h7g, Str.c, V.cl]) ?_
  refine AW_run ?_
  simp [Str.c]
  refine callP_ro hA ?_
  cases hf : fxd s.js i
  · have ha : atW s i = (idx s.js i : Int) := by unfold atW; rw [hf]; rfl
    have hil := idx_ltf hi hf
    have hle := idx_le s.js i
    rw [ha]
    obtain ⟨t, et⟩ : ∃ t, idx s.js i = t := ⟨_, rfl⟩
    rw [et] at hil hle ⊢
    have w3 : IntKind.i64.wrap (2 * (t : Int)) = 2 * t := i64_in (by omega) (by omega)
    have w4 : IntKind.i64.wrap (2 * (t : Int) + 1) = 2 * t + 1 := i64_in (by omega) (by omega)
    have p3 : 2 * t < d.length := by omega
    have p4 : 2 * t + 1 < d.length := by omega
    have p7 : 2 * (t : Int) < d.length := by omega
    have p8 : 2 * (t : Int) + 1 < d.length := by omega
    have eX : ro (dX s.js (rdAll d) i) = d[2 * t] := by
      unfold dX; rw [hf, et, if_neg (by simp), getD_at _ _ _ (by simpa using p3), ← ro_rd hall _ p3]; simp [rdAll]
    have eY : ro (dY s.js (rdAll d) i) = d[2 * t + 1] := by
      unfold dY; rw [hf, et, if_neg (by simp), getD_at _ _ _ (by simpa using p4), ← ro_rd hall _ p4]; simp [rdAll]
    rw [eX, eY]
    have n0 : ¬ (t : Int) < 0 := by omega
    simp [n0]
    refine AW_mixedB mixedO bl (by intro z b hz; simp only [upd_apply] at hz ⊢; grind) [0, 1, 2, 3, 4, 5, 6, 7, 8, 9, 10] 2 (by kernel_rfl) ?_
    simp [w3, w4, p3, p4, p7, p8, two0, two1, twoN0, twoN1, RT.c]
    refine DAny_one (i := 11) (by kernel_rfl) rfl rfl ?_
    simp [RT.c, h76, Ne.symm h76]
    refine ⟨by intro z b hz; simp only [upd_apply] at hz ⊢; grind, DAny_one (i := 12) (by kernel_rfl) rfl rfl ?_⟩
    simp [RT.c, h76, Ne.symm h76]
    refine ⟨by intro z b hz; simp only [upd_apply] at hz ⊢; grind, DAny_done (by kernel_rfl) ?_⟩
    simp
    exact retRO [.agg d[2 * t].c, .agg d[2 * t + 1].c] 2 (by simp [RT.c, h76, Ne.symm h76]) (by simp [frz, RT.c, V.cl]) (by intro z b hz; simp only [upd_apply] at hz ⊢; grind)
  · have ha : atW s i = -1 := by unfold atW; rw [hf]; rfl
    have eX : dX s.js (rdAll d) i = some 0 := by unfold dX; rw [hf]; rfl
    have eY : dY s.js (rdAll d) i = some 0 := by unfold dY; rw [hf]; rfl
    rw [ha, eX, eY]
    generalize ro (some 0) = z at *
    simp
    refine callP_ro w0 ?_
    simp
    refine callP_ro w0 ?_
    simp [RT.c, h76, Ne.symm h76]
    exact retRO [.agg z.c, .agg z.c] 2 (by simp [RT.c, h76, Ne.symm h76]) (by simp [frz, RT.c, V.cl]) (by intro z b hz; simp only [upd_apply] at hz ⊢; grind)
end Go.Proofs.YthhjmaianlmfpaaGreat.Vm

namespace Go.Proofs.YthhjmaianlmfpaaGreat.Vm
open Go Go.Proofs
set_option linter.unusedSimpArgs false
set_option linter.unusedVariables false

theorem subC (x y : Option Rat) (hx : okQ x) (hy : okQ y) : RO Tryz.prog 82 [.agg (ro x).c, .agg (ro y).c] (.agg (ro (op2 (· - ·) x y)).c) := by
  have h1 := ro_le hx
  have h2 := ro_le hy
  have := RatSub_ro (ro x) (ro y) ⟨by omega, by omega⟩ ⟨by omega, by omega⟩
  rwa [rd_ro hx, rd_ro hy] at this
theorem mulO (x y : Option Rat) (hx : okQ x) (hy : okQ y) : RO Tryz.prog 54 [.agg (ro x).c, .agg (ro y).c] (.agg (ro (op2 (· * ·) x y)).c) := by
  have h1 := ro_le hx
  have h2 := ro_le hy
  have := RatMul_ro (ro x) (ro y) ⟨by omega, by omega⟩ ⟨by omega, by omega⟩
  rwa [rd_ro hx, rd_ro hy] at this
/-- Two new cells of three. -/
def twoNew (bl : Int → Option Blk) (g6 : Int) (p : Int × Int) : Prop := 0 ≤ p.1 ∧ 0 ≤ p.2 ∧ ¬ p.1 = p.2 ∧ ¬ p.1 = g6 ∧ ¬ p.2 = g6 ∧ bl p.1 = none ∧ bl p.2 = none
theorem spec_StretchOf_ro (s : Str) (k : Int) (d : List RT) (hj : s.js.length ≤ 140737488351232) (hm0 : s.ms.length ≤ 140737488351232) (hn : ∀ j, j ∈ s.js → j.name.size ≤ 140737488351232) (hd : fitQ d 1048576) : RO Tryz.prog 31 [.agg s.c, .int .i64 k, .sl (rv d)] (.tup [.agg (ro (strW s k d)).c, .bool (strW s k d).isSome]) := by
  refine ro_of2 Tryz.func31 rfl rfl (by rw [Tryz.ntmps31]; simp) fun bl => ?_
  rw [Tryz.ntmps31, Tryz.results31]
  refine AW_runA ?_
  simp [Str.c]
  intro g hg0 hg g6 hg6 h6g hb6
  refine AW_frzAt 1 3 (.ptr s.c) (upd bl g6 (some ⟨3, [[.bool false, .nils, .nils]]⟩)) (by intro z b hz; simp only [upd_apply] at hz ⊢; grind) (by simp [frz, dropB, hg, h6g, Ne.symm h6g, Str.c, V.cl]) ?_
  refine AW_runA ?_
  simp
  refine AW_way0 [(1, .int .i64 k), (2, .sl (rv d)), (3, .ptr s.c), (6, .loc g6 3 0 0), (7, .bool false)] _ (upd bl g6 (some ⟨3, [[.bool false, .nils, .nils]]⟩)) 27 (.bool (!strOk s k d)) ⟨rfl, by simp, Sub.refl _⟩ rfl ?_ ?_
  · simp [Str.c]
    refine callP_ro (l15Moves_ro s d hj hm0 hn hd) ?_
    cases hp : movOk s d
    · simp [strOk, hp]
    simp [strOk, hp, Str.c]
    rw [i64_in (by omega) (by omega)]
    refine callP_ro (l01In_ro _ _ _) ?_
    simp [strOk, hp]
    rw [Bool.eq_iff_iff]
    simp
    omega
  cases hw : strOk s k d
  · have hz : strW s k d = none := by unfold strW; rw [hw]; rfl
    rw [hz]
    simp
    exact retRO [.agg [.bool false, .nils, .nils], .bool false] 2 (by simp) (by simp [frz, V.cl, ro, rz, RT.c, iv]) (by simp [hb6])
  have hz : strW s k d = strQ s (rdAll d) k.toNat := by unfold strW; rw [hw]; rfl
  unfold strOk at hw
  simp only [Bool.and_eq_true, decide_eq_true_eq] at hw
  obtain ⟨hmv, h0, h1⟩ := hw
  obtain ⟨hs, hlen, hall⟩ := movOk_of hmv
  obtain ⟨i, rfl⟩ : ∃ i : Nat, k = i := ⟨k.toNat, by omega⟩
  have hk : i < s.ms.length := by omega
  have hnm := hs.nm
  have hnj := hs.nj
  have hm := mat_at s i hk
  obtain ⟨⟨a1, a2⟩, ⟨b1, b2⟩⟩ := hs.ix _ (List.getElem_mem hk)
  obtain ⟨a, ha⟩ : ∃ a : Nat, s.ms[i].a = a := ⟨s.ms[i].a.toNat, by omega⟩
  obtain ⟨b, hb⟩ : ∃ b : Nat, s.ms[i].b = b := ⟨s.ms[i].b.toNat, by omega⟩
  rw [ha] at a1 a2
  rw [hb] at b1 b2
  have hMA := l15Move_ro s d a hmv (by omega)
  have hMB := l15Move_ro s d b hmv (by omega)
  have hle := vxy_le hs (List.getElem_mem hk)
  obtain ⟨⟨l1, l2⟩, ⟨l3, l4⟩⟩ := hle
  have hV := l12Vector_ro s i hs (by omega) (by omega)
  rw [hm] at hV
  have hIX := RatFromInt_ro (vx s s.ms[i]) (by omega)
  have hIY := RatFromInt_ro (vy s s.ms[i]) (by omega)
  have ox : okQ (some (vx s s.ms[i] : Rat)) := okQ_int (by omega)
  have oy : okQ (some (vy s s.ms[i] : Rat)) := okQ_int (by omega)
  have hz2 : strW s i d = op2 (· + ·) (op2 (· * ·) (some (vx s s.ms[i] : Rat)) (op2 (· - ·) (dX s.js (rdAll d) b) (dX s.js (rdAll d) a))) (op2 (· * ·) (some (vy s s.ms[i] : Rat)) (op2 (· - ·) (dY s.js (rdAll d) b) (dY s.js (rdAll d) a))) := by
    rw [hz]; unfold strQ apX apY; rw [show ((i : Int).toNat : Int) = i from rfl, hm, ha, hb]; rfl
  have oxa := dX_ok s.js (rdAll_ok d) a
  have oya := dY_ok s.js (rdAll_ok d) a
  have oxb := dX_ok s.js (rdAll_ok d) b
  have oyb := dY_ok s.js (rdAll_ok d) b
  generalize dX s.js (rdAll d) a = xa at *
  generalize dY s.js (rdAll d) a = ya at *
  generalize dX s.js (rdAll d) b = xb at *
  generalize dY s.js (rdAll d) b = yb at *
  generalize some (vx s s.ms[i] : Rat) = cx at *
  generalize some (vy s s.ms[i] : Rat) = cy at *
  generalize vx s s.ms[i] = nx at *
  generalize vy s s.ms[i] = ny at *
  have hSX := subC xb xa oxb oxa
  have hSY := subC yb ya oyb oya
  have hPX := mulO cx _ ox (okQ_op2 (· - ·) xb xa)
  have hPY := mulO cy _ oy (okQ_op2 (· - ·) yb ya)
  have hA := addC _ _ (okQ_op2 (· * ·) cx (op2 (· - ·) xb xa)) (okQ_op2 (· * ·) cy (op2 (· - ·) yb ya))
  rw [← hz2] at hA
  have oR := strW_ok s i d
  have hK := okC _ oR
  clear hz hz2
  generalize strW s i d = r at *
  generalize op2 (· - ·) xb xa = sx at *
  generalize op2 (· - ·) yb ya = sy at *
  generalize op2 (· * ·) cx sx = px at *
  generalize op2 (· * ·) cy sy = py at *
  simp
  refine AW_runA ?_
  simp [Str.c]
  refine callP_ro hV ?_
  simp
  refine AW_mid (fun p : Int × Int => [(1, .int .i64 i), (2, .sl (rv d)), (3, .ptr s.c), (6, .loc g6 3 0 0), (7, .bool false), (8, .int .i64 nx), (9, .int .i64 ny), (10, .loc p.1 3 0 0), (11, .loc p.2 3 0 0)]) (fun p => upd (upd (upd bl g6 (some ⟨3, [[.bool false, .nils, .nils]]⟩)) p.1 (some ⟨3, [(ro xa).c]⟩)) p.2 (some ⟨3, [(ro ya).c]⟩)) (twoNew bl g6) 75 ?_ ?_
  · refine AW_mixedB mixedO (upd bl g6 (some ⟨3, [[.bool false, .nils, .nils]]⟩)) (Sub.refl _) [0, 1, 2, 3, 4, 5, 6, 7, 8, 9, 10, 11] 4 (by kernel_rfl) ?_
    simp [Str.c, hk, Mb.c, ha]
    refine hcQ_ro hMA ?_
    simp
    refine DAny_two (i := 12) (j := 13) (by kernel_rfl) rfl rfl rfl rfl ?_ ?_
    · simp
      intro u hu huf hbu
      refine ⟨by intro z b hz; simp only [upd_apply] at hz ⊢; grind, DAny_one (i := 13) (by kernel_rfl) rfl rfl ?_⟩
      simp [huf, Ne.symm huf]
      intro v hv hvu hvf hbv
      refine ⟨by intro z b hz; simp only [upd_apply] at hz ⊢; grind, DAny_one (i := 14) (by kernel_rfl) rfl rfl ?_⟩
      simp [RT.c, huf, Ne.symm huf, hvu, Ne.symm hvu, hvf, Ne.symm hvf]
      refine ⟨by intro z b hz; simp only [upd_apply] at hz ⊢; grind, DAny_one (i := 15) (by kernel_rfl) rfl rfl ?_⟩
      simp [RT.c, huf, Ne.symm huf, hvu, Ne.symm hvu, hvf, Ne.symm hvf]
      refine ⟨by intro z b hz; simp only [upd_apply] at hz ⊢; grind, DAny_done (by kernel_rfl) ?_⟩
      simp [midQ_normal]
      refine ⟨u, v, by unfold twoNew; simp [*, Ne.symm hvu], rfl, by simp, by intro z b hz; simp only [upd_apply, RT.c] at hz ⊢; grind⟩
    · simp
      intro u hu huf hbu
      refine ⟨by intro z b hz; simp only [upd_apply] at hz ⊢; grind, DAny_one (i := 12) (by kernel_rfl) rfl rfl ?_⟩
      simp [huf, Ne.symm huf]
      intro v hv hvu hvf hbv
      refine ⟨by intro z b hz; simp only [upd_apply] at hz ⊢; grind, DAny_one (i := 14) (by kernel_rfl) rfl rfl ?_⟩
      simp [RT.c, huf, Ne.symm huf, hvu, Ne.symm hvu, hvf, Ne.symm hvf]
      refine ⟨by intro z b hz; simp only [upd_apply] at hz ⊢; grind, DAny_one (i := 15) (by kernel_rfl) rfl rfl ?_⟩
      simp [RT.c, huf, Ne.symm huf, hvu, Ne.symm hvu, hvf, Ne.symm hvf]
      refine ⟨by intro z b hz; simp only [upd_apply] at hz ⊢; grind, DAny_done (by kernel_rfl) ?_⟩
      simp [midQ_normal]
      refine ⟨v, u, by unfold twoNew; simp [*, Ne.symm hvu], rfl, by simp, by intro z b hz; simp only [upd_apply, RT.c] at hz ⊢; grind⟩
  rintro ⟨p1, p2⟩ ⟨n1, n2, n3, n4, n5, n6, n7⟩
  simp only at n1 n2 n3 n4 n5 n6 n7 ⊢
  refine AW_frzAt 1 10 (.ptr (ro xa).c) (upd (upd bl g6 (some ⟨3, [[.bool false, .nils, .nils]]⟩)) p2 (some ⟨3, [(ro ya).c]⟩)) (by intro z b hz; simp only [upd_apply] at hz ⊢; grind) (by simp [frz, dropB, n6, n3, n4, Ne.symm n3, RT.c, V.cl]) ?_
  refine AW_frzAt 1 11 (.ptr (ro ya).c) (upd bl g6 (some ⟨3, [[.bool false, .nils, .nils]]⟩)) (by intro z b hz; simp only [upd_apply] at hz ⊢; grind) (by simp [frz, dropB, n7, n5, Ne.symm n5, RT.c, V.cl]) ?_
  refine AW_mid (fun p : Int × Int => [(1, .int .i64 i), (2, .sl (rv d)), (3, .ptr s.c), (6, .loc g6 3 0 0), (7, .bool false), (8, .int .i64 nx), (9, .int .i64 ny), (10, .ptr (ro xa).c), (11, .ptr (ro ya).c), (12, .loc p.1 3 0 0), (13, .loc p.2 3 0 0)]) (fun p => upd (upd (upd bl g6 (some ⟨3, [[.bool false, .nils, .nils]]⟩)) p.1 (some ⟨3, [(ro xb).c]⟩)) p.2 (some ⟨3, [(ro yb).c]⟩)) (twoNew bl g6) 75 ?_ ?_
  · refine AW_mixedB mixedO (upd bl g6 (some ⟨3, [[.bool false, .nils, .nils]]⟩)) (Sub.refl _) [0, 1, 2, 3, 4, 5, 6, 7, 8, 9, 10, 11] 4 (by kernel_rfl) ?_
    simp [Str.c, hk, Mb.c, hb]
    refine hcQ_ro hMB ?_
    simp
    refine DAny_two (i := 12) (j := 13) (by kernel_rfl) rfl rfl rfl rfl ?_ ?_
    · simp
      intro u hu huf hbu
      refine ⟨by intro z b hz; simp only [upd_apply] at hz ⊢; grind, DAny_one (i := 13) (by kernel_rfl) rfl rfl ?_⟩
      simp [huf, Ne.symm huf]
      intro v hv hvu hvf hbv
      refine ⟨by intro z b hz; simp only [upd_apply] at hz ⊢; grind, DAny_one (i := 14) (by kernel_rfl) rfl rfl ?_⟩
      simp [RT.c, huf, Ne.symm huf, hvu, Ne.symm hvu, hvf, Ne.symm hvf]
      refine ⟨by intro z b hz; simp only [upd_apply] at hz ⊢; grind, DAny_one (i := 15) (by kernel_rfl) rfl rfl ?_⟩
      simp [RT.c, huf, Ne.symm huf, hvu, Ne.symm hvu, hvf, Ne.symm hvf]
      refine ⟨by intro z b hz; simp only [upd_apply] at hz ⊢; grind, DAny_done (by kernel_rfl) ?_⟩
      simp [midQ_normal]
      refine ⟨u, v, by unfold twoNew; simp [*, Ne.symm hvu], rfl, by simp, by intro z b hz; simp only [upd_apply, RT.c] at hz ⊢; grind⟩
    · simp
      intro u hu huf hbu
      refine ⟨by intro z b hz; simp only [upd_apply] at hz ⊢; grind, DAny_one (i := 12) (by kernel_rfl) rfl rfl ?_⟩
      simp [huf, Ne.symm huf]
      intro v hv hvu hvf hbv
      refine ⟨by intro z b hz; simp only [upd_apply] at hz ⊢; grind, DAny_one (i := 14) (by kernel_rfl) rfl rfl ?_⟩
      simp [RT.c, huf, Ne.symm huf, hvu, Ne.symm hvu, hvf, Ne.symm hvf]
      refine ⟨by intro z b hz; simp only [upd_apply] at hz ⊢; grind, DAny_one (i := 15) (by kernel_rfl) rfl rfl ?_⟩
      simp [RT.c, huf, Ne.symm huf, hvu, Ne.symm hvu, hvf, Ne.symm hvf]
      refine ⟨by intro z b hz; simp only [upd_apply] at hz ⊢; grind, DAny_done (by kernel_rfl) ?_⟩
      simp [midQ_normal]
      refine ⟨v, u, by unfold twoNew; simp [*, Ne.symm hvu], rfl, by simp, by intro z b hz; simp only [upd_apply, RT.c] at hz ⊢; grind⟩
  rintro ⟨p1, p2⟩ ⟨n1, n2, n3, n4, n5, n6, n7⟩
  simp only at n1 n2 n3 n4 n5 n6 n7 ⊢
  refine AW_frzAt 1 12 (.ptr (ro xb).c) (upd (upd bl g6 (some ⟨3, [[.bool false, .nils, .nils]]⟩)) p2 (some ⟨3, [(ro yb).c]⟩)) (by intro z b hz; simp only [upd_apply] at hz ⊢; grind) (by simp [frz, dropB, n6, n3, n4, Ne.symm n3, RT.c, V.cl]) ?_
  refine AW_frzAt 1 13 (.ptr (ro yb).c) (upd bl g6 (some ⟨3, [[.bool false, .nils, .nils]]⟩)) (by intro z b hz; simp only [upd_apply] at hz ⊢; grind) (by simp [frz, dropB, n7, n5, Ne.symm n5, RT.c, V.cl]) ?_
  refine AW_run ?_
  refine AW_mixedB mixedO (upd bl g6 (some ⟨3, [[.bool false, .nils, .nils]]⟩)) (Sub.refl _) [0, 1, 2, 3, 4, 5, 6, 7, 8, 9, 10, 11, 12] 2 (by kernel_rfl) ?_
  simp
  refine hcQ_ro hIX ?_
  simp [RT.c]
  refine hcQ_ro hSX ?_
  simp [RT.c]
  refine hcQ_ro hPX ?_
  simp [RT.c]
  refine hcQ_ro hIY ?_
  simp [RT.c]
  refine hcQ_ro hSY ?_
  simp [RT.c]
  refine hcQ_ro hPY ?_
  simp [RT.c]
  refine hcQ_ro hA ?_
  simp [RT.c]
  refine DAny_one (i := 13) (by kernel_rfl) rfl rfl ?_
  simp
  intro g8 hg8 h86 hb8
  refine ⟨by intro z b hz; simp only [upd_apply] at hz ⊢; grind, DAny_one (i := 14) (by kernel_rfl) rfl rfl ?_⟩
  simp [RT.c, h86, Ne.symm h86]
  refine ⟨by intro z b hz; simp only [upd_apply] at hz ⊢; grind, DAny_done (by kernel_rfl) ?_⟩
  try simp
  refine AW_mixedB mixedO (upd bl g8 (some ⟨3, [(ro r).c]⟩)) (by intro z b hz; simp only [upd_apply, RT.c] at hz ⊢; grind) [0, 1, 2] 2 (by kernel_rfl) ?_
  simp [RT.c, h86, Ne.symm h86]
  refine hcQ_ro hK ?_
  simp [RT.c, h86, Ne.symm h86]
  refine DAny_one (i := 3) (by kernel_rfl) rfl rfl ?_
  simp [RT.c, h86, Ne.symm h86]
  refine ⟨by intro z b hz; simp only [upd_apply] at hz ⊢; grind, DAny_one (i := 4) (by kernel_rfl) rfl rfl ?_⟩
  simp
  refine ⟨by intro z b hz; simp only [upd_apply] at hz ⊢; grind, DAny_done (by kernel_rfl) ?_⟩
  try simp
  exact retRO [.agg (ro r).c, .bool r.isSome] 2 (by simp [RT.c]) (by simp [frz, RT.c, V.cl]) (by intro z b hz; simp only [upd_apply] at hz ⊢; grind)
end Go.Proofs.YthhjmaianlmfpaaGreat.Vm

namespace Go.Proofs.YthhjmaianlmfpaaGreat.Vm
open Go Go.Proofs
set_option linter.unusedSimpArgs false
set_option linter.unusedVariables false

theorem law_StretchOf_ro (s : Str) (k : Int) (q : List RT) (hs : s.sz) (hk : -9223372036854775808 ≤ k ∧ k ≤ 9223372036854775807) (hq : fitQ q 140737488351232) : RO Tryz.prog 7 [.agg s.c, .int .i64 k, .sl (rv q)] (.bool true) := by
  refine ro_of2 Tryz.func7 rfl rfl (by rw [Tryz.ntmps7]; simp) fun bl => ?_
  rw [Tryz.ntmps7, Tryz.results7]
  refine AW_run ?_
  simp [Str.c]
  intro gx0 hgx0 hbgx0
  have kp := kp_of (bl := bl) hbgx0 (some ⟨2, [[.sl (jv s.js), .sl (mv s.ms)]]⟩)
  have egx0 : upd bl gx0 (some ⟨2, [[.sl (jv s.js), .sl (mv s.ms)]]⟩) gx0 = some ⟨2, [[.sl (jv s.js), .sl (mv s.ms)]]⟩ := by simp
  have sb1 : Sub bl (upd bl gx0 (some ⟨2, [[.sl (jv s.js), .sl (mv s.ms)]]⟩)) := fun x y hx => kp x y ((Sub.refl _) x y hx)
  generalize upd bl gx0 (some ⟨2, [[.sl (jv s.js), .sl (mv s.ms)]]⟩) = b1 at *
  clear kp
  refine callP_ro (szStructure_ro s _ (by omega) hs.js hs.ms hs.nm) ?_
  try simp [egx0]
  refine ⟨fun h => ?_, fun hzs => ?_⟩
  · exact retRO [_] 0 rfl rfl sb1
  obtain ⟨l1s, l2s, l3s⟩ := szStr_le (s := s) (left := 1048576) (by omega) (by omega)
  have hles : -1 ≤ (szStr s 1048576) ∧ (szStr s 1048576) ≤ 1048576 := by omega
  have jss : s.js.length ≤ 1048576 := by omega
  have mss : s.ms.length ≤ 1048576 := by omega
  refine callP_ro (szRatS_ro q _ hles hq) ?_
  try simp [egx0]
  refine ⟨fun h => ?_, fun hzq => ?_⟩
  · exact retRO [_] 0 rfl rfl sb1
  obtain ⟨qq, qsq⟩ := szQs_n (rs := q) (left := (szStr s 1048576)) hles (by omega)
  have hleq := szQs_le (rs := q) (left := (szStr s 1048576)) hles
  have ts := toStructure_ro s jss mss
  have tq := toRatS_ro q qq
  have hS := spec_StretchOf_ro s k q hs.js hs.ms hs.nm qq
  have hI := impl_StretchOf_nw s k q hs.js hs.ms hs.nm qq
  have hJ := impl_StretchOf_ro s k q hs.js hs.ms hs.nm qq
  have wl := ro_le (strW_ok s k q)
  generalize (strW s k q).isSome = ob at hS hI hJ
  generalize ro (strW s k q) = w at hS hI hJ wl
  have we := eqRat_ro w ⟨by omega, by omega⟩
  refine callP_ro ts ?_
  try simp [egx0]
  refine callP_ro tq ?_
  try simp [egx0]
  refine callP_ro hS ?_
  try simp [egx0, RT.c]
  intro gx1 hgx1 hbgx1
  have z_gx1_gx0 : gx0 ≠ gx1 := fun e => by rw [← e, egx0] at hbgx1; cases hbgx1
  try simp [z_gx1_gx0, Ne.symm z_gx1_gx0, egx0]
  have kp := kp_of (bl := b1) hbgx1 (some ⟨3, [[.bool w.neg, .sl (iv w.m), .sl (iv w.d)]]⟩)
  have egx1 : upd b1 gx1 (some ⟨3, [[.bool w.neg, .sl (iv w.m), .sl (iv w.d)]]⟩) gx1 = some ⟨3, [[.bool w.neg, .sl (iv w.m), .sl (iv w.d)]]⟩ := by simp
  have sb2 : Sub bl (upd b1 gx1 (some ⟨3, [[.bool w.neg, .sl (iv w.m), .sl (iv w.d)]]⟩)) := fun x y hx => kp x y (sb1 x y hx)
  generalize upd b1 gx1 (some ⟨3, [[.bool w.neg, .sl (iv w.m), .sl (iv w.d)]]⟩) = b2 at *
  have egx0 := kp _ _ egx0
  clear kp
  try simp [egx0, egx1]
  refine callP_new (toStructure_nw s jss mss) fun va0 ga0 cb0 ot fa0 fra0 => ?_
  obtain ⟨va0a, va0b, rfl, oa0, c1, c2, c3, c4⟩ := own_agg ot
  clear ot
  have m_gx0_ga0 : gx0 ∉ ga0 := fun hh => by have hz := fa0 _ hh; rw [egx0] at hz; cases hz
  have m_gx1_ga0 : gx1 ∉ ga0 := fun hh => by have hz := fa0 _ hh; rw [egx1] at hz; cases hz
  have fr_ga0 : ∀ x, x ∈ ga0 → bl x = none := fun x hx => fresh_of sb2 (fa0 x hx)
  have egx0 := new_keep fa0 fra0 egx0
  have egx1 := new_keep fa0 fra0 egx1
  have scb0 : Sub bl cb0 := fun x y hx => new_keep fa0 fra0 (sb2 x y hx)
  try simp [egx0, egx1, c1, c2, c3, c4]
  intro gx2 hgx2 hbgx2
  have z_gx2_gx0 : gx0 ≠ gx2 := fun e => by rw [← e, egx0] at hbgx2; cases hbgx2
  have z_gx2_gx1 : gx1 ≠ gx2 := fun e => by rw [← e, egx1] at hbgx2; cases hbgx2
  try simp [z_gx2_gx0, Ne.symm z_gx2_gx0, z_gx2_gx1, Ne.symm z_gx2_gx1, egx0, egx1]
  have kp := kp_of (bl := cb0) hbgx2 (some ⟨2, [[va0a, va0b]]⟩)
  have egx2 : upd cb0 gx2 (some ⟨2, [[va0a, va0b]]⟩) gx2 = some ⟨2, [[va0a, va0b]]⟩ := by simp
  have sb3 : Sub bl (upd cb0 gx2 (some ⟨2, [[va0a, va0b]]⟩)) := fun x y hx => kp x y (scb0 x y hx)
  generalize upd cb0 gx2 (some ⟨2, [[va0a, va0b]]⟩) = b3 at *
  have egx0 := kp _ _ egx0
  have egx1 := kp _ _ egx1
  have m_gx2_ga0 : gx2 ∉ ga0 := oa0.not hbgx2
  have oa0 := oa0.keep (bl' := b3) fun x _ y hy => kp x y hy
  clear kp
  try simp [egx0, egx1, egx2, c1, c2, c3, c4]
  refine callP_new (toRatS_nw q qq) fun va1 ga1 cb1 oa1 fa1 fra1 => ?_
  obtain ⟨c1, c2⟩ := own_rs1 oa1
  have m_gx0_ga1 : gx0 ∉ ga1 := fun hh => by have hz := fa1 _ hh; rw [egx0] at hz; cases hz
  have m_gx1_ga1 : gx1 ∉ ga1 := fun hh => by have hz := fa1 _ hh; rw [egx1] at hz; cases hz
  have m_gx2_ga1 : gx2 ∉ ga1 := fun hh => by have hz := fa1 _ hh; rw [egx2] at hz; cases hz
  have n_ga1_ga0 : ∀ x, x ∈ ga1 → x ∉ ga0 := fun x hx => oa0.not (fa1 x hx)
  have fr_ga1 : ∀ x, x ∈ ga1 → bl x = none := fun x hx => fresh_of sb3 (fa1 x hx)
  have egx0 := new_keep fa1 fra1 egx0
  have egx1 := new_keep fa1 fra1 egx1
  have egx2 := new_keep fa1 fra1 egx2
  have oa0 := oa0.keep (bl' := cb1) fun x _ y hy => new_keep fa1 fra1 hy
  have scb1 : Sub bl cb1 := fun x y hx => new_keep fa1 fra1 (sb3 x y hx)
  try simp [egx0, egx1, egx2, c1, c2]
  refine callP_lend 3 (ys := [.agg s.c, .int .i64 k, .sl (rv q)]) (by simp [frz_str oa0 1, frz_rs oa1 1]; try simp [frz]) hI (dT_sc _ _) fun vr gr d0 oT fr0 frr0 => ?_
  obtain ⟨vs, rfl, oR⟩ := own_dT.1 oT
  clear oT
  obtain ⟨rm, rd', rfl, p1, p2⟩ := own_rt1 oR
  have m_gx0_gr : gx0 ∉ gr := fun hh => by have hz := fr0 _ hh; rw [egx0] at hz; cases hz
  have m_gx1_gr : gx1 ∉ gr := fun hh => by have hz := fr0 _ hh; rw [egx1] at hz; cases hz
  have m_gx2_gr : gx2 ∉ gr := fun hh => by have hz := fr0 _ hh; rw [egx2] at hz; cases hz
  have n_gr_ga0 : ∀ x, x ∈ gr → x ∉ ga0 := fun x hx => oa0.not (fr0 x hx)
  have n_gr_ga1 : ∀ x, x ∈ gr → x ∉ ga1 := fun x hx => oa1.not (fr0 x hx)
  have fr_gr : ∀ x, x ∈ gr → bl x = none := fun x hx => fresh_of scb1 (fr0 x hx)
  have egx0 := new_keep fr0 frr0 egx0
  have egx1 := new_keep fr0 frr0 egx1
  have egx2 := new_keep fr0 frr0 egx2
  have oa0 := oa0.keep (bl' := d0) fun x _ y hy => new_keep fr0 frr0 hy
  have oa1 := oa1.keep (bl' := d0) fun x _ y hy => new_keep fr0 frr0 hy
  have sd0 : Sub bl d0 := fun x y hx => new_keep fr0 frr0 (scb1 x y hx)
  try simp [egx0, egx1, egx2, p1, p2]
  intro gx3 hgx3 hbgx3
  have z_gx3_gx0 : gx0 ≠ gx3 := fun e => by rw [← e, egx0] at hbgx3; cases hbgx3
  have z_gx3_gx1 : gx1 ≠ gx3 := fun e => by rw [← e, egx1] at hbgx3; cases hbgx3
  have z_gx3_gx2 : gx2 ≠ gx3 := fun e => by rw [← e, egx2] at hbgx3; cases hbgx3
  try simp [z_gx3_gx0, Ne.symm z_gx3_gx0, z_gx3_gx1, Ne.symm z_gx3_gx1, z_gx3_gx2, Ne.symm z_gx3_gx2, egx0, egx1, egx2]
  have kp := kp_of (bl := d0) hbgx3 (some ⟨3, [[.bool w.neg, rm, rd']]⟩)
  have egx3 : upd d0 gx3 (some ⟨3, [[.bool w.neg, rm, rd']]⟩) gx3 = some ⟨3, [[.bool w.neg, rm, rd']]⟩ := by simp
  have sb4 : Sub bl (upd d0 gx3 (some ⟨3, [[.bool w.neg, rm, rd']]⟩)) := fun x y hx => kp x y (sd0 x y hx)
  generalize upd d0 gx3 (some ⟨3, [[.bool w.neg, rm, rd']]⟩) = b4 at *
  have egx0 := kp _ _ egx0
  have egx1 := kp _ _ egx1
  have egx2 := kp _ _ egx2
  have m_gx3_ga0 : gx3 ∉ ga0 := oa0.not hbgx3
  have oa0 := oa0.keep (bl' := b4) fun x _ y hy => kp x y hy
  have m_gx3_ga1 : gx3 ∉ ga1 := oa1.not hbgx3
  have oa1 := oa1.keep (bl' := b4) fun x _ y hy => kp x y hy
  have m_gx3_gr : gx3 ∉ gr := oR.not hbgx3
  have oR := oR.keep (bl' := b4) fun x _ y hy => kp x y hy
  clear kp
  try simp [egx0, egx1, egx2, egx3, p1, p2]
  refine AW_way0 [(3, .loc gx0 2 0 0), (1, .int .i64 k), (2, .sl (rv q)), (10, .loc gx2 2 0 0), (11, va1), (8, .loc gx1 3 0 0), (9, .bool ob), (12, .loc gx3 3 0 0), (13, .bool ob)] _ b4 57 (.bool false) ⟨rfl, by simp, Sub.refl _⟩ rfl ?_ ?_
  · simp [egx0, egx1, egx2, egx3]
    refine callP_borrow 3 (ys := [.agg w.c, .agg w.c]) (by simp [frz_rtL oR 1]; simp [frz, RT.c, V.cl]) we rfl ?_
    simp
  try simp [egx0, egx1, egx2, egx3]
  refine AW_quiet mixedO (by kernel_rfl) ?_
  simp [egx0, egx1, egx2, egx3]
  refine hcQ_ro ts ?_
  try simp
  refine hcQ_of 3 (eqStructure_ro s s hs.js hs.ms) (by simp [frz_str oa0 1]; simp [frz, Str.c, V.cl]) rfl ?_
  try simp [egx0, egx1, egx2, egx3]
  refine callP_ro tq ?_
  try simp [egx0, egx1, egx2, egx3]
  refine callP_borrow 3 (ys := [.sl (rv q), .sl (rv q)]) (by simp [frz_rs oa1 1]; simp [frz]) (eqRatS_ro q qq) rfl ?_
  try simp [egx0, egx1, egx2, egx3]
  have bd0 : (mkN 1 s) ≤ 4611686018427387000 := by simp only [mkN]; omega
  refine markStructure_cp s 1 _ ga0 oa0 bd0 fun mb0 oa0 k0 => ?_
  have egx0 := k0 gx0 m_gx0_ga0 _ egx0
  have egx1 := k0 gx1 m_gx1_ga0 _ egx1
  have egx2 := k0 gx2 m_gx2_ga0 _ egx2
  have egx3 := k0 gx3 m_gx3_ga0 _ egx3
  have oa1 := oa1.keep (bl' := mb0) fun x hx y hy => k0 x (n_ga1_ga0 x hx) y hy
  have oR := oR.keep (bl' := mb0) fun x hx y hy => k0 x (n_gr_ga0 x hx) y hy
  have smb0 : Sub bl mb0 := fun x y hx => k0 x (fun h => by rw [fr_ga0 x h] at hx; cases hx) y (sb4 x y hx)
  try simp [egx0, egx1, egx2, egx3]
  have bd1 : (mkQsN (mkN 1 s) q) ≤ 4611686018427387000 := by simp only [mkN, mkQsN_sum]; omega
  refine markRatS_cp q (mkN 1 s) _ ga1 oa1 bd1 fun mb1 oa1 k1 => ?_
  have egx0 := k1 gx0 m_gx0_ga1 _ egx0
  have egx1 := k1 gx1 m_gx1_ga1 _ egx1
  have egx2 := k1 gx2 m_gx2_ga1 _ egx2
  have egx3 := k1 gx3 m_gx3_ga1 _ egx3
  have oa0 := oa0.keep (bl' := mb1) fun x hx y hy => k1 x (fun hh => n_ga1_ga0 x hh hx) y hy
  have oR := oR.keep (bl' := mb1) fun x hx y hy => k1 x (n_gr_ga1 x hx) y hy
  have smb1 : Sub bl mb1 := fun x y hx => k1 x (fun h => by rw [fr_ga1 x h] at hx; cases hx) y (smb0 x y hx)
  try simp [egx0, egx1, egx2, egx3]
  refine AW_way0 [(3, .loc gx0 2 0 0), (1, .int .i64 k), (2, .sl (rv q)), (10, .loc gx2 2 0 0), (11, va1), (8, .loc gx1 3 0 0), (9, .bool ob), (12, .loc gx3 3 0 0), (13, .bool ob), (14, .int .i64 ((mkQsN (mkN 1 s) q) : Nat))] _ mb1 86 (.bool false) ⟨rfl, by simp, Sub.refl _⟩ rfl ?_ ?_
  · simp [egx0, egx1, egx2, egx3]
    refine callP_borrow 3 (ys := [.agg w.c, .agg w.c]) (by simp [frz_rtL oR 1]; simp [frz, RT.c, V.cl]) we rfl ?_
    simp
  try simp [egx0, egx1, egx2, egx3]
  have bw : mkRN 1 w ≤ 4611686018427387000 := by unfold mkRN; omega
  refine markRat_cp w 1 _ gr oR bw fun f0 oR kr => ?_
  have egx0 := kr gx0 m_gx0_gr _ egx0
  have egx1 := kr gx1 m_gx1_gr _ egx1
  have egx2 := kr gx2 m_gx2_gr _ egx2
  have egx3 := kr gx3 m_gx3_gr _ egx3
  have oa0 := oa0.keep (bl' := f0) fun x hx y hy => kr x (fun hh => n_gr_ga0 x hh hx) y hy
  have oa1 := oa1.keep (bl' := f0) fun x hx y hy => kr x (fun hh => n_gr_ga1 x hh hx) y hy
  have sf0 : Sub bl f0 := fun x y hx => kr x (fun h => by rw [fr_gr x h] at hx; cases hx) y (smb1 x y hx)
  have hh := heldRat_ro w 1 bw
  have hneg : ¬ (mkRN 1 w : Int) < 0 := by omega
  try simp [egx0, egx1, egx2, egx3, hneg]
  refine callP_borrow 3 (ys := [.agg (mkR 1 w).c, .int .i64 1]) (by simp [frz_rtL oR 1, show (mkR 1 w).neg = w.neg from rfl]; simp [frz]) hh rfl ?_
  try simp [egx0, egx1, egx2, egx3, hneg]
  refine callP_ro ts ?_
  try simp [egx0, egx1, egx2, egx3]
  refine callP_ro tq ?_
  try simp [egx0, egx1, egx2, egx3]
  refine callP_ro hJ ?_
  try simp [egx0, egx1, egx2, egx3, RT.c]
  intro gx4 hgx4 hbgx4
  have z_gx4_gx0 : gx0 ≠ gx4 := fun e => by rw [← e, egx0] at hbgx4; cases hbgx4
  have z_gx4_gx1 : gx1 ≠ gx4 := fun e => by rw [← e, egx1] at hbgx4; cases hbgx4
  have z_gx4_gx2 : gx2 ≠ gx4 := fun e => by rw [← e, egx2] at hbgx4; cases hbgx4
  have z_gx4_gx3 : gx3 ≠ gx4 := fun e => by rw [← e, egx3] at hbgx4; cases hbgx4
  try simp [z_gx4_gx0, Ne.symm z_gx4_gx0, z_gx4_gx1, Ne.symm z_gx4_gx1, z_gx4_gx2, Ne.symm z_gx4_gx2, z_gx4_gx3, Ne.symm z_gx4_gx3, egx0, egx1, egx2, egx3]
  have kp := kp_of (bl := f0) hbgx4 (some ⟨3, [[.bool w.neg, .sl (iv w.m), .sl (iv w.d)]]⟩)
  have egx4 : upd f0 gx4 (some ⟨3, [[.bool w.neg, .sl (iv w.m), .sl (iv w.d)]]⟩) gx4 = some ⟨3, [[.bool w.neg, .sl (iv w.m), .sl (iv w.d)]]⟩ := by simp
  have sb5 : Sub bl (upd f0 gx4 (some ⟨3, [[.bool w.neg, .sl (iv w.m), .sl (iv w.d)]]⟩)) := fun x y hx => kp x y (sf0 x y hx)
  generalize upd f0 gx4 (some ⟨3, [[.bool w.neg, .sl (iv w.m), .sl (iv w.d)]]⟩) = b5 at *
  have egx0 := kp _ _ egx0
  have egx1 := kp _ _ egx1
  have egx2 := kp _ _ egx2
  have egx3 := kp _ _ egx3
  have m_gx4_ga0 : gx4 ∉ ga0 := oa0.not hbgx4
  have oa0 := oa0.keep (bl' := b5) fun x _ y hy => kp x y hy
  have m_gx4_ga1 : gx4 ∉ ga1 := oa1.not hbgx4
  have oa1 := oa1.keep (bl' := b5) fun x _ y hy => kp x y hy
  have m_gx4_gr : gx4 ∉ gr := oR.not hbgx4
  have oR := oR.keep (bl' := b5) fun x _ y hy => kp x y hy
  clear kp
  try simp [egx0, egx1, egx2, egx3, egx4]
  refine AW_way0 [(3, .loc gx0 2 0 0), (1, .int .i64 k), (2, .sl (rv q)), (10, .loc gx2 2 0 0), (11, va1), (8, .loc gx1 3 0 0), (9, .bool ob), (12, .loc gx3 3 0 0), (13, .bool ob), (15, .int .i64 (mkRN 1 w : Nat)), (17, .loc gx4 3 0 0), (18, .bool ob)] _ b5 115 (.bool false) ⟨rfl, by simp, Sub.refl _⟩ rfl ?_ ?_
  · simp [egx0, egx1, egx2, egx3, egx4]
    refine callP_ro we ?_
    simp
  try simp [egx0, egx1, egx2, egx3, egx4]
  refine callP_borrow 3 (ys := [.agg (mkR 1 w).c, .int .i64 1]) (by simp [frz_rtL oR 1, show (mkR 1 w).neg = w.neg from rfl]; simp [frz]) hh rfl ?_
  try simp [egx0, egx1, egx2, egx3, egx4, hneg]
  exact retRO [_] 0 rfl rfl sb5

end Go.Proofs.YthhjmaianlmfpaaGreat.Vm

namespace Go.Proofs.YthhjmaianlmfpaaGreat.lawStretchOf
open Go Go.RowKit Go.ChangeShapes Go.WideShapes Vm
theorem body (xs : List V) (h : ArgsOk Tryz.prog Tryz.f7.params.toList xs) : RO Tryz.prog 7 xs (.bool true) := by
  rw [Tryz.params7] at h
  obtain ⟨c0, ys, rfl, h0, h⟩ := args_cons h
  obtain ⟨c1, ys, rfl, h1, h⟩ := args_cons h
  obtain ⟨c2, ys, rfl, h2, h⟩ := args_cons h
  obtain rfl := args_nil h
  obtain ⟨x0, rfl, y0⟩ := str_of_co h0
  obtain ⟨x1, rfl, y1⟩ := co_int Tryz.underlying3 h1
  obtain ⟨x2, rfl, y2⟩ := rv_of_co h2
  rw [toV_struct Tryz.underlying25, toV_int Tryz.underlying3, toV_slice Tryz.underlying26]
  exact law_StretchOf_ro x0 x1 x2 ⟨y0.js, y0.ms, y0.names⟩ (wf_i64 y1) (fitQ_mono y2 (by omega))
set_option maxRecDepth 100000 in
theorem lifted (os : Os) (started : os.Started) (H : Type) (enc : TypeId × Value → H) :
    ReturnsInHanded {} Tryz.checked os 7 .any (Rows.fnExactStretchOfSpec.pre6 enc Tryz.prog Tryz.f7 Rows.fnExactStretchOfRow.domain false) (Rows.fnExactStretchOfSpec.post enc Tryz.prog Tryz.f7 false true false false) := by
  refine returnsInHanded_of_change_sized (C := Tryz.checked) own started (by kernel_rfl) Tryz.func7
    (ChangeSpec.witness6 (enc := enc) (C := Tryz.checked) false ⟨#[], #[.agg #[.slice none 0 0, .slice none 0 0], .int .i64 0, .slice none 0 0], []⟩ 8 (by kernel_rfl) (by kernel_rfl) (by kernel_rfl) (by kernel_rfl)) ?_
  intro W base args ds gs before hval hW hcnd hsz _
  refine law_calls (tb := 4) rfl rfl Tryz.underlying4 laidOut (by kernel_rfl) (fun ds hds => ?_) body W base args ds gs before hval hW hsz
  rw [Tryz.params7] at hds
  first
    | (match ds, hds with | [a], _ => rfl)
    | (match ds, hds with | [a, b], _ => rfl)
    | (match ds, hds with | [a, b, c], _ => rfl)
    | (match ds, hds with | [a, b, c, d], _ => rfl)
    | (match ds, hds with | [a, b, c, d, e], _ => rfl)
    | (match ds, hds with | [a, b, c, d, e, f], _ => rfl)
theorem over : Rows.fnExactStretchOfRow.holds Tryz.pinned (OpenSpec.ofChange Rows.fnExactStretchOfSpec) :=
  OpenClaim.holds_of_wide 7 Tryz.f7 rfl rfl rfl rfl rfl rfl rfl ⟨rfl, rfl, rfl, rfl, rfl⟩ rfl rfl rfl rfl rfl (by kernel_rfl) Tryz.func7 (facts (by kernel_rfl))
    (of_decide_eq_true (by kernel_rfl)) (by unfold Func.isWrapper; first | (rw [if_pos (by decide +kernel)]; kernel_rfl) | (rw [if_neg (by decide +kernel)]; exact ⟨rfl, rfl⟩))
    (fun os started H enc _ => lifted os started H enc)
theorem proved : Rows.FnExactStretchOfSaid := over
#print axioms proved
end Go.Proofs.YthhjmaianlmfpaaGreat.lawStretchOf
