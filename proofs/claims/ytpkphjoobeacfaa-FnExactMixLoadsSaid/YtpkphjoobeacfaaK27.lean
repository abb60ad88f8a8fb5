/- PutLoad. -/
import Derived.Test.YtpkphjoobeacfaaK25
import Derived.Test.YtpkphjoobeacfaaK26
namespace Go.Proofs.Ytpkphjoobeacfaa.Vm
open Go Go.Proofs
set_option linter.unusedSimpArgs false
set_option linter.unusedVariables false

theorem iv_set (l : List Int) (k : Nat) (v : Int) : (iv l).set k [.int .i64 v] = iv (l.set k v) := by
  unfold iv; rw [List.map_set]
theorem all_set2 {p : Int → Bool} {l : List Int} {a b : Nat} {v w : Int} (h : l.all p = true) (ha : a < l.length) (hb : b < l.length) (hab : a ≠ b) : ((l.set a v).set b w).all p = (p v && p w) := by
  rw [Bool.eq_iff_iff, Bool.and_eq_true, List.all_eq_true]
  constructor
  · intro h1
    refine ⟨h1 v ?_, h1 w ?_⟩
    · refine List.mem_iff_getElem.2 ⟨a, by simpa using ha, ?_⟩
      rw [List.getElem_set_ne (Ne.symm hab), List.getElem_set_self]
    · exact List.mem_iff_getElem.2 ⟨b, by simpa using hb, List.getElem_set_self _⟩
  · rintro ⟨h1, h2⟩ x hx
    rcases List.mem_or_eq_of_mem_set hx with hx | rfl
    · rcases List.mem_or_eq_of_mem_set hx with hx | rfl
      · exact List.all_eq_true.1 h x hx
      · exact h1
    · exact h2

def putOk (s : Str) (l : List Int) (j x y : Int) : Bool := lOk s l && (decide (0 ≤ j) && decide (j < s.js.length)) && (decide (-200 ≤ x) && decide (x ≤ 200)) && (decide (-200 ≤ y) && decide (y ≤ 200)) &&
  forceOk (lat l (2 * j.toNat) + x) && forceOk (lat l (2 * j.toNat + 1) + y)
def put1 (l : List Int) (j x : Int) : List Int := l.set (2 * j.toNat) (lat l (2 * j.toNat) + x)
def put2 (l : List Int) (j x y : Int) : List Int := (put1 l j x).set (2 * j.toNat + 1) (lat l (2 * j.toNat + 1) + y)
def putL (s : Str) (l : List Int) (j x y : Int) : List Int := if putOk s l j x y = true then put2 l j x y else []
def dOpt (ns : List Int) (b : Bool) : D := .t [fl 1 (iv ns), .c (.bool b)]
theorem own_opt {bl : Int → Option Blk} {ns : List Int} {b : Bool} {v : V} {gs : List Int} : OwnD bl (dOpt ns b) v gs ↔ ∃ u, v = .tup [u, .bool b] ∧ OwnD bl (fl 1 (iv ns)) u gs := by
  unfold dOpt
  rw [OwnD]
  constructor
  · rintro ⟨vs, rfl, h⟩
    obtain ⟨u, w, g1, g2, rfl, rfl, _, h1, h2⟩ := own_pair.1 h
    rw [OwnD] at h2
    obtain ⟨rfl, _, rfl⟩ := h2
    exact ⟨u, rfl, by simpa using h1⟩
  · rintro ⟨u, rfl, h⟩
    exact ⟨_, rfl, own_pair.2 ⟨u, _, gs, [], rfl, by simp, by simp, h, by rw [OwnD]; exact ⟨rfl, rfl, rfl⟩⟩⟩
theorem dOpt_fz (ns : List Int) (b : Bool) : (dOpt ns b).fz = .tup [.sl (iv ns), .bool b] := by simp [dOpt, D.fz, D.fzL]
theorem dOpt_dep (ns : List Int) (b : Bool) : (dOpt ns b).dep 2 := by
  unfold dOpt; rw [D.dep]; refine ⟨by omega, ?_⟩; simp [D.depL, fl_dep, D.dep]
theorem dOpt_sc (ns : List Int) (b : Bool) : (dOpt ns b).sc = true := by
  simp [dOpt, D.sc, D.scL, fl_sc (iv_ow _), V.ow]

theorem impl_PutLoad_nw (s : Str) (l : List Int) (j x y : Int) (hs : s.sz) (hl : l.length ≤ 1048576) (hx : -9223372036854775808 ≤ x ∧ x ≤ 9223372036854775807) (hy : -9223372036854775808 ≤ y ∧ y ≤ 9223372036854775807) :
    NW Try.prog 45 [.agg s.c, .sl (iv l), .int .i64 j, .int .i64 x, .int .i64 y] (dOpt (putL s l j x y) (putOk s l j x y)) := by
  refine nw_of Try.func45 rfl rfl (by rw [Try.ntmps45]; simp) fun bl => ?_
  rw [Try.ntmps45, Try.results45]
  refine AW_run ?_
  simp [Str.c]
  intro g hg0 hg
  refine AW_way0 [(1, .sl (iv l)), (2, .int .i64 j), (3, .int .i64 x), (4, .int .i64 y), (5, .loc g 2 0 0)] _ _ 29 (.bool (!(lOk s l && (decide (0 ≤ j) && decide (j < s.js.length))))) ⟨rfl, by simp, Sub.refl _⟩ rfl ?_ ?_
  · simp
    refine callP_ro (impl_LoadOk_ro s l hs.js hs.ms hs.nm (by omega)) ?_
    simp
    refine ⟨fun h => by simp [h], fun h => ?_⟩
    simp [h]
    grind
  simp
  refine ⟨fun h => ?_, fun h h1 h2 => ?_⟩
  · have hn : putOk s l j x y = false := by
      unfold putOk
      cases h3 : lOk s l <;> simp
      intro h4 h5; rcases h with (h | h)
      · rw [h3] at h; cases h
      · omega
    refine retNW [.nils, .bool false] [] rfl (own_opt.2 ⟨.nils, by simp [hn], ?_⟩) (by simp) (by simp [hg])
    exact own_iv.2 (.inl ⟨by simp [putL, hn], rfl, rfl⟩)
  have h0 := lOk_of h
  have h6 := h0.sok.nj
  have hn := h0.n
  obtain ⟨k, rfl⟩ := Int.eq_ofNat_of_zero_le h1
  simp at h2
  refine callP_new (Clone_ints_nw l hl) fun v gs b1 o f fr => ?_
  have hS1 : Sub bl b1 := fun z b hz => by
    have z1 : z ≠ g := fun e => by rw [e, hg] at hz; cases hz
    exact new_keep f fr (by simp [upd_apply, z1, hz])
  rcases own_iv.1 o with ⟨rfl, _, _⟩ | ⟨gl, rfl, rfl, hbl, hneg⟩
  · simp at hn; omega
  have hge : 0 ≤ gl := by
    rcases Int.lt_or_le gl 0 with h | h
    · have := hneg h; subst this; simp at hn; omega
    · exact h
  have hgl : bl gl = none := by have := f gl (by simp); simp [upd_apply] at this; exact this.2
  simp
  intro gx hgx hbx
  have hxl : gx ≠ gl := fun e => by rw [e, hbl] at hbx; cases hbx
  have hxn := fresh_of hS1 hbx
  have e0 : (2 * (k : Int)).toNat = 2 * k := by omega
  have e1 : (2 * (k : Int) + 1).toNat = 2 * k + 1 := by omega
  have w0 : IntKind.i64.wrap (2 * (k : Int)) = 2 * k := i64_in (by omega) (by omega)
  have w1 : IntKind.i64.wrap (2 * (k : Int) + 1) = 2 * k + 1 := i64_in (by omega) (by omega)
  have c0 : (0 : Int) ≤ 2 * k := by omega
  have c1 : (0 : Int) ≤ 2 * (k : Int) + 1 := by omega
  have d0 : 2 * (k : Int) < l.length := by omega
  have d1 : 2 * (k : Int) + 1 < l.length := by omega
  have q0 := iv_at (l := l) (i := 2 * k) (by omega)
  have q1 := iv_at (l := put1 l k x) (i := 2 * k + 1) (by simp [put1]; omega)
  have q1' : lat (put1 l k x) (2 * k + 1) = lat l (2 * k + 1) := by simp [lat, put1, List.getElem?_set]
  rw [q1'] at q1
  have b0 := h0.f (2 * k) (by omega)
  have b1' := h0.f (2 * k + 1) (by omega)
  refine AW_for (fun i : Nat => [(2, .int .i64 k), (12, .lsl gl 1 0 l.length), (34, .lsl gx 1 0 2), (35, .int .i64 2), (36, .int .i64 i)])
    (fun i => upd (upd b1 gx (some ⟨1, [[.int .i64 x], [.int .i64 y]]⟩)) gl (some ⟨1, iv (if i = 0 then l else if i = 1 then put1 l k x else put2 l k x y)⟩))
    (fun i => i ≤ 2 ∧ (1 ≤ i → (-200 ≤ x ∧ x ≤ 200) ∧ forceOk (lat l (2 * k) + x) = true) ∧ (2 ≤ i → (-200 ≤ y ∧ y ≤ 200) ∧ forceOk (lat l (2 * k + 1) + y) = true)) (fun i => 2 - i) 72 0 ⟨by omega, by omega, by omega⟩ ?_ ?_
  · refine ⟨rfl, by simp, ?_⟩
    intro z b hz
    have er : List.range 2 = [0, 1] := rfl
    simp only [upd_apply] at hz ⊢
    simp [er] at hz ⊢
    grind
  have wr1 : IntKind.i64.wrap 1 = 1 := i64_in (by omega) (by omega)
  have wr2 : IntKind.i64.wrap 2 = 2 := i64_in (by omega) (by omega)
  rintro i ⟨hi, hi1, hi2⟩
  refine AW_run ?_
  have fail : ∀ σ : St, putOk s l k x y = false → σ.n = 72 → σ.sl 10 = .nils → σ.sl 11 = .bool false → Sub bl σ.bl → retK Try.prog [.tmp 10, .tmp 11] (MadeK bl (dOpt (putL s l k x y) (putOk s l k x y))) .ret σ := by
    intro σ hno h72 h10 h11 hsub
    refine retNW [.nils, .bool false] [] (by simp [h72, h10, h11]) (own_opt.2 ⟨.nils, by simp [hno], ?_⟩) (by simp) hsub
    exact own_iv.2 (.inl ⟨by simp [putL, hno], rfl, rfl⟩)
  have sub0 : ∀ X, Sub bl (upd (upd b1 gx (some ⟨1, [[.int .i64 x], [.int .i64 y]]⟩)) gl X) := fun X => by simp [hgl, hxn]; exact hS1
  obtain rfl | rfl | rfl : i = 0 ∨ i = 1 ∨ i = 2 := by omega
  · simp [hxl, Ne.symm hxl]
    refine AW_way0 [(2, .int .i64 k), (12, .lsl gl 1 0 l.length), (34, .lsl gx 1 0 2), (35, .int .i64 2), (36, .int .i64 0), (13, .int .i64 0), (14, .int .i64 x)] _ _ 59 (.bool (!((decide (-200 ≤ x) && decide (x ≤ 200)) && forceOk (lat l (2 * k) + x)))) ⟨rfl, by simp, Sub.refl _⟩ rfl ?_ ?_
    · simp [hxl, Ne.symm hxl]
      refine ⟨fun h => by grind, fun h => ⟨fun h' => by grind, fun h' => ?_⟩⟩
      have w2 : IntKind.i64.wrap (lat l (2 * k) + x) = lat l (2 * k) + x := i64_in (by omega) (by omega)
      simp [-iv_get, hxl, Ne.symm hxl, w0, e0, c0, d0, q0, w2]
      refine callP_ro (isForce_ro _) ?_
      simp
      rw [Bool.eq_iff_iff]; simp; omega
    simp
    refine ⟨fun h => ?_, fun h3 h4 h5 => ?_⟩
    · refine fail _ ?_ rfl rfl rfl (sub0 _)
      unfold putOk
      simp
      grind
    · have w2 : IntKind.i64.wrap (lat l (2 * k) + x) = lat l (2 * k) + x := i64_in (by omega) (by omega)
      simp [-iv_get, hxl, Ne.symm hxl, w0, e0, c0, d0, q0, w2, iv_set, loopQ_normal]
      exact ⟨1, ⟨by omega, fun _ => ⟨⟨h3, h4⟩, h5⟩, by omega⟩, by omega, rfl, by simp [wr1], sub_eq (by simp [put1])⟩
  · obtain ⟨⟨h3, h4⟩, h5⟩ := hi1 (by omega)
    simp [hxl, Ne.symm hxl]
    have lp : (put1 l k x).length = l.length := by simp [put1]
    refine AW_way0 [(2, .int .i64 k), (12, .lsl gl 1 0 l.length), (34, .lsl gx 1 0 2), (35, .int .i64 2), (36, .int .i64 1), (13, .int .i64 1), (14, .int .i64 y)] _ _ 59 (.bool (!((decide (-200 ≤ y) && decide (y ≤ 200)) && forceOk (lat l (2 * k + 1) + y)))) ⟨rfl, by simp, Sub.refl _⟩ rfl ?_ ?_
    · simp [hxl, Ne.symm hxl]
      refine ⟨fun h => by grind, fun h => ⟨fun h' => by grind, fun h' => ?_⟩⟩
      have w2 : IntKind.i64.wrap (lat l (2 * k + 1) + y) = lat l (2 * k + 1) + y := i64_in (by omega) (by omega)
      simp [-iv_get, hxl, Ne.symm hxl, w0, w1, e1, c1, d1, q1, w2]
      refine callP_ro (isForce_ro _) ?_
      simp
      rw [Bool.eq_iff_iff]; simp; omega
    simp
    refine ⟨fun h => ?_, fun h6' h7 h8 => ?_⟩
    · refine fail _ ?_ rfl rfl rfl (sub0 _)
      unfold putOk
      simp
      grind
    · have w2 : IntKind.i64.wrap (lat l (2 * k + 1) + y) = lat l (2 * k + 1) + y := i64_in (by omega) (by omega)
      simp [-iv_get, hxl, Ne.symm hxl, w0, w1, e1, c1, d1, q1, w2, iv_set, loopQ_normal]
      exact ⟨2, ⟨by omega, fun _ => ⟨⟨h3, h4⟩, h5⟩, fun _ => ⟨⟨h6', h7⟩, h8⟩⟩, by omega, rfl, by simp [wr2], sub_eq (by simp [put2])⟩
  · obtain ⟨⟨h3, h4⟩, h5⟩ := hi1 (by omega)
    obtain ⟨⟨h6', h7⟩, h8⟩ := hi2 (by omega)
    have hok : putOk s l k x y = true := by
      unfold putOk
      simp [h, h2, h3, h4, h5, h6', h7, h8]
    simp
    refine retNW [.lsl gl 1 0 l.length, .bool true] [gl] (by simp) (own_opt.2 ⟨_, by simp [hok]; rfl, ?_⟩) (by simpa using hgl) (sub0 _)
    exact own_iv.2 (.inr ⟨gl, by simp [putL, hok, put2, put1], rfl, by simp [putL, hok], by omega⟩)

end Go.Proofs.Ytpkphjoobeacfaa.Vm
