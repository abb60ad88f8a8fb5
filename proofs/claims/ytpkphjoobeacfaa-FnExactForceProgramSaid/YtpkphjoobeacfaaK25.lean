/- TotalOf, MomentOf. -/
import Derived.Test.YtpkphjoobeacfaaK24
namespace Go.Proofs.Ytpkphjoobeacfaa.Vm
open Go Go.Proofs
set_option linter.unusedSimpArgs false
set_option linter.unusedVariables false

/-- A number of a load. -/
def lat (l : List Int) (i : Nat) : Int := l.getD i 0
theorem iv_at {l : List Int} {i : Nat} (h : i < l.length) : (iv l)[i]? = some [.int .i64 (lat l i)] := by simp [lat, h]
structure LOk (s : Str) (l : List Int) : Prop where
  sok : SOk s
  n : l.length = 2 * s.js.length
  f : ∀ i, i < l.length → -100 ≤ lat l i ∧ lat l i ≤ 100
theorem fitsL_of {js : List J} {l : List Int} (h : fitsL js l = true) : l.length = 2 * js.length ∧ ∀ i, i < l.length → -100 ≤ lat l i ∧ lat l i ≤ 100 := by
  unfold fitsL at h
  simp only [Bool.and_eq_true, decide_eq_true_eq] at h
  refine ⟨h.1, fun i hi => ?_⟩
  have := List.all_eq_true.1 h.2 l[i] (List.getElem_mem hi)
  simp [forceOk] at this
  simpa [lat, hi] using this
theorem lOk_of {s : Str} {l : List Int} (h : lOk s l = true) : LOk s l := by
  unfold lOk at h
  simp only [Bool.and_eq_true] at h
  obtain ⟨h1, h2⟩ := fitsL_of h.2
  exact ⟨sOk_of h.1, h1, h2⟩

def sumX (l : List Int) : Nat → Int
  | 0 => 0
  | n + 1 => sumX l n + lat l (2 * n)
def sumY (l : List Int) : Nat → Int
  | 0 => 0
  | n + 1 => sumY l n + lat l (2 * n + 1)
theorem sumX_le {s : Str} {l : List Int} (h : LOk s l) : ∀ n, n ≤ s.js.length → -(100 * n : Int) ≤ sumX l n ∧ sumX l n ≤ 100 * n
  | 0, _ => by simp [sumX]
  | n + 1, hn => by
    have := sumX_le h n (by omega)
    have := h.f (2 * n) (by have := h.n; omega)
    simp only [sumX]; omega
theorem sumY_le {s : Str} {l : List Int} (h : LOk s l) : ∀ n, n ≤ s.js.length → -(100 * n : Int) ≤ sumY l n ∧ sumY l n ≤ 100 * n
  | 0, _ => by simp [sumY]
  | n + 1, hn => by
    have := sumY_le h n (by omega)
    have := h.f (2 * n + 1) (by have := h.n; omega)
    simp only [sumY]; omega
def totX (s : Str) (l : List Int) : Int := if lOk s l = true then sumX l s.js.length else 0
def totY (s : Str) (l : List Int) : Int := if lOk s l = true then sumY l s.js.length else 0

theorem impl_TotalOf_ro (s : Str) (l : List Int) (hs : s.sz) (hl : l.length ≤ 140737488351232) : RO Try.prog 44 [.agg s.c, .sl (iv l)] (.tup [.int .i64 (totX s l), .int .i64 (totY s l)]) := by
  refine ro_of2 Try.func44 rfl rfl (by rw [Try.ntmps44]; simp) fun bl => ?_
  rw [Try.ntmps44, Try.results44]
  refine AW_run ?_
  simp [Str.c]
  intro g hg0 hg
  refine callP_ro (impl_LoadOk_ro s l hs.js hs.ms hs.nm hl) ?_
  simp
  refine ⟨fun h => ?_, fun h => ?_⟩
  · exact retRO [_, _] 1 rfl (by simp [frz, V.cl, totX, totY, h]) (by simp [hg])
  have h0 := lOk_of h
  have h6 := h0.sok.nj
  have hn := h0.n
  refine AW_for (fun i : Nat => [(1, .sl (iv l)), (6, .int .i64 (sumX l i)), (7, .int .i64 (sumY l i)), (14, .sl (jv s.js)), (15, .int .i64 s.js.length), (16, .int .i64 i)]) (fun _ => bl) (fun i => i ≤ s.js.length) (fun i => s.js.length - i) _ 0 (Nat.zero_le _) ⟨rfl, by simp [sumX, sumY], by simp [hg]⟩ ?_
  intro i hi
  have bx := sumX_le h0 i hi
  have by' := sumY_le h0 i hi
  refine AW_run ?_
  simp
  refine ⟨fun h1 => ?_, fun h1 => ?_⟩
  · have f1 := h0.f (2 * i) (by omega)
    have f2 := h0.f (2 * i + 1) (by omega)
    have e1 : (2 * (i : Int)).toNat = 2 * i := by omega
    have e2 : (2 * (i : Int) + 1).toNat = 2 * i + 1 := by omega
    have e3 : (0 : Int) ≤ 2 * (i : Int) := by omega
    have e4 : (0 : Int) ≤ 2 * (i : Int) + 1 := by omega
    simp (disch := omega) [-iv_get, h1, i64_in, e1, e2, e3, e4, iv_at]
    simp only [loopQ_normal]
    exact ⟨i + 1, by omega, by omega, rfl, by simp [sumX, sumY], by simp⟩
  · have : i = s.js.length := by omega
    subst this
    exact retRO [_, _] 1 rfl (by simp [frz, V.cl, totX, totY, h]) (Sub.refl _)

theorem spec_TotalOf_ro (s : Str) (l : List Int) (hs : s.sz) (hl : l.length ≤ 140737488351232) : RO Try.prog 58 [.agg s.c, .sl (iv l)] (.tup [.int .i64 (totX s l), .int .i64 (totY s l)]) := by
  refine ro_of2 Try.func58 rfl rfl (by rw [Try.ntmps58]; simp) fun bl => ?_
  rw [Try.ntmps58, Try.results58]
  refine AW_run ?_
  simp [Str.c]
  intro g hg0 hg
  refine callP_ro (spec_LoadOk_ro s l hs.js hs.ms hs.nm hl) ?_
  simp
  refine ⟨fun h => ?_, fun h => ?_⟩
  · exact retRO [_, _] 1 rfl (by simp [frz, V.cl, totX, totY, h]) (by simp [hg])
  have h0 := lOk_of h
  have h6 := h0.sok.nj
  have hn := h0.n
  refine AW_for (fun i : Nat => [(1, .sl (iv l)), (6, .int .i64 (sumX l i)), (7, .int .i64 (sumY l i)), (14, .sl (jv s.js)), (15, .int .i64 s.js.length), (16, .int .i64 i)]) (fun _ => bl) (fun i => i ≤ s.js.length) (fun i => s.js.length - i) _ 0 (Nat.zero_le _) ⟨rfl, by simp [sumX, sumY], by simp [hg]⟩ ?_
  intro i hi
  have bx := sumX_le h0 i hi
  have by' := sumY_le h0 i hi
  refine AW_run ?_
  simp
  refine ⟨fun h1 => ?_, fun h1 => ?_⟩
  · have f1 := h0.f (2 * i) (by omega)
    have f2 := h0.f (2 * i + 1) (by omega)
    have e1 : (2 * (i : Int)).toNat = 2 * i := by omega
    have e2 : (2 * (i : Int) + 1).toNat = 2 * i + 1 := by omega
    have e3 : (0 : Int) ≤ 2 * (i : Int) := by omega
    have e4 : (0 : Int) ≤ 2 * (i : Int) + 1 := by omega
    simp (disch := omega) [-iv_get, h1, i64_in, e1, e2, e3, e4, iv_at]
    simp only [loopQ_normal]
    exact ⟨i + 1, by omega, by omega, rfl, by simp [sumX, sumY], by simp⟩
  · have : i = s.js.length := by omega
    subst this
    exact retRO [_, _] 1 rfl (by simp [frz, V.cl, totX, totY, h]) (Sub.refl _)

theorem law_TotalOf_ro (s : Str) (l : List Int) (hs : s.sz) (hl : l.length ≤ 140737488351232) :
    RO Try.prog 15 [.agg s.c, .sl (iv l)] (.bool true) := by
  refine ro_of2 Try.func15 rfl rfl (by rw [Try.ntmps15]; simp) fun bl => ?_
  rw [Try.ntmps15, Try.results15]
  refine AW_run ?_
  simp [Str.c]
  intro g hg0 hg
  refine ⟨fun h => ?_, fun hl1 => ?_⟩
  · exact retRO [_] 0 rfl rfl (by simp [hg])
  have hl2 : l.length ≤ 1048576 := by omega
  have hv := toIntS_ro l hl2
  refine callP_ro (szStructure_ro s _ (by omega) hs.js hs.ms hs.nm) ?_
  try simp
  refine ⟨fun h => ?_, fun h => ?_⟩
  · exact retRO [_] 0 rfl rfl (by simp [hg])
  obtain ⟨l1, l2, _⟩ := szStr_le (s := s) (left := 1048576) (by omega) h
  have hc := toStructure_ro s (by omega) (by omega)
  refine callP_ro hc ?_
  try simp
  refine callP_ro hv ?_
  try simp
  refine callP_ro (spec_TotalOf_ro s l hs hl) ?_
  try simp
  refine callP_ro hc ?_
  simp [Str.c]
  intro g2 hg2 h2 hb2
  try simp [h2, Ne.symm h2]
  refine callP_ro hv ?_
  try simp [h2, Ne.symm h2]
  refine callP_ro (impl_TotalOf_ro s l hs hl) ?_
  try simp
  refine AW_way0 [(1, .sl (iv l)), (2, .loc g 2 0 0), (8, .loc g2 2 0 0), (9, .sl (iv l)), (10, .int .i64 (totX s l)), (6, .int .i64 (totX s l)), (11, .int .i64 (totY s l)), (7, .int .i64 (totY s l))] _ _ 45 (.bool false) ⟨rfl, by simp, Sub.refl _⟩ rfl (by simp) ?_
  simp
  refine AW_quiet mixedO (by kernel_rfl) ?_
  simp [h2, Ne.symm h2]
  refine hcQ_ro hc ?_
  try simp
  refine hcQ_ro (eqStructure_ro s s hs.js hs.ms) ?_
  try simp
  refine callP_ro hv ?_
  try simp
  refine callP_ro (eqIntS_ro l l hl) ?_
  try simp
  exact retRO [_] 0 rfl rfl (by simp [hg, hb2])

def momTo (s : Str) (l : List Int) (x y : Int) : Nat → Int
  | 0 => 0
  | n + 1 => momTo s l x y n + ((jat s.js n).x - x) * lat l (2 * n + 1) - ((jat s.js n).y - y) * lat l (2 * n)
theorem mul_le {a b p q : Int} (ha : -p ≤ a ∧ a ≤ p) (hb : -q ≤ b ∧ b ≤ q) : -(p * q) ≤ a * b ∧ a * b ≤ p * q := by
  have hp : 0 ≤ p := by omega
  have hq : 0 ≤ q := by omega
  have h1 : a.natAbs ≤ p.natAbs := by omega
  have h2 : b.natAbs ≤ q.natAbs := by omega
  have h3 : (a * b).natAbs ≤ (p * q).natAbs := by rw [Int.natAbs_mul, Int.natAbs_mul]; exact Nat.mul_le_mul h1 h2
  have h4 : 0 ≤ p * q := Int.mul_nonneg hp hq
  omega
theorem mom_step {s : Str} {l : List Int} {x y : Int} (h : LOk s l) (hx : -1000 ≤ x ∧ x ≤ 1000) (hy : -1000 ≤ y ∧ y ≤ 1000) {n : Nat} (hn : n < s.js.length) :
    (-1050 ≤ (jat s.js n).x - x ∧ (jat s.js n).x - x ≤ 1050) ∧ (-1050 ≤ (jat s.js n).y - y ∧ (jat s.js n).y - y ≤ 1050) ∧
    (-105000 ≤ ((jat s.js n).x - x) * lat l (2 * n + 1) ∧ ((jat s.js n).x - x) * lat l (2 * n + 1) ≤ 105000) ∧ (-105000 ≤ ((jat s.js n).y - y) * lat l (2 * n) ∧ ((jat s.js n).y - y) * lat l (2 * n) ≤ 105000) := by
  have c := h.sok.at (n := n) (by omega) (by omega)
  have f1 := h.f (2 * n) (by have := h.n; omega)
  have f2 := h.f (2 * n + 1) (by have := h.n; omega)
  have a1 : -1050 ≤ (jat s.js n).x - x ∧ (jat s.js n).x - x ≤ 1050 := by omega
  have a2 : -1050 ≤ (jat s.js n).y - y ∧ (jat s.js n).y - y ≤ 1050 := by omega
  have m1 := mul_le a1 f2
  have m2 := mul_le a2 f1
  refine ⟨a1, a2, ?_, ?_⟩ <;> omega
theorem mom_le {s : Str} {l : List Int} {x y : Int} (h : LOk s l) (hx : -1000 ≤ x ∧ x ≤ 1000) (hy : -1000 ≤ y ∧ y ≤ 1000) : ∀ n, n ≤ s.js.length → -(210000 * n : Int) ≤ momTo s l x y n ∧ momTo s l x y n ≤ 210000 * n
  | 0, _ => by simp [momTo]
  | n + 1, hn => by
    have := mom_le h hx hy n (by omega)
    have := mom_step h hx hy (n := n) (by omega)
    simp only [momTo]; omega
def momOk (s : Str) (l : List Int) (x y : Int) : Bool := lOk s l && (decide (-1000 ≤ x) && decide (x ≤ 1000)) && (decide (-1000 ≤ y) && decide (y ≤ 1000))
def momOf (s : Str) (l : List Int) (x y : Int) : Int := if momOk s l x y = true then momTo s l x y s.js.length else 0
theorem jat_nat {js : List J} {i : Nat} (h : i < js.length) : jat js i = js[i] := by simp [jat, h]

theorem impl_MomentOf_ro (s : Str) (l : List Int) (x y : Int) (hs : s.sz) (hl : l.length ≤ 140737488351232) : RO Try.prog 46 [.agg s.c, .sl (iv l), .int .i64 x, .int .i64 y] (.int .i64 (momOf s l x y)) := by
  refine ro_of2 Try.func46 rfl rfl (by rw [Try.ntmps46]; simp) fun bl => ?_
  rw [Try.ntmps46, Try.results46]
  refine AW_run ?_
  simp [Str.c]
  intro g hg0 hg
  refine AW_way0 [(1, .sl (iv l)), (2, .int .i64 x), (3, .int .i64 y), (4, .loc g 2 0 0)] _ _ 31 (.bool (!momOk s l x y)) ⟨rfl, by simp, Sub.refl _⟩ rfl ?_ ?_
  · simp
    refine callP_ro (impl_LoadOk_ro s l hs.js hs.ms hs.nm hl) ?_
    simp [momOk]
    refine ⟨fun h => by simp [h], fun h => ?_⟩
    simp [h]
    grind
  simp
  refine ⟨fun h => ?_, fun h => ?_⟩
  · exact retRO [_] 0 rfl (by simp [frz, momOf, h]) (by simp [hg])
  have hh := h
  unfold momOk at hh
  simp only [Bool.and_eq_true, decide_eq_true_eq] at hh
  obtain ⟨⟨hlo, hx⟩, hy⟩ := hh
  have h0 := lOk_of hlo
  have h6 := h0.sok.nj
  have hn := h0.n
  refine AW_for (fun i : Nat => [(1, .sl (iv l)), (2, .int .i64 x), (3, .int .i64 y), (9, .int .i64 (momTo s l x y i)), (33, .sl (jv s.js)), (34, .int .i64 s.js.length), (35, .int .i64 i)]) (fun _ => bl) (fun i => i ≤ s.js.length) (fun i => s.js.length - i) _ 0 (Nat.zero_le _) ⟨rfl, by simp [momTo], by simp [hg]⟩ ?_
  intro i hi
  have bm := mom_le h0 hx hy i hi
  refine AW_run ?_
  simp
  refine ⟨fun h1 => ?_, fun h1 => ?_⟩
  · have st := mom_step h0 hx hy h1
    rw [jat_nat h1] at st
    have e1 : (2 * (i : Int)).toNat = 2 * i := by omega
    have e2 : (2 * (i : Int) + 1).toNat = 2 * i + 1 := by omega
    have e3 : (0 : Int) ≤ 2 * (i : Int) := by omega
    have e4 : (0 : Int) ≤ 2 * (i : Int) + 1 := by omega
    simp [h1, J.c]
    intro g1 hg1 hb1
    refine AW_quiet mixedO (by kernel_rfl) ?_
    have w1 : IntKind.i64.wrap (2 * (i : Int)) = 2 * i := i64_in (by omega) (by omega)
    have w2 : IntKind.i64.wrap (2 * (i : Int) + 1) = 2 * i + 1 := i64_in (by omega) (by omega)
    have q1 := iv_at (l := l) (i := 2 * i) (by omega)
    have q2 := iv_at (l := l) (i := 2 * i + 1) (by omega)
    simp [-iv_get, h1, w1, w2, q1, q2, e1, e2, e3, e4]
    simp (disch := omega) [i64_in]
    simp only [loopQ_normal]
    refine ⟨i + 1, by omega, by omega, rfl, ?_, by simp [hb1]⟩
    simp [momTo, jat_nat h1]
    omega
  · have : i = s.js.length := by omega
    subst this
    exact retRO [_] 0 rfl (by simp [frz, momOf, h]) (Sub.refl _)

theorem spec_MomentOf_ro (s : Str) (l : List Int) (x y : Int) (hs : s.sz) (hl : l.length ≤ 140737488351232) : RO Try.prog 57 [.agg s.c, .sl (iv l), .int .i64 x, .int .i64 y] (.int .i64 (momOf s l x y)) := by
  refine ro_of2 Try.func57 rfl rfl (by rw [Try.ntmps57]; simp) fun bl => ?_
  rw [Try.ntmps57, Try.results57]
  refine AW_run ?_
  simp [Str.c]
  intro g hg0 hg
  refine AW_way0 [(1, .sl (iv l)), (2, .int .i64 x), (3, .int .i64 y), (4, .loc g 2 0 0), (9, .int .i64 0)] _ _ 25 (.bool (!momOk s l x y)) ⟨rfl, by simp, Sub.refl _⟩ rfl ?_ ?_
  · simp
    refine callP_ro (spec_LoadOk_ro s l hs.js hs.ms hs.nm hl) ?_
    simp [momOk]
    refine ⟨fun h => by simp [h], fun h => ?_⟩
    refine callP_ro (l01In_ro _ _ _) ?_
    simp [h]
    refine ⟨fun h2 => by grind, fun h2 h3 => ?_⟩
    refine callP_ro (l01In_ro _ _ _) ?_
    simp [h2, h3]
  simp
  refine ⟨fun h => ?_, fun h => ?_⟩
  · exact retRO [_] 0 rfl (by simp [frz, momOf, h]) (by simp [hg])
  have hh := h
  unfold momOk at hh
  simp only [Bool.and_eq_true, decide_eq_true_eq] at hh
  obtain ⟨⟨hlo, hx⟩, hy⟩ := hh
  have h0 := lOk_of hlo
  have h6 := h0.sok.nj
  have hn := h0.n
  refine AW_for (fun i : Nat => [(1, .sl (iv l)), (2, .int .i64 x), (3, .int .i64 y), (9, .int .i64 (momTo s l x y i)), (27, .sl (jv s.js)), (28, .int .i64 s.js.length), (29, .int .i64 i)]) (fun _ => bl) (fun i => i ≤ s.js.length) (fun i => s.js.length - i) _ 0 (Nat.zero_le _) ⟨rfl, by simp [momTo], by simp [hg]⟩ ?_
  intro i hi
  have bm := mom_le h0 hx hy i hi
  refine AW_run ?_
  simp
  refine ⟨fun h1 => ?_, fun h1 => ?_⟩
  · have st := mom_step h0 hx hy h1
    rw [jat_nat h1] at st
    have e1 : (2 * (i : Int)).toNat = 2 * i := by omega
    have e2 : (2 * (i : Int) + 1).toNat = 2 * i + 1 := by omega
    have e3 : (0 : Int) ≤ 2 * (i : Int) := by omega
    have e4 : (0 : Int) ≤ 2 * (i : Int) + 1 := by omega
    simp [h1, J.c]
    intro g1 hg1 hb1
    refine AW_quiet mixedO (by kernel_rfl) ?_
    have w1 : IntKind.i64.wrap (2 * (i : Int)) = 2 * i := i64_in (by omega) (by omega)
    have w2 : IntKind.i64.wrap (2 * (i : Int) + 1) = 2 * i + 1 := i64_in (by omega) (by omega)
    have q1 := iv_at (l := l) (i := 2 * i) (by omega)
    have q2 := iv_at (l := l) (i := 2 * i + 1) (by omega)
    simp [-iv_get, h1, w1, w2, q1, q2, e1, e2, e3, e4]
    simp (disch := omega) [i64_in]
    simp only [loopQ_normal]
    refine ⟨i + 1, by omega, by omega, rfl, ?_, by simp [hb1]⟩
    simp [momTo, jat_nat h1]
  · have : i = s.js.length := by omega
    subst this
    exact retRO [_] 0 rfl (by simp [frz, momOf, h]) (Sub.refl _)

theorem law_MomentOf_ro (s : Str) (l : List Int) (n0 : Int) (n1 : Int) (hs : s.sz) (hl : l.length ≤ 140737488351232) (hn0 : -9223372036854775808 ≤ n0 ∧ n0 ≤ 9223372036854775807) (hn1 : -9223372036854775808 ≤ n1 ∧ n1 ≤ 9223372036854775807) :
    RO Try.prog 14 [.agg s.c, .sl (iv l), .int .i64 n0, .int .i64 n1] (.bool true) := by
  refine ro_of2 Try.func14 rfl rfl (by rw [Try.ntmps14]; simp) fun bl => ?_
  rw [Try.ntmps14, Try.results14]
  refine AW_run ?_
  simp [Str.c]
  intro g hg0 hg
  refine ⟨fun h => ?_, fun hl1 => ?_⟩
  · exact retRO [_] 0 rfl rfl (by simp [hg])
  have hl2 : l.length ≤ 1048576 := by omega
  have hv := toIntS_ro l hl2
  refine callP_ro (szStructure_ro s _ (by omega) hs.js hs.ms hs.nm) ?_
  try simp
  refine ⟨fun h => ?_, fun h => ?_⟩
  · exact retRO [_] 0 rfl rfl (by simp [hg])
  obtain ⟨l1, l2, _⟩ := szStr_le (s := s) (left := 1048576) (by omega) h
  have hc := toStructure_ro s (by omega) (by omega)
  refine callP_ro hc ?_
  try simp
  refine callP_ro hv ?_
  try simp
  refine callP_ro (spec_MomentOf_ro s l n0 n1 hs hl) ?_
  try simp
  refine callP_ro hc ?_
  simp [Str.c]
  intro g2 hg2 h2 hb2
  try simp [h2, Ne.symm h2]
  refine callP_ro hv ?_
  try simp [h2, Ne.symm h2]
  refine callP_ro (impl_MomentOf_ro s l n0 n1 hs hl) ?_
  try simp
  refine AW_quiet mixedO (by kernel_rfl) ?_
  simp [h2, Ne.symm h2]
  refine hcQ_ro hc ?_
  try simp
  refine hcQ_ro (eqStructure_ro s s hs.js hs.ms) ?_
  try simp
  refine callP_ro hv ?_
  try simp
  refine callP_ro (eqIntS_ro l l hl) ?_
  try simp
  exact retRO [_] 0 rfl rfl (by simp [hg, hb2])

end Go.Proofs.Ytpkphjoobeacfaa.Vm
