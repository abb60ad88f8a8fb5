/- Vectors of members: VectorOf, SquareOf. -/
import Derived.Test.YtpkphjoobeacfaaK15
namespace Go.Proofs.Ytpkphjoobeacfaa.Vm
open Go Go.Proofs
set_option linter.unusedSimpArgs false
set_option linter.unusedVariables false

/-- What a valid structure is known for. -/
structure SOk (s : Str) : Prop where
  nj : s.js.length ≤ 6
  nm : s.ms.length ≤ 8
  pl : ∀ i, i < s.js.length → (-50 ≤ (s.js.getD i default).x ∧ (s.js.getD i default).x ≤ 50) ∧ (-50 ≤ (s.js.getD i default).y ∧ (s.js.getD i default).y ≤ 50)
  ix : ∀ m, m ∈ s.ms → (0 ≤ m.a ∧ m.a < s.js.length) ∧ (0 ≤ m.b ∧ m.b < s.js.length)
  kd : ∀ m, m ∈ s.ms → 1 ≤ m.kind ∧ m.kind ≤ 3

theorem sOk_of {s : Str} (h : sOk s = true) : SOk s := by
  unfold sOk at h
  simp only [Bool.and_eq_true, decide_eq_true_eq] at h
  obtain ⟨⟨⟨h1, h2⟩, h3⟩, h4⟩ := h
  refine ⟨h1, h2, fun i hi => ?_, fun m hm => ?_, fun m hm => ?_⟩
  · have := (h3 i hi).1
    simp [J.ok] at this
    simp [hi]
    omega
  · have := List.all_eq_true.1 h4 m hm
    simp [mOk] at this
    omega
  · have := List.all_eq_true.1 h4 m hm
    simp [mOk] at this
    omega

theorem SOk.at {s : Str} (h : SOk s) {n : Int} (h0 : 0 ≤ n) (h1 : n < s.js.length) : (-50 ≤ (jat s.js n).x ∧ (jat s.js n).x ≤ 50) ∧ (-50 ≤ (jat s.js n).y ∧ (jat s.js n).y ≤ 50) := h.pl n.toNat (by omega)

instance : Inhabited Mb := ⟨⟨0, 0, 0⟩⟩
/-- From joint A to joint B of a member. -/
def vx (s : Str) (m : Mb) : Int := (jat s.js m.b).x - (jat s.js m.a).x
def vy (s : Str) (m : Mb) : Int := (jat s.js m.b).y - (jat s.js m.a).y
def mat (s : Str) (k : Int) : Mb := s.ms.getD k.toNat default
theorem mat_mem {s : Str} {k : Int} (h0 : 0 ≤ k) (h1 : k < s.ms.length) : mat s k ∈ s.ms := by
  have : k.toNat < s.ms.length := by omega
  simp [mat, this]
theorem mv_at {s : Str} {k : Int} (h0 : 0 ≤ k) (h1 : k < s.ms.length) : (mv s.ms)[k.toNat]? = some (mat s k).c := by
  have : k.toNat < s.ms.length := by omega
  simp [mv, mat, this]

theorem l12Vector_ro (s : Str) (k : Int) (hs : SOk s) (h0 : 0 ≤ k) (h1 : k < s.ms.length) : RO Try.prog 105 [.agg s.c, .int .i64 k] (.tup [.int .i64 (vx s (mat s k)), .int .i64 (vy s (mat s k))]) := by
  obtain ⟨⟨a1, a2⟩, ⟨b1, b2⟩⟩ := hs.ix _ (mat_mem h0 h1)
  have ca := hs.at a1 a2
  have cb := hs.at b1 b2
  refine ro_of2 Try.func105 rfl rfl (by rw [Try.ntmps105]; simp) fun bl => ?_
  rw [Try.ntmps105, Try.results105]
  refine AW_run ?_
  simp [Str.c]
  intro g hg0 hg
  refine AW_mixed mixedO [0, 1, 2, 3, 4, 5, 6, 7, 8, 9] 2 (by kernel_rfl) ?_
  simp [Str.c, h0, mv_at h0 h1, Mb.c, a1, jv_at a1 a2, J.c]
  refine DAny_one (i := 10) (by kernel_rfl) rfl rfl ?_
  simp
  intro g1 hg1 h1g hb1
  refine ⟨by simp [hg, hb1, h1g], DAny_one (i := 11) (by kernel_rfl) rfl rfl ?_⟩
  simp [h1g, Ne.symm h1g]
  refine ⟨by simp [hg, hb1, h1g], DAny_done (by kernel_rfl) ?_⟩
  simp [h1g, Ne.symm h1g]
  refine AW_mixed mixedO [0, 1, 2, 3, 4, 5, 6, 7, 8, 9] 2 (by kernel_rfl) ?_
  simp [Str.c, h0, mv_at h0 h1, Mb.c, b1, jv_at b1 b2, J.c, h1g, Ne.symm h1g]
  refine DAny_one (i := 10) (by kernel_rfl) rfl rfl ?_
  simp
  intro g2 hg2 h2g h21 hb2
  refine ⟨by simp [hg, hb1, h1g, hb2, h2g, h21], DAny_one (i := 11) (by kernel_rfl) rfl rfl ?_⟩
  simp [h1g, Ne.symm h1g, h2g, h21, Ne.symm h2g, Ne.symm h21]
  refine ⟨by simp [hg, hb1, h1g, hb2, h2g, h21], DAny_done (by kernel_rfl) ?_⟩
  simp [h1g, Ne.symm h1g, h2g, h21, Ne.symm h2g, Ne.symm h21]
  refine AW_quiet mixedO (by kernel_rfl) ?_
  simp [h1g, Ne.symm h1g, h2g, h21, Ne.symm h2g, Ne.symm h21]
  simp (disch := omega) [i64_in]
  exact retRO [_, _] 1 rfl rfl (by simp [hg, hb1, hb2])

theorem vector_ro (s : Str) (k : Int) (hs : SOk s) (h0 : 0 ≤ k) (h1 : k < s.ms.length) : RO Try.prog 107 [.ptr s.c, .int .i64 k] (.tup [.int .i64 (vx s (mat s k)), .int .i64 (vy s (mat s k))]) := by
  obtain ⟨⟨a1, a2⟩, ⟨b1, b2⟩⟩ := hs.ix _ (mat_mem h0 h1)
  have ca := hs.at a1 a2
  have cb := hs.at b1 b2
  refine ro_of2 Try.func107 rfl rfl (by rw [Try.ntmps107]; simp) fun bl => ?_
  rw [Try.ntmps107, Try.results107]
  refine AW_run ?_
  simp [Str.c, h0, mv_at h0 h1, Mb.c]
  intro g hg0 hg
  refine AW_quiet mixedO (by kernel_rfl) ?_
  simp [a1, b1, jv_at a1 a2, jv_at b1 b2, J.c]
  simp (disch := omega) [i64_in]
  exact retRO [_, _] 1 rfl rfl (by simp [hg])

theorem hasMember_ro (s : Str) (k : Int) (hj : s.js.length ≤ 140737488351232) (hm : s.ms.length ≤ 140737488351232) (hn : ∀ j, j ∈ s.js → j.name.size ≤ 140737488351232) : RO Try.prog 106 [.ptr s.c, .int .i64 k] (.bool (decide (0 ≤ k) && decide (k < s.ms.length) && sOk s)) := by
  refine ro_of2 Try.func106 rfl rfl (by rw [Try.ntmps106]; simp) fun bl => ?_
  rw [Try.ntmps106, Try.results106]
  refine AW_run ?_
  simp
  refine AW_way0 [(0, .ptr s.c), (1, .int .i64 k)] _ bl 4 (.bool (decide (0 ≤ k) && decide (k < s.ms.length) && sOk s)) ⟨rfl, by simp, Sub.refl _⟩ rfl ?_ ?_
  · simp [Str.c]
    refine ⟨fun h => ⟨fun h1 => ?_, fun h1 => ?_⟩, fun h => ?_⟩
    · refine callP_ro (impl_StructureOk_ro s hj hm hn) ?_
      simp [h, h1]
    · simp [h, h1]; omega
    · trace_state; omega
  simp
  exact retRO0 (by simp) rfl rfl

def vecX (s : Str) (k : Int) : Int := if (decide (0 ≤ k) && decide (k < s.ms.length) && sOk s) = true then vx s (mat s k) else 0
def vecY (s : Str) (k : Int) : Int := if (decide (0 ≤ k) && decide (k < s.ms.length) && sOk s) = true then vy s (mat s k) else 0

theorem impl_VectorOf_ro (s : Str) (k : Int) (hj : s.js.length ≤ 140737488351232) (hm : s.ms.length ≤ 140737488351232) (hn : ∀ j, j ∈ s.js → j.name.size ≤ 140737488351232) : RO Try.prog 50 [.agg s.c, .int .i64 k] (.tup [.int .i64 (vecX s k), .int .i64 (vecY s k)]) := by
  refine ro_of2 Try.func50 rfl rfl (by rw [Try.ntmps50]; simp) fun bl => ?_
  rw [Try.ntmps50, Try.results50]
  refine AW_run ?_
  simp [Str.c]
  intro g hg0 hg
  refine callP_borrow 2 (ys := [.ptr s.c, .int .i64 k]) ?_ (hasMember_ro s k hj hm hn) rfl ?_
  · simp [frz, dropB, V.cl, Str.c]
  simp
  refine ⟨fun h => ?_, fun h1 h2 h3 => ?_⟩
  · refine retRO [_, _] 1 rfl ?_ (by simp [hg])
    have : ¬ (decide (0 ≤ k) && decide (k < s.ms.length) && sOk s) = true := by simp; intro a b; rcases h with (h | h) | h <;> first | exact h | omega
    simp [frz, V.cl, vecX, vecY, this]
  · refine callP_borrow 2 (ys := [.ptr s.c, .int .i64 k]) ?_ (vector_ro s k (sOk_of h3) h1 h2) rfl ?_
    · simp [frz, dropB, V.cl, Str.c]
    simp
    refine retRO [_, _] 1 rfl ?_ (by simp [hg])
    simp [frz, V.cl, vecX, vecY, h1, h2, h3]

theorem spec_VectorOf_ro (s : Str) (k : Int) (hj : s.js.length ≤ 140737488351232) (hm : s.ms.length ≤ 140737488351232) (hn : ∀ j, j ∈ s.js → j.name.size ≤ 140737488351232) : RO Try.prog 49 [.agg s.c, .int .i64 k] (.tup [.int .i64 (vecX s k), .int .i64 (vecY s k)]) := by
  refine ro_of2 Try.func49 rfl rfl (by rw [Try.ntmps49]; simp) fun bl => ?_
  rw [Try.ntmps49, Try.results49]
  refine AW_run ?_
  simp [Str.c]
  intro g hg0 hg
  refine AW_way0 [(1, .int .i64 k), (2, .loc g 2 0 0)] _ _ 17 (.bool (!(decide (0 ≤ k) && decide (k < s.ms.length) && sOk s))) ⟨rfl, by simp, Sub.refl _⟩ rfl ?_ ?_
  · simp
    refine callP_ro (spec_StructureOk_ro s hj hm hn) ?_
    simp
    refine ⟨fun h => by simp [h], fun h => ?_⟩
    simp (disch := omega) [i64_in]
    refine callP_ro (l01In_ro _ _ _) ?_
    simp [h]
    rw [Bool.eq_iff_iff]; simp; omega
  simp
  refine ⟨fun h => ?_, fun h1 h2 h3 => ?_⟩
  · refine retRO [_, _] 1 rfl ?_ (by simp [hg])
    have : ¬ (decide (0 ≤ k) && decide (k < s.ms.length) && sOk s) = true := by simp; intro a b; rcases h with (h | h) | h <;> first | exact h | omega
    simp [frz, V.cl, vecX, vecY, this]
  · refine callP_ro (l12Vector_ro s k (sOk_of h3) h1 h2) ?_
    simp
    refine retRO [_, _] 1 rfl ?_ (by simp [hg])
    simp [frz, V.cl, vecX, vecY, h1, h2, h3]

end Go.Proofs.Ytpkphjoobeacfaa.Vm
