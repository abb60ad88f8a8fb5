/- Laws of vectors of members. -/
import Derived.Test.YtpkphjoobeacfaaK23
namespace Go.Proofs.Ytpkphjoobeacfaa.Vm
open Go Go.Proofs
set_option linter.unusedSimpArgs false
set_option linter.unusedVariables false

theorem law_VectorOf_ro (s : Str) (n0 : Int) (hs : s.sz) (hn0 : -9223372036854775808 ≤ n0 ∧ n0 ≤ 9223372036854775807) :
    RO Try.prog 10 [.agg s.c, .int .i64 n0] (.bool true) := by
  refine ro_of2 Try.func10 rfl rfl (by rw [Try.ntmps10]; simp) fun bl => ?_
  rw [Try.ntmps10, Try.results10]
  refine AW_run ?_
  simp [Str.c]
  intro g hg0 hg
  refine callP_ro (szStructure_ro s _ (by omega) hs.js hs.ms hs.nm) ?_
  try simp
  refine ⟨fun h => ?_, fun h => ?_⟩
  · exact retRO [_] 0 rfl rfl (by simp [hg])
  obtain ⟨l1, l2, _⟩ := szStr_le (s := s) (left := 1048576) (by omega) h
  have hc := toStructure_ro s (by omega) (by omega)
  refine callP_ro hc ?_
  try simp
  refine callP_ro (spec_VectorOf_ro s n0 hs.js hs.ms hs.nm) ?_
  try simp
  refine callP_ro hc ?_
  simp [Str.c]
  intro g2 hg2 h2 hb2
  try simp [h2, Ne.symm h2]
  refine callP_ro (impl_VectorOf_ro s n0 hs.js hs.ms hs.nm) ?_
  try simp
  refine AW_way0 [(2, .loc g 2 0 0), (8, .loc g2 2 0 0), (9, .int .i64 (vecX s n0)), (6, .int .i64 (vecX s n0)), (10, .int .i64 (vecY s n0)), (7, .int .i64 (vecY s n0))] _ _ 38 (.bool false) ⟨rfl, by simp, Sub.refl _⟩ rfl (by simp) ?_
  simp
  refine AW_quiet mixedO (by kernel_rfl) ?_
  simp [h2, Ne.symm h2]
  refine hcQ_ro hc ?_
  try simp
  refine hcQ_ro (eqStructure_ro s s hs.js hs.ms) ?_
  try simp
  exact retRO [_] 0 rfl rfl (by simp [hg, hb2])

theorem vecX_le (s : Str) (k : Int) : -100 ≤ vecX s k ∧ vecX s k ≤ 100 := by
  unfold vecX
  split
  · rename_i h
    simp at h
    have hs := sOk_of h.2
    obtain ⟨⟨a1, a2⟩, ⟨b1, b2⟩⟩ := hs.ix _ (mat_mem h.1.1 h.1.2)
    have ca := hs.at a1 a2
    have cb := hs.at b1 b2
    unfold vx
    omega
  · omega
theorem vecY_le (s : Str) (k : Int) : -100 ≤ vecY s k ∧ vecY s k ≤ 100 := by
  unfold vecY
  split
  · rename_i h
    simp at h
    have hs := sOk_of h.2
    obtain ⟨⟨a1, a2⟩, ⟨b1, b2⟩⟩ := hs.ix _ (mat_mem h.1.1 h.1.2)
    have ca := hs.at a1 a2
    have cb := hs.at b1 b2
    unfold vy
    omega
  · omega
def sqOf (s : Str) (k : Int) : Int := IntKind.i64.wrap (IntKind.i64.wrap (vecX s k * vecX s k) + IntKind.i64.wrap (vecY s k * vecY s k))
theorem impl_SquareOf_ro (s : Str) (k : Int) (hs : s.sz) : RO Try.prog 54 [.agg s.c, .int .i64 k] (.int .i64 (sqOf s k)) := by
  refine ro_of2 Try.func54 rfl rfl (by rw [Try.ntmps54]; simp) fun bl => ?_
  rw [Try.ntmps54, Try.results54]
  refine AW_run ?_
  simp [Str.c]
  intro g hg0 hg
  refine callP_ro (impl_VectorOf_ro s k hs.js hs.ms hs.nm) ?_
  simp
  exact retRO [_] 0 rfl rfl (by simp [hg])
theorem spec_SquareOf_ro (s : Str) (k : Int) (hs : s.sz) : RO Try.prog 53 [.agg s.c, .int .i64 k] (.int .i64 (sqOf s k)) := by
  refine ro_of2 Try.func53 rfl rfl (by rw [Try.ntmps53]; simp) fun bl => ?_
  rw [Try.ntmps53, Try.results53]
  refine AW_run ?_
  simp [Str.c]
  intro g hg0 hg
  refine callP_ro (spec_VectorOf_ro s k hs.js hs.ms hs.nm) ?_
  simp
  exact retRO [_] 0 rfl rfl (by simp [hg])

theorem law_SquareOf_ro (s : Str) (n0 : Int) (hs : s.sz) (hn0 : -9223372036854775808 ≤ n0 ∧ n0 ≤ 9223372036854775807) :
    RO Try.prog 12 [.agg s.c, .int .i64 n0] (.bool true) := by
  refine ro_of2 Try.func12 rfl rfl (by rw [Try.ntmps12]; simp) fun bl => ?_
  rw [Try.ntmps12, Try.results12]
  refine AW_run ?_
  simp [Str.c]
  intro g hg0 hg
  refine callP_ro (szStructure_ro s _ (by omega) hs.js hs.ms hs.nm) ?_
  try simp
  refine ⟨fun h => ?_, fun h => ?_⟩
  · exact retRO [_] 0 rfl rfl (by simp [hg])
  obtain ⟨l1, l2, _⟩ := szStr_le (s := s) (left := 1048576) (by omega) h
  have hc := toStructure_ro s (by omega) (by omega)
  refine callP_ro hc ?_
  try simp
  refine callP_ro (spec_SquareOf_ro s n0 hs) ?_
  try simp
  refine callP_ro hc ?_
  simp [Str.c]
  intro g2 hg2 h2 hb2
  try simp [h2, Ne.symm h2]
  refine callP_ro (impl_SquareOf_ro s n0 hs) ?_
  try simp
  refine AW_quiet mixedO (by kernel_rfl) ?_
  simp [h2, Ne.symm h2]
  refine hcQ_ro hc ?_
  try simp
  refine hcQ_ro (eqStructure_ro s s hs.js hs.ms) ?_
  try simp
  exact retRO [_] 0 rfl rfl (by simp [hg, hb2])

end Go.Proofs.Ytpkphjoobeacfaa.Vm
