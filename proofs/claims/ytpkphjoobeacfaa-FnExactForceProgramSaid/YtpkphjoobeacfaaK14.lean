/- The law StructureOk. -/
import Derived.Test.YtpkphjoobeacfaaK13
namespace Go.Proofs.Ytpkphjoobeacfaa.Vm
open Go Go.Proofs
set_option linter.unusedSimpArgs false
set_option linter.unusedVariables false

theorem law_StructureOk_ro (s : Str) (hj : s.js.length ≤ 140737488351232) (hm : s.ms.length ≤ 140737488351232) (hn : ∀ j, j ∈ s.js → j.name.size ≤ 140737488351232) :
    RO Try.prog 9 [.agg s.c] (.bool true) := by
  refine ro_of2 Try.func9 rfl rfl (by rw [Try.ntmps9]; simp) fun bl => ?_
  rw [Try.ntmps9, Try.results9]
  refine AW_run ?_
  simp [Str.c]
  intro g hg0 hg
  refine callP_ro (szStructure_ro s _ (by omega) hj hm hn) ?_
  try simp
  refine ⟨fun h => ?_, fun h => ?_⟩
  · exact retRO [_] 0 rfl rfl (by simp [hg])
  obtain ⟨l1, l2, _⟩ := szStr_le (s := s) (left := 1048576) (by omega) h
  have hc := toStructure_ro s (by omega) (by omega)
  refine callP_ro hc ?_
  try simp
  refine callP_ro (spec_StructureOk_ro s hj hm hn) ?_
  try simp
  refine callP_ro hc ?_
  simp [Str.c]
  intro g2 hg2 h2 hb2
  try simp [h2, Ne.symm h2]
  refine callP_ro (impl_StructureOk_ro s hj hm hn) ?_
  try simp
  refine AW_quiet mixedO (by kernel_rfl) ?_
  simp [h2, Ne.symm h2]
  refine hcQ_ro hc ?_
  try simp
  refine hcQ_ro (eqStructure_ro s s hj hm) ?_
  try simp
  exact retRO [_] 0 rfl rfl (by simp [hg, hb2])

end Go.Proofs.Ytpkphjoobeacfaa.Vm
