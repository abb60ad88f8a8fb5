/- Marks that stand. -/
import Derived.Test.YtpkphjoobeacfaaK20
namespace Go.Proofs.Ytpkphjoobeacfaa.Vm
open Go Go.Proofs
set_option linter.unusedSimpArgs false
set_option linter.unusedVariables false

theorem heldJointS_ro (n k : Nat) (hk : k + 4 * n ≤ 4611686018427387000) : RO Try.prog 115 [.sl (jv (mkJ k n)), .int .i64 k] (.int .i64 (k + 4 * n : Nat)) := by
  refine ro_of2 Try.func115 rfl rfl (by rw [Try.ntmps115]; simp) fun bl => ?_
  rw [Try.ntmps115, Try.results115]
  refine AW_run ?_
  simp
  refine AW_for (fun i : Nat => [(0, .sl (jv (mkJ k n))), (1, .int .i64 (k + 4 * i : Nat)), (5, .int .i64 i)]) (fun _ => bl) (fun i => i ≤ n) (fun i => n - i) _ 0 (Nat.zero_le _) ⟨rfl, by simp, Sub.refl _⟩ ?_
  intro i hi
  refine AW_run ?_
  simp
  refine ⟨fun h1 => ?_, fun h1 => ?_⟩
  · have h2 : i < (jv (mkJ k n)).length := by simpa using h1
    have hm := markText_ro (k + 4 * i) (by omega)
    simp at hm
    refine AW_quiet mixedO (by kernel_rfl) ?_
    simp [h1, J.c]
    refine hcQ_ro hm ?_
    simp (disch := omega) [h1, J.c, i64_in, Int.add_assoc]
    simp only [loopQ_normal]
    refine ⟨i + 1, by omega, by omega, rfl, by simp; omega, Sub.refl _⟩
  · have hi' : i = n := by omega
    subst hi'
    exact retRO0 (by simp) rfl rfl

theorem heldMemberS_ro (n k : Nat) (hk : k + 3 * n ≤ 4611686018427387000) : RO Try.prog 116 [.sl (mv (mkM k n)), .int .i64 k] (.int .i64 (k + 3 * n : Nat)) := by
  refine ro_of2 Try.func116 rfl rfl (by rw [Try.ntmps116]; simp) fun bl => ?_
  rw [Try.ntmps116, Try.results116]
  refine AW_run ?_
  simp
  refine AW_for (fun i : Nat => [(0, .sl (mv (mkM k n))), (1, .int .i64 (k + 3 * i : Nat)), (5, .int .i64 i)]) (fun _ => bl) (fun i => i ≤ n) (fun i => n - i) _ 0 (Nat.zero_le _) ⟨rfl, by simp, Sub.refl _⟩ ?_
  intro i hi
  refine AW_run ?_
  simp
  refine ⟨fun h1 => ?_, fun h1 => ?_⟩
  · have h2 : i < (mv (mkM k n)).length := by simpa using h1
    simp (disch := omega) [h1, Mb.c, i64_in, Int.add_assoc]
    simp only [loopQ_normal]
    refine ⟨i + 1, by omega, by omega, rfl, by simp; omega, Sub.refl _⟩
  · have hi' : i = n := by omega
    subst hi'
    exact retRO0 (by simp) rfl rfl

theorem heldStructure_ro (s : Str) (k : Nat) (hk : mkN k s ≤ 4611686018427387000) : RO Try.prog 63 [.agg (mkS k s).c, .int .i64 k] (.int .i64 (mkN k s : Nat)) := by
  unfold mkN at hk
  refine ro_of2 Try.func63 rfl rfl (by rw [Try.ntmps63]; simp) fun bl => ?_
  rw [Try.ntmps63, Try.results63]
  refine AW_run ?_
  simp [Str.c, mkS]
  intro g hg0 hg
  refine callP_ro (heldJointS_ro _ _ (by omega)) ?_
  simp
  refine ⟨by omega, fun _ => ?_⟩
  have hm := heldMemberS_ro s.ms.length (k + 4 * s.js.length) (by omega)
  simp at hm
  refine callP_ro hm ?_
  simp
  refine ⟨by omega, fun _ => ?_⟩
  refine retRO [_] 0 rfl ?_ (by simp [hg])
  simp [frz, mkN]

end Go.Proofs.Ytpkphjoobeacfaa.Vm
