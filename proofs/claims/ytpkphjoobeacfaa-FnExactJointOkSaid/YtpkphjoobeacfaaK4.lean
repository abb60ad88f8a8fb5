/- Arguments of the structure laws as plain data. -/
import Derived.Test.YtpkphjoobeacfaaVmM
import Derived.Test.YtpkphjoobeacfaaK3
namespace Go.Proofs.Ytpkphjoobeacfaa.Vm
open Go Go.Proofs
set_option linter.unusedSimpArgs false
set_option linter.unusedVariables false

theorem cells_int : Try.prog.cellsOf 3 = 1 := by kernel_rfl
theorem cells_bool : Try.prog.cellsOf 4 = 1 := by kernel_rfl
theorem cells_string : Try.prog.cellsOf 9 = 1 := by kernel_rfl
theorem cells_Joint : Try.prog.cellsOf 25 = 4 := by kernel_rfl

theorem len2 {cs : List V} (h : cs.length = 2) : ∃ a b, cs = [a, b] := by
  match cs, h with
  | [a, b], _ => exact ⟨a, b, rfl⟩
theorem len3 {cs : List V} (h : cs.length = 3) : ∃ a b c, cs = [a, b, c] := by
  match cs, h with
  | [a, b, c], _ => exact ⟨a, b, c, rfl⟩
theorem len4 {cs : List V} (h : cs.length = 4) : ∃ a b c d, cs = [a, b, c, d] := by
  match cs, h with
  | [a, b, c, d], _ => exact ⟨a, b, c, d, rfl⟩

theorem j_of_co {cs : List V} (h : CO Try.prog 25 cs) : ∃ j : J, cs = j.c ∧ j.fit := by
  obtain ⟨hl, hf⟩ := co_struct Try.underlying25 h
  rw [cells_Joint] at hl
  obtain ⟨a, b, c, d, rfl⟩ := len4 hl
  simp [cells_int, cells_bool, cells_string] at hf
  obtain ⟨h0, h1, h2, h3⟩ := hf
  obtain ⟨s, h0, hs⟩ := co_str Try.underlying9 h0
  obtain ⟨x, h1, hx⟩ := co_int Try.underlying3 h1
  obtain ⟨y, h2, hy⟩ := co_int Try.underlying3 h2
  obtain ⟨f, h3⟩ := co_bool Try.underlying4 h3
  cases h0; cases h1; cases h2; cases h3
  exact ⟨⟨s, x, y, f⟩, rfl, hs, wf_i64 hx, wf_i64 hy⟩

end Go.Proofs.Ytpkphjoobeacfaa.Vm
