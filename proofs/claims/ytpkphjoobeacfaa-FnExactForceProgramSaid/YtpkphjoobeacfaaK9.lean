/- Structures as arguments. -/
import Derived.Test.YtpkphjoobeacfaaK4
import Derived.Test.YtpkphjoobeacfaaK8
namespace Go.Proofs.Ytpkphjoobeacfaa.Vm
open Go Go.Proofs
set_option linter.unusedSimpArgs false
set_option linter.unusedVariables false

theorem celT_Member : Try.prog.cellsOf 115 = 3 := by kernel_rfl
theorem celT_Structure : Try.prog.cellsOf 37 = 2 := by kernel_rfl
theorem celT_Joints : Try.prog.cellsOf 34 = 1 := by kernel_rfl
theorem celT_Members : Try.prog.cellsOf 35 = 1 := by kernel_rfl
theorem bytes_Joint : 1 ≤ Try.prog.bytesOf 25 := by
  have : Try.prog.bytesOf 25 = 40 := by kernel_rfl
  omega
theorem bytes_Member : 1 ≤ Try.prog.bytesOf 115 := by
  have : Try.prog.bytesOf 115 = 24 := by kernel_rfl
  omega

def In64 (n : Int) : Prop := -9223372036854775808 ≤ n ∧ n ≤ 9223372036854775807
structure Mb.fit (m : Mb) : Prop where
  a : In64 m.a
  b : In64 m.b
  kind : In64 m.kind
structure Str.fit (s : Str) : Prop where
  js : s.js.length ≤ 140737488351232
  ms : s.ms.length ≤ 140737488351232
  names : ∀ j, j ∈ s.js → j.name.size ≤ 140737488351232
  joints : ∀ j, j ∈ s.js → j.fit
  members : ∀ m, m ∈ s.ms → m.fit

theorem m_of_co {cs : List V} (h : CO Try.prog 115 cs) : ∃ m : Mb, cs = m.c ∧ m.fit := by
  obtain ⟨hl, hf⟩ := co_struct Try.underlying115 h
  rw [celT_Member] at hl
  obtain ⟨a, b, c, rfl⟩ := len3 hl
  simp [celT_int, celT_bool, celT_string] at hf
  obtain ⟨h0, h1, h2⟩ := hf
  obtain ⟨x, h0, hx⟩ := co_int Try.underlying3 h0
  obtain ⟨y, h1, hy⟩ := co_int Try.underlying3 h1
  obtain ⟨z, h2, hz⟩ := co_int Try.underlying3 h2
  cases h0; cases h1; cases h2
  exact ⟨⟨x, y, z⟩, rfl, wf_i64 hx, wf_i64 hy, wf_i64 hz⟩

theorem jv_of {xs : List (List V)} (hx : ∀ x, x ∈ xs → CO Try.prog 25 x) : ∃ js : List J, xs = jv js ∧ ∀ j, j ∈ js → j.fit := by
  induction xs with
  | nil => exact ⟨[], rfl, fun n hn => by cases hn⟩
  | cons x xs ih =>
    obtain ⟨ns, rfl, hns⟩ := ih fun y hy => hx y (List.mem_cons_of_mem _ hy)
    obtain ⟨n, rfl, hn⟩ := j_of_co (hx x List.mem_cons_self)
    refine ⟨n :: ns, rfl, fun m hm => ?_⟩
    rcases List.mem_cons.1 hm with rfl | hm
    · exact hn
    · exact hns m hm
theorem mv_of {xs : List (List V)} (hx : ∀ x, x ∈ xs → CO Try.prog 115 x) : ∃ js : List Mb, xs = mv js ∧ ∀ j, j ∈ js → j.fit := by
  induction xs with
  | nil => exact ⟨[], rfl, fun n hn => by cases hn⟩
  | cons x xs ih =>
    obtain ⟨ns, rfl, hns⟩ := ih fun y hy => hx y (List.mem_cons_of_mem _ hy)
    obtain ⟨n, rfl, hn⟩ := m_of_co (hx x List.mem_cons_self)
    refine ⟨n :: ns, rfl, fun m hm => ?_⟩
    rcases List.mem_cons.1 hm with rfl | hm
    · exact hn
    · exact hns m hm

theorem len_of {xs : List (List V)} {b n : Nat} (hl : xs.length * b ≤ n) (hb : 1 ≤ b) : xs.length ≤ n := Nat.le_trans (Nat.le_mul_of_pos_right _ hb) hl

theorem str_of_co {cs : List V} (h : CO Try.prog 37 cs) : ∃ s : Str, cs = s.c ∧ s.fit := by
  obtain ⟨hl, hf⟩ := co_struct Try.underlying37 h
  rw [celT_Structure] at hl
  obtain ⟨a, b, rfl⟩ := len2 hl
  simp [celT_Joints, celT_Members] at hf
  obtain ⟨h0, h1⟩ := hf
  obtain ⟨x, h0, hx, hlx⟩ := co_slice Try.underlying34 h0
  obtain ⟨y, h1, hy, hly⟩ := co_slice Try.underlying35 h1
  cases h0; cases h1
  obtain ⟨js, rfl, hjs⟩ := jv_of hx
  obtain ⟨ms, rfl, hms⟩ := mv_of hy
  exact ⟨⟨js, ms⟩, rfl, by simpa using len_of hlx bytes_Joint, by simpa using len_of hly bytes_Member, fun j hj => (hjs j hj).1, hjs, hms⟩

end Go.Proofs.Ytpkphjoobeacfaa.Vm
