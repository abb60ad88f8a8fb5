/- JointNamed. -/
import Derived.Test.YtpkphjoobeacfaaK7
namespace Go.Proofs.Ytpkphjoobeacfaa.Vm
open Go Go.Proofs
set_option linter.unusedSimpArgs false
set_option linter.unusedVariables false

theorem str_beq (a b : ByteArray) : (a.toList == b.toList) = decide (a = b) := by
  rw [Bool.eq_iff_iff]; simp [str_eq]

/-- The first index at which p holds, else -1. -/
def ixf {α : Type} (p : α → Bool) (xs : List α) : Int := match xs.findIdx? p with | some i => i | none => -1
theorem ixf_here {α : Type} {p : α → Bool} {xs : List α} {i : Nat} (h : i < xs.length) (hb : ∀ j (hj : j < xs.length), j < i → p xs[j] = false) (hp : p xs[i] = true) : ixf p xs = i := by
  unfold ixf
  have : xs.findIdx? p = some i := by
    rw [List.findIdx?_eq_some_iff_getElem]
    exact ⟨h, hp, fun j hj => by simp [hb j (by omega) hj]⟩
  rw [this]
theorem ixf_none {α : Type} {p : α → Bool} {xs : List α} (hb : ∀ j (hj : j < xs.length), p xs[j] = false) : ixf p xs = -1 := by
  unfold ixf
  have : xs.findIdx? p = none := by
    rw [List.findIdx?_eq_none_iff]
    intro x hx
    obtain ⟨i, hi, rfl⟩ := List.mem_iff_getElem.1 hx
    exact hb i hi
  rw [this]

theorem IndexFunc_joints_ro (a : List J) (f : FuncId) (cap : List V) (p : J → Bool) (ha : a.length ≤ 140737488351232) (hf : ∀ j, j ∈ a → RO Try.prog f (.agg j.c :: cap) (.bool (p j))) :
    RO Try.prog 88 [.sl (jv a), .fn f cap] (.int .i64 (ixf p a)) := by
  refine ro_of2 Try.func88 rfl rfl (by rw [Try.ntmps88]; simp) fun bl => ?_
  rw [Try.ntmps88, Try.results88]
  refine AW_run ?_
  simp
  refine AW_for (fun i : Nat => [(0, .sl (jv a)), (1, .fn f cap), (7, .int .i64 a.length), (8, .int .i64 i)]) (fun _ => bl) (fun i => i ≤ a.length ∧ ∀ j (h1 : j < a.length), j < i → p a[j] = false) (fun i => a.length - i) _ 0 ⟨Nat.zero_le _, fun j _ h0 => by omega⟩ ⟨rfl, by simp, Sub.refl _⟩ ?_
  intro i ⟨hi, hc⟩
  refine AW_run ?_
  simp
  refine ⟨fun h1 => ?_, fun h1 => ?_⟩
  · simp [h1]
    refine callP_ro (hf _ (List.getElem_mem h1)) ?_
    simp
    refine ⟨fun h2 => ?_, fun h2 => ?_⟩
    · exact retRO0 (by simp [ixf_here h1 hc h2]) rfl rfl
    · simp (disch := omega) [i64_in, loopQ_normal]
      refine ⟨i + 1, ⟨by omega, fun j hj1 hji => ?_⟩, by omega, rfl, by simp, Sub.refl _⟩
      rcases Nat.lt_or_ge j i with hlt | hge
      · exact hc j hj1 hlt
      · obtain rfl : j = i := by omega
        exact h2
  · exact retRO0 (by simp [ixf_none fun j hj => hc j hj (by omega)]) rfl rfl

theorem JointNamed1_ro (j : J) (name : ByteArray) : RO Try.prog 89 [.agg j.c, .ptr [.str name]] (.bool (decide (j.name = name))) := by
  refine ro_of2 Try.func89 rfl rfl (by rw [Try.ntmps89]; simp) fun bl => ?_
  rw [Try.ntmps89, Try.results89]
  refine AW_run ?_
  simp [J.c]
  intro g hg0 hg
  exact retRO [_] 0 (by simp [str_beq]; rfl) rfl (by simp [hg])

theorem impl_JointNamed_ro (s : Str) (name : ByteArray) (hj : s.js.length ≤ 140737488351232) : RO Try.prog 35 [.agg s.c, .str name] (.int .i64 (ixf (fun j => decide (j.name = name)) s.js)) := by
  refine ro_of2 Try.func35 rfl rfl (by rw [Try.ntmps35]; simp) fun bl => ?_
  rw [Try.ntmps35, Try.results35]
  refine AW_run ?_
  simp [Str.c]
  intro g1 hg1 hb1 g2 hg2 h21 hb2
  simp [h21, Ne.symm h21]
  refine callP_borrow 2 (ys := [.sl (jv s.js), .fn 89 [.ptr [.str name]]]) ?_ (IndexFunc_joints_ro _ _ _ (fun j => decide (j.name = name)) hj fun j _ => JointNamed1_ro j name) rfl ?_
  · simp [frz, dropB, V.cl]
  simp
  exact retRO [_] 0 rfl rfl (by simp [hb1, hb2])

theorem spec_JointNamed_ro (s : Str) (name : ByteArray) (hj : s.js.length ≤ 140737488351232) : RO Try.prog 33 [.agg s.c, .str name] (.int .i64 (ixf (fun j => decide (j.name = name)) s.js)) := by
  refine ro_of2 Try.func33 rfl rfl (by rw [Try.ntmps33]; simp) fun bl => ?_
  rw [Try.ntmps33, Try.results33]
  refine AW_run ?_
  simp [Str.c]
  intro g1 hg1 hb1
  refine AW_for (fun i : Nat => [(1, .str name), (8, .sl (jv s.js)), (9, .int .i64 s.js.length), (10, .int .i64 i)]) (fun _ => bl) (fun i => i ≤ s.js.length ∧ ∀ j (h1 : j < s.js.length), j < i → decide (s.js[j].name = name) = false) (fun i => s.js.length - i) _ 0 ⟨Nat.zero_le _, fun j _ h0 => by omega⟩ ⟨rfl, by simp, by simp [hb1]⟩ ?_
  intro i ⟨hi, hc⟩
  refine AW_run ?_
  simp
  refine ⟨fun h1 => ?_, fun h1 => ?_⟩
  · simp [h1]
    intro g hg0 hg
    simp [J.c, str_beq]
    refine ⟨fun h2 => ?_, fun h2 => ?_⟩
    · exact retRO [_] 0 rfl (by simp [frz]; exact (ixf_here (p := fun j => decide (j.name = name)) h1 hc (by simpa using h2)).symm) (by simp [hg])
    · simp (disch := omega) [i64_in, loopQ_normal]
      refine ⟨i + 1, ⟨by omega, fun j hj1 hji => ?_⟩, by omega, rfl, by simp, by simp [hg]⟩
      rcases Nat.lt_or_ge j i with hlt | hge
      · simpa using hc j hj1 hlt
      · obtain rfl : j = i := by omega
        simpa using h2
  · exact retRO [_] 0 rfl (by simp [frz]; exact (ixf_none (p := fun j => decide (j.name = name)) fun j hj => hc j hj (by omega)).symm) (Sub.refl _)

theorem law_JointNamed_ro (s : Str) (name : ByteArray) (hj : s.js.length ≤ 140737488351232) (hm : s.ms.length ≤ 140737488351232) (hn : ∀ j, j ∈ s.js → j.name.size ≤ 140737488351232) (hs : name.size ≤ 140737488351232) :
    RO Try.prog 6 [.agg s.c, .str name] (.bool true) := by
  refine ro_of2 Try.func6 rfl rfl (by rw [Try.ntmps6]; simp) fun bl => ?_
  rw [Try.ntmps6, Try.results6]
  refine AW_run ?_
  simp [Str.c]
  intro g hg0 hg
  refine ⟨fun h => ?_, fun h1 => ?_⟩
  · exact retRO [_] 0 rfl rfl (by simp [hg])
  refine callP_ro (szStructure_ro s _ (by omega) hj hm hn) ?_
  try simp
  refine ⟨fun h => ?_, fun h => ?_⟩
  · exact retRO [_] 0 rfl rfl (by simp [hg])
  obtain ⟨l1, l2, _⟩ := szStr_le (s := s) (left := 1048576) (by omega) h
  have hc := toStructure_ro s (by omega) (by omega)
  refine callP_ro hc ?_
  try simp
  refine callP_ro (spec_JointNamed_ro s name hj) ?_
  try simp
  refine callP_ro hc ?_
  simp [Str.c]
  intro g2 hg2 h2 hb2
  try simp [h2, Ne.symm h2]
  refine callP_ro (impl_JointNamed_ro s name hj) ?_
  try simp
  refine AW_quiet mixedO (by kernel_rfl) ?_
  try simp [h2, Ne.symm h2]
  refine hcQ_ro hc ?_
  try simp
  refine hcQ_ro (eqStructure_ro s s hj hm) ?_
  try simp
  exact retRO [_] 0 rfl rfl (by simp [hg, hb2])

end Go.Proofs.Ytpkphjoobeacfaa.Vm
