/- LoadOk. -/
import Derived.Test.YtpkphjoobeacfaaK14
namespace Go.Proofs.Ytpkphjoobeacfaa.Vm
open Go Go.Proofs
set_option linter.unusedSimpArgs false
set_option linter.unusedVariables false

theorem IndexFunc_ints_ro (a : List Int) (f : FuncId) (cap : List V) (p : Int → Bool) (ha : a.length ≤ 140737488351232) (hf : ∀ j, j ∈ a → RO Try.prog f (V.int .i64 j :: cap) (.bool (p j))) :
    RO Try.prog 140 [.sl (iv a), .fn f cap] (.int .i64 (ixf p a)) := by
  refine ro_of2 Try.func140 rfl rfl (by rw [Try.ntmps140]; simp) fun bl => ?_
  rw [Try.ntmps140, Try.results140]
  refine AW_run ?_
  simp
  refine AW_for (fun i : Nat => [(0, .sl (iv a)), (1, .fn f cap), (7, .int .i64 a.length), (8, .int .i64 i)]) (fun _ => bl) (fun i => i ≤ a.length ∧ ∀ j (h1 : j < a.length), j < i → p a[j] = false) (fun i => a.length - i) _ 0 ⟨Nat.zero_le _, fun j _ h0 => by omega⟩ ⟨rfl, by simp, Sub.refl _⟩ ?_
  intro i ⟨hi, hc⟩
  refine AW_run ?_
  simp
  refine ⟨fun h1 => ?_, fun h1 => ?_⟩
  · simp [h1]
    refine callP_ro (hf _ (List.getElem_mem h1)) ?_
    simp
    refine ⟨fun h2 => ?_, fun h2 => ?_⟩
    · exact retRO0 (by simp [ixf_here h1 hc h2]) rfl rfl
    · simp (disch := omega) [i64_in, loopQ_normal]
      refine ⟨i + 1, ⟨by omega, fun j hj1 hji => ?_⟩, by omega, rfl, by simp, Sub.refl _⟩
      rcases Nat.lt_or_ge j i with hlt | hge
      · exact hc j hj1 hlt
      · obtain rfl : j = i := by omega
        exact h2
  · exact retRO0 (by simp [ixf_none fun j hj => hc j hj (by omega)]) rfl rfl

theorem ContainsFunc_ints_ro (a : List Int) (f : FuncId) (cap : List V) (p : Int → Bool) (ha : a.length ≤ 140737488351232) (hf : ∀ j, j ∈ a → RO Try.prog f (V.int .i64 j :: cap) (.bool (p j))) :
    RO Try.prog 128 [.sl (iv a), .fn f cap] (.bool (a.any p)) := by
  refine ro_of2 Try.func128 rfl rfl (by rw [Try.ntmps128]; simp) fun bl => ?_
  rw [Try.ntmps128, Try.results128]
  refine AW_run ?_
  simp
  refine callP_ro (IndexFunc_ints_ro a f cap p ha hf) ?_
  simp
  exact retRO0 (by simp [ixf_lt]) rfl rfl

def forceOk (n : Int) : Bool := decide (-100 ≤ n) && decide (n ≤ 100)
def fitsL (js : List J) (l : List Int) : Bool := decide (l.length = 2 * js.length) && l.all forceOk
def lOk (s : Str) (l : List Int) : Bool := sOk s && fitsL s.js l

theorem isForce_ro (n : Int) : RO Try.prog 101 [.int .i64 n] (.bool (forceOk n)) := by
  refine ro_of2 Try.func101 rfl rfl (by rw [Try.ntmps101]; simp) fun bl => ?_
  rw [Try.ntmps101, Try.results101]
  refine AW_run ?_
  simp
  refine AW_way [(0, .int .i64 n)] _ bl 2 (.bool (forceOk n)) bl ⟨rfl, by simp, Sub.refl _⟩ rfl ?_ ?_
  · simp [forceOk]; grind
  simp
  exact retRO0 (by simp) rfl rfl

theorem fitsLoad1_ro (n : Int) : RO Try.prog 129 [.int .i64 n] (.bool (!forceOk n)) := by
  refine ro_of2 Try.func129 rfl rfl (by rw [Try.ntmps129]; simp) fun bl => ?_
  rw [Try.ntmps129, Try.results129]
  refine AW_run ?_
  simp
  refine callP_ro (isForce_ro n) ?_
  simp
  exact retRO0 (by simp) rfl rfl

theorem fitsLoad_ro (s : Str) (l : List Int) (hj : s.js.length ≤ 140737488351232) (hl : l.length ≤ 140737488351232) : RO Try.prog 99 [.ptr s.c, .sl (iv l)] (.bool (fitsL s.js l)) := by
  refine ro_of2 Try.func99 rfl rfl (by rw [Try.ntmps99]; simp) fun bl => ?_
  rw [Try.ntmps99, Try.results99]
  refine AW_run ?_
  simp
  refine AW_way [(0, .ptr s.c), (1, .sl (iv l))] _ bl 4 (.bool (fitsL s.js l)) bl ⟨rfl, by simp, Sub.refl _⟩ rfl ?_ ?_
  · simp [Str.c]
    simp (disch := omega) [i64_in]
    refine ⟨fun h => ?_, fun h => ?_⟩
    · refine callP_ro (ContainsFunc_ints_ro l _ [] (fun n => !forceOk n) hl fun n _ => fitsLoad1_ro n) ?_
      simp
      have : l.length = 2 * s.js.length := by omega
      simp [fitsL, this]
      rw [Bool.eq_iff_iff]; simp
    · have : ¬ l.length = 2 * s.js.length := by omega
      simp [fitsL, this]
  simp
  exact retRO0 (by simp) rfl rfl

theorem impl_LoadOk_ro (s : Str) (l : List Int) (hj : s.js.length ≤ 140737488351232) (hm : s.ms.length ≤ 140737488351232) (hn : ∀ j, j ∈ s.js → j.name.size ≤ 140737488351232) (hl : l.length ≤ 140737488351232) : RO Try.prog 56 [.agg s.c, .sl (iv l)] (.bool (lOk s l)) := by
  refine ro_of2 Try.func56 rfl rfl (by rw [Try.ntmps56]; simp) fun bl => ?_
  rw [Try.ntmps56, Try.results56]
  refine AW_run ?_
  simp [Str.c]
  intro g hg0 hg
  refine AW_way0 [(1, .sl (iv l)), (2, .loc g 2 0 0)] _ _ 4 (.bool (lOk s l)) ⟨rfl, by simp, Sub.refl _⟩ rfl ?_ ?_
  · simp
    refine callP_ro (impl_StructureOk_ro s hj hm hn) ?_
    simp
    refine ⟨fun h => ?_, fun h => ?_⟩
    · refine callP_borrow 2 (ys := [.ptr s.c, .sl (iv l)]) ?_ (fitsLoad_ro s l hj hl) rfl ?_
      · simp [frz, dropB, V.cl, Str.c]
      simp [lOk, h]
    · simp [lOk, h]
  simp
  exact retRO [_] 0 rfl rfl (by simp [hg])

theorem spec_LoadOk_ro (s : Str) (l : List Int) (hj : s.js.length ≤ 140737488351232) (hm : s.ms.length ≤ 140737488351232) (hn : ∀ j, j ∈ s.js → j.name.size ≤ 140737488351232) (hl : l.length ≤ 140737488351232) : RO Try.prog 55 [.agg s.c, .sl (iv l)] (.bool (lOk s l)) := by
  refine ro_of2 Try.func55 rfl rfl (by rw [Try.ntmps55]; simp) fun bl => ?_
  rw [Try.ntmps55, Try.results55]
  refine AW_run ?_
  simp [Str.c]
  intro g hg0 hg
  refine AW_way [(1, .sl (iv l)), (2, .loc g 2 0 0)] _ (upd bl g (some ⟨2, [s.c]⟩)) 18 (.bool (!(sOk s && decide (l.length = 2 * s.js.length)))) (upd bl g (some ⟨2, [s.c]⟩)) ⟨rfl, by simp, sub_eq (by simp [Str.c])⟩ rfl ?_ ?_
  · simp [Str.c]
    refine callP_ro (spec_StructureOk_ro s hj hm hn) ?_
    simp
    refine ⟨fun h => by simp [h], fun h => ?_⟩
    simp (disch := omega) [i64_in, h]
    rw [Bool.eq_iff_iff]; simp; omega
  simp [Str.c]
  refine ⟨fun h => ?_, fun h1 h2 => ?_⟩
  · refine retRO [_] 0 rfl ?_ (by simp [hg])
    simp [frz, lOk, fitsL]
    intro a b
    rcases h with h | h
    · rw [h] at a; cases a
    · exact absurd b h
  have hs : lOk s l = l.all forceOk := by simp [lOk, fitsL, h1, h2]
  rw [hs]
  refine AW_for (fun i : Nat => [(19, .sl (iv l)), (20, .int .i64 l.length), (21, .int .i64 i)]) (fun _ => bl) (fun i => i ≤ l.length ∧ ∀ j (h : j < l.length), j < i → forceOk l[j] = true) (fun i => l.length - i) _ 0 ⟨Nat.zero_le _, fun j _ h0 => by omega⟩ ⟨rfl, by simp, by simp [hg]⟩ ?_
  intro i ⟨hi, hc⟩
  refine AW_run ?_
  simp
  refine ⟨fun h3 => ?_, fun h3 => ?_⟩
  · simp [h3]
    refine callP_ro (l01In_ro _ _ _) ?_
    simp
    refine ⟨fun h => ?_, fun h4 h5 => ?_⟩
    · have h0 : forceOk l[i] = false := by
        simp [forceOk]; omega
      have : l.all forceOk = false := by
        rw [Bool.eq_false_iff]; intro hh
        rw [List.all_eq_true.1 hh _ (List.getElem_mem h3)] at h0; cases h0
      exact retRO [_] 0 rfl (by rw [this]; rfl) (Sub.refl _)
    · simp (disch := omega) [i64_in, loopQ_normal]
      refine ⟨i + 1, ⟨by omega, fun j hj1 hji => ?_⟩, by omega, rfl, by simp, Sub.refl _⟩
      rcases Nat.lt_or_ge j i with hlt | hge
      · exact hc j hj1 hlt
      · obtain rfl : j = i := by omega
        simp [forceOk, h4, h5]
  · have : l.all forceOk = true := List.all_eq_true.2 fun m hm => by
      obtain ⟨j, hj, rfl⟩ := List.mem_iff_getElem.1 hm
      exact hc j hj (by omega)
    exact retRO [_] 0 rfl (by rw [this]; rfl) (Sub.refl _)

theorem law_LoadOk_ro (s : Str) (l : List Int) (hj : s.js.length ≤ 140737488351232) (hm : s.ms.length ≤ 140737488351232) (hn : ∀ j, j ∈ s.js → j.name.size ≤ 140737488351232) (hl : l.length ≤ 140737488351232) :
    RO Try.prog 13 [.agg s.c, .sl (iv l)] (.bool true) := by
  refine ro_of2 Try.func13 rfl rfl (by rw [Try.ntmps13]; simp) fun bl => ?_
  rw [Try.ntmps13, Try.results13]
  refine AW_run ?_
  simp [Str.c]
  intro g hg0 hg
  refine ⟨fun h => ?_, fun hl1 => ?_⟩
  · exact retRO [_] 0 rfl rfl (by simp [hg])
  have hl2 : l.length ≤ 1048576 := by omega
  refine callP_ro (szStructure_ro s _ (by omega) hj hm hn) ?_
  try simp
  refine ⟨fun h => ?_, fun h => ?_⟩
  · exact retRO [_] 0 rfl rfl (by simp [hg])
  obtain ⟨l1, l2, _⟩ := szStr_le (s := s) (left := 1048576) (by omega) h
  have hc := toStructure_ro s (by omega) (by omega)
  have hv := toIntS_ro l hl2
  refine callP_ro hc ?_
  try simp
  refine callP_ro hv ?_
  try simp
  refine callP_ro (spec_LoadOk_ro s l hj hm hn hl) ?_
  try simp
  refine callP_ro hc ?_
  simp [Str.c]
  intro g2 hg2 h2 hb2
  try simp [h2, Ne.symm h2]
  refine callP_ro hv ?_
  try simp [h2, Ne.symm h2]
  refine callP_ro (impl_LoadOk_ro s l hj hm hn hl) ?_
  try simp
  refine AW_quiet mixedO (by kernel_rfl) ?_
  simp [h2, Ne.symm h2]
  refine hcQ_ro hc ?_
  try simp
  refine hcQ_ro (eqStructure_ro s s hj hm) ?_
  try simp
  refine callP_ro hv ?_
  try simp
  refine callP_ro (eqIntS_ro l l hl) ?_
  try simp
  exact retRO [_] 0 rfl rfl (by simp [hg, hb2])

end Go.Proofs.Ytpkphjoobeacfaa.Vm
