/- Slices of numbers: copies and comparisons; the law SameLoads. -/
import Derived.Test.YtpkphjoobeacfaaK3
namespace Go.Proofs.Ytpkphjoobeacfaa.Vm
open Go Go.Proofs
set_option linter.unusedSimpArgs false
set_option linter.unusedVariables false

theorem mixedO : Try.prog.follows .mixedOrders = true := by kernel_rfl

/-- Numbers as the elements of a slice. -/
def iv (ns : List Int) : List (List V) := ns.map fun n => [.int .i64 n]
@[simp] theorem iv_length (ns : List Int) : (iv ns).length = ns.length := by simp [iv]
@[simp] theorem iv_get (ns : List Int) (i : Nat) (h : i < ns.length) : (iv ns)[i]? = some [.int .i64 ns[i]] := by simp [iv, h]

@[simp] theorem iv_getE (ns : List Int) (i : Nat) (h : i < (iv ns).length) : (iv ns)[i] = [.int .i64 (ns[i]'(by simpa using h))] := by simp [iv]

theorem iv_cl (ns : List Int) : (iv ns).all (fun e => e.all V.cl) = true := by simp [iv, V.cl]

theorem eqIntS_ro (a b : List Int) (ha : a.length ≤ 140737488351232) : RO Try.prog 31 [.sl (iv a), .sl (iv b)] (.bool (decide (a = b))) := by
  refine ro_of2 Try.func31 rfl rfl (by rw [Try.ntmps31]; simp) fun bl => ?_
  rw [Try.ntmps31, Try.results31]
  refine AW_run ?_
  simp
  refine ⟨fun h => ?_, fun h => ?_⟩
  · exact retRO0 (by simp; rintro rfl; exact h rfl) rfl rfl
  refine AW_for (fun i : Nat => [(0, .sl (iv a)), (1, .sl (iv b)), (5, .int .i64 i)]) (fun _ => bl) (fun i => i ≤ a.length ∧ ∀ j (h1 : j < a.length) (h2 : j < b.length), j < i → a[j] = b[j]) (fun i => a.length - i) _ 0 ⟨Nat.zero_le _, fun j _ _ h0 => by omega⟩ ⟨rfl, by simp, Sub.refl _⟩ ?_
  intro i ⟨hi, hc⟩
  refine AW_run ?_
  simp
  refine ⟨fun h1 => ?_, fun h1 => ?_⟩
  · refine AW_quiet mixedO (by kernel_rfl) ?_
    have h2 : i < b.length := by omega
    simp [h1, h2]
    refine ⟨fun h3 => ?_, fun h3 => ?_⟩
    · exact retRO0 (by simp; rintro rfl; exact h3 rfl) rfl rfl
    · simp (disch := omega) [i64_in, loopQ_normal]
      refine ⟨i + 1, ⟨by omega, fun j hj1 hj2 hji => ?_⟩, by omega, rfl, by simp, Sub.refl _⟩
      rcases Nat.lt_or_ge j i with hlt | hge
      · exact hc j hj1 hj2 hlt
      · obtain rfl : j = i := by omega
        exact h3
  · refine retRO0 (by simp; exact List.ext_getElem (by omega) fun j hj1 hj2 => hc j hj1 hj2 (by omega)) rfl rfl

theorem Equal_ints_ro (a b : List Int) (ha : a.length ≤ 140737488351232) : RO Try.prog 83 [.sl (iv a), .sl (iv b)] (.bool (decide (a = b))) := by
  refine ro_of2 Try.func83 rfl rfl (by rw [Try.ntmps83]; simp) fun bl => ?_
  rw [Try.ntmps83, Try.results83]
  refine AW_run ?_
  simp
  refine ⟨fun h => ?_, fun h => ?_⟩
  · exact retRO0 (by simp; rintro rfl; exact h rfl) rfl rfl
  refine AW_for (fun i : Nat => [(0, .sl (iv a)), (1, .sl (iv b)), (12, .int .i64 a.length), (13, .int .i64 i)]) (fun _ => bl) (fun i => i ≤ a.length ∧ ∀ j (h1 : j < a.length) (h2 : j < b.length), j < i → a[j] = b[j]) (fun i => a.length - i) _ 0 ⟨Nat.zero_le _, fun j _ _ h0 => by omega⟩ ⟨rfl, by simp, Sub.refl _⟩ ?_
  intro i ⟨hi, hc⟩
  refine AW_run ?_
  simp
  refine ⟨fun h1 => ?_, fun h1 => ?_⟩
  · refine AW_quiet mixedO (by kernel_rfl) ?_
    have h2 : i < b.length := by omega
    simp [h1, h2]
    refine ⟨fun h3 => ?_, fun h3 => ?_⟩
    · exact retRO0 (by simp; rintro rfl; exact h3 rfl) rfl rfl
    · simp (disch := omega) [i64_in, loopQ_normal]
      refine ⟨i + 1, ⟨by omega, fun j hj1 hj2 hji => ?_⟩, by omega, rfl, by simp, Sub.refl _⟩
      rcases Nat.lt_or_ge j i with hlt | hge
      · exact hc j hj1 hj2 hlt
      · obtain rfl : j = i := by omega
        exact h3
  · refine retRO0 (by simp; exact List.ext_getElem (by omega) fun j hj1 hj2 => hc j hj1 hj2 (by omega)) rfl rfl

theorem impl_SameLoads_ro (a b : List Int) (ha : a.length ≤ 140737488351232) : RO Try.prog 30 [.sl (iv a), .sl (iv b)] (.bool (decide (a = b))) := by
  refine ro_of2 Try.func30 rfl rfl (by rw [Try.ntmps30]; simp) fun bl => ?_
  rw [Try.ntmps30, Try.results30]
  refine AW_run ?_
  simp
  refine callP_ro (Equal_ints_ro a b ha) ?_
  simp
  exact retRO0 (by simp) rfl rfl

theorem spec_SameLoads_ro (a b : List Int) (ha : a.length ≤ 140737488351232) : RO Try.prog 28 [.sl (iv a), .sl (iv b)] (.bool (decide (a = b))) := by
  refine ro_of2 Try.func28 rfl rfl (by rw [Try.ntmps28]; simp) fun bl => ?_
  rw [Try.ntmps28, Try.results28]
  refine AW_run ?_
  simp
  refine ⟨fun h => ?_, fun h => ?_⟩
  · exact retRO0 (by simp; rintro rfl; exact h rfl) rfl rfl
  refine AW_for (fun i : Nat => [(1, .sl (iv b)), (12, .sl (iv a)), (13, .int .i64 a.length), (14, .int .i64 i)]) (fun _ => bl) (fun i => i ≤ a.length ∧ ∀ j (h1 : j < a.length) (h2 : j < b.length), j < i → a[j] = b[j]) (fun i => a.length - i) _ 0 ⟨Nat.zero_le _, fun j _ _ h0 => by omega⟩ ⟨rfl, by simp, Sub.refl _⟩ ?_
  intro i ⟨hi, hc⟩
  refine AW_run ?_
  simp
  refine ⟨fun h1 => ?_, fun h1 => ?_⟩
  · have h2 : i < b.length := by omega
    simp [h1, h2]
    refine ⟨fun h3 => ?_, fun h3 => ?_⟩
    · exact retRO0 (by simp; rintro rfl; exact h3 rfl) rfl rfl
    · simp (disch := omega) [i64_in, loopQ_normal]
      refine ⟨i + 1, ⟨by omega, fun j hj1 hj2 hji => ?_⟩, by omega, rfl, by simp, Sub.refl _⟩
      rcases Nat.lt_or_ge j i with hlt | hge
      · exact hc j hj1 hj2 hlt
      · obtain rfl : j = i := by omega
        exact h3
  · refine retRO0 (by simp; exact List.ext_getElem (by omega) fun j hj1 hj2 => hc j hj1 hj2 (by omega)) rfl rfl

theorem toIntS_ro (a : List Int) (ha : a.length ≤ 1048576) : RO Try.prog 29 [.sl (iv a)] (.sl (iv a)) := by
  refine ro_of2 Try.func29 rfl rfl (by rw [Try.ntmps29]; simp) fun bl => ?_
  rw [Try.ntmps29, Try.results29]
  refine AW_run ?_
  simp
  refine ⟨by omega, by unfold maxLen; omega, fun g hg0 hg => ?_⟩
  refine AW_for (fun i : Nat => [(0, .sl (iv a)), (3, .lsl g 1 0 a.length), (4, .int .i64 i)]) (fun i => upd bl g (some ⟨1, part (iv a) [.int .i64 0] i⟩)) (fun i => i ≤ a.length) (fun i => a.length - i) _ 0 (Nat.zero_le _) ⟨rfl, by simp, sub_eq (by simp)⟩ ?_
  intro i hi
  refine AW_run ?_
  simp
  refine ⟨fun h => ?_, fun h => ?_⟩
  · have hi' : i < (iv a).length := by simpa using h
    simp (disch := omega) [h, part_get _ _ _ hi', i64_in, loopQ_normal]
    refine ⟨i + 1, by omega, by omega, rfl, by simp, sub_eq ?_⟩
    simp only [upd_idem]
    rw [part_set _ _ _ hi']
    simp
  · refine retRO [.lsl g 1 0 a.length] 1 (by simp) ?_ (by simp [hg])
    rw [part_all _ _ _ (by simpa using h)]
    exact frz_slice hg0 hg (by simp) (by simp) (iv_cl a)

theorem law_SameLoads_ro (a b : List Int) (ha : a.length ≤ 17592186044416) (hb : b.length ≤ 17592186044416) : RO Try.prog 5 [.sl (iv a), .sl (iv b)] (.bool true) := by
  refine ro_of2 Try.func5 rfl rfl (by rw [Try.ntmps5]; simp) fun bl => ?_
  rw [Try.ntmps5, Try.results5]
  refine AW_run ?_
  simp
  refine ⟨fun h => ?_, fun h1 => ⟨fun h => ?_, fun h2 => ?_⟩⟩
  · exact retRO0 (by simp) rfl rfl
  · exact retRO0 (by simp) rfl rfl
  have ha' : a.length ≤ 1048576 := by omega
  have hb' : b.length ≤ 1048576 := by omega
  refine callP_ro (toIntS_ro a ha') ?_
  simp
  refine callP_ro (toIntS_ro b hb') ?_
  simp
  refine callP_ro (spec_SameLoads_ro a b (by omega)) ?_
  simp
  refine callP_ro (toIntS_ro a ha') ?_
  simp
  refine callP_ro (toIntS_ro b hb') ?_
  simp
  refine callP_ro (impl_SameLoads_ro a b (by omega)) ?_
  simp
  refine callP_ro (toIntS_ro a ha') ?_
  simp
  refine callP_ro (eqIntS_ro a a (by omega)) ?_
  simp
  refine callP_ro (toIntS_ro b hb') ?_
  simp
  refine callP_ro (eqIntS_ro b b (by omega)) ?_
  simp
  exact retRO0 (by simp) rfl rfl

end Go.Proofs.Ytpkphjoobeacfaa.Vm
