/- WithoutMembers. -/
import Derived.Test.YtpkphjoobeacfaaK22
namespace Go.Proofs.Ytpkphjoobeacfaa.Vm
open Go Go.Proofs
set_option linter.unusedSimpArgs false
set_option linter.unusedVariables false

theorem Index_ints_ro (l : List Int) (k : Int) (hl : l.length ≤ 140737488351232) : RO Try.prog 131 [.sl (iv l), .int .i64 k] (.int .i64 (ixf (fun x => decide (k = x)) l)) := by
  refine ro_of2 Try.func131 rfl rfl (by rw [Try.ntmps131]; simp) fun bl => ?_
  rw [Try.ntmps131, Try.results131]
  refine AW_run ?_
  simp
  refine AW_for (fun i : Nat => [(0, .sl (iv l)), (1, .int .i64 k), (7, .int .i64 l.length), (8, .int .i64 i)]) (fun _ => bl) (fun i => i ≤ l.length ∧ ∀ j (h1 : j < l.length), j < i → decide (k = l[j]) = false) (fun i => l.length - i) _ 0 ⟨Nat.zero_le _, fun j _ h0 => by omega⟩ ⟨rfl, by simp, Sub.refl _⟩ ?_
  intro i ⟨hi, hc⟩
  refine AW_run ?_
  simp
  refine ⟨fun h1 => ?_, fun h1 => ?_⟩
  · simp [h1]
    refine ⟨fun h2 => ?_, fun h2 => ?_⟩
    · exact retRO0 (by rw [ixf_here (p := fun x => decide (k = x)) h1 hc (by simpa using h2)]; simp) rfl rfl
    · simp (disch := omega) [i64_in, loopQ_normal]
      refine ⟨i + 1, ⟨by omega, fun j hj1 hji => ?_⟩, by omega, rfl, by simp, Sub.refl _⟩
      rcases Nat.lt_or_ge j i with hlt | hge
      · simpa using hc j hj1 hlt
      · obtain rfl : j = i := by omega
        simpa using h2
  · exact retRO0 (by rw [ixf_none (p := fun x => decide (k = x)) fun j hj => hc j hj (by omega)]; simp) rfl rfl

theorem any_eq (l : List Int) (k : Int) : (l.any fun x => decide (k = x)) = decide (k ∈ l) := by
  rw [Bool.eq_iff_iff]; simp

theorem Contains_ints_ro (l : List Int) (k : Int) (hl : l.length ≤ 140737488351232) : RO Try.prog 112 [.sl (iv l), .int .i64 k] (.bool (decide (k ∈ l))) := by
  refine ro_of2 Try.func112 rfl rfl (by rw [Try.ntmps112]; simp) fun bl => ?_
  rw [Try.ntmps112, Try.results112]
  refine AW_run ?_
  simp
  refine callP_ro (Index_ints_ro l k hl) ?_
  simp
  exact retRO0 (by simp [ixf_lt, any_eq]) rfl rfl

theorem l12Has_ro (l : List Int) (k : Int) (hl : l.length ≤ 140737488351232) : RO Try.prog 110 [.sl (iv l), .int .i64 k] (.bool (decide (k ∈ l))) := by
  refine ro_of2 Try.func110 rfl rfl (by rw [Try.ntmps110]; simp) fun bl => ?_
  rw [Try.ntmps110, Try.results110]
  refine AW_run ?_
  simp
  refine AW_for (fun i : Nat => [(1, .int .i64 k), (7, .sl (iv l)), (8, .int .i64 l.length), (9, .int .i64 i)]) (fun _ => bl) (fun i => i ≤ l.length ∧ ∀ j (h1 : j < l.length), j < i → ¬ l[j] = k) (fun i => l.length - i) _ 0 ⟨Nat.zero_le _, fun j _ h0 => by omega⟩ ⟨rfl, by simp, Sub.refl _⟩ ?_
  intro i ⟨hi, hc⟩
  refine AW_run ?_
  simp
  refine ⟨fun h1 => ?_, fun h1 => ?_⟩
  · simp [h1]
    refine ⟨fun h2 => ?_, fun h2 => ?_⟩
    · exact retRO0 (by simp; rw [← h2]; exact List.getElem_mem h1) rfl rfl
    · simp (disch := omega) [i64_in, loopQ_normal]
      refine ⟨i + 1, ⟨by omega, fun j hj1 hji => ?_⟩, by omega, rfl, by simp, Sub.refl _⟩
      rcases Nat.lt_or_ge j i with hlt | hge
      · exact hc j hj1 hlt
      · obtain rfl : j = i := by omega
        exact h2
  · refine retRO0 (by
      simp
      intro hm
      obtain ⟨j, hj, e⟩ := List.mem_iff_getElem.1 hm
      exact hc j hj (by omega) e) rfl rfl

/-! ### Clones -/
theorem Clone_ints_nw (a : List Int) (ha : a.length ≤ 1048576) : NW Try.prog 100 [.sl (iv a)] (fl 1 (iv a)) := by
  cases a with
  | nil =>
    intro bl
    refine callP_nilsplit ?_ ?_
    · refine callP_made ?_
      refine callP_of Try.func100 rfl rfl (by rw [Try.ntmps100]; simp) ?_
      rw [Try.ntmps100, Try.results100]
      refine AW_run ?_
      simp
      exact retNW [.nils] [] rfl (own_iv.2 (.inl ⟨rfl, rfl, rfl⟩)) (by simp) (Sub.refl _)
    · refine callP_made ?_
      refine callP_of Try.func100 rfl rfl (by rw [Try.ntmps100]; simp) ?_
      rw [Try.ntmps100, Try.results100]
      refine AW_run ?_
      simp
      intro g hg0 hg
      simp [appV, elsV]
      intro g' hb'
      refine retNW [.lsl g' 1 0 0] [g'] (by simp) (own_iv.2 (.inr ⟨g', rfl, rfl, by simp [iv], fun _ => rfl⟩)) ?_ ?_
      · simp; grind
      · have : bl g' = none := by grind
        simp [hg, this]
  | cons x a =>
    simp only [List.length_cons] at ha
    refine nw_of Try.func100 rfl rfl (by rw [Try.ntmps100]; simp) fun bl => ?_
    rw [Try.ntmps100, Try.results100]
    refine AW_run ?_
    simp [iv]
    intro g hg0 hg
    simp [appV, elsV]
    refine ⟨by omega, fun g' hg' hb' => ?_⟩
    have hbn : bl g' = none := by grind
    refine retNW [.lsl g' 1 0 (a.length + 1)] [g'] (by simp) ?_ (by simpa using hbn) (by simp [hg, hbn])
    exact (own_iv (ns := x :: a)).2 (.inr ⟨g', by simp, rfl, by simp [iv], by omega⟩)
theorem Clone_ints_ro (a : List Int) (ha : a.length ≤ 1048576) : RO Try.prog 100 [.sl (iv a)] (.sl (iv a)) := by
  have := ro_of_nw 1 (Clone_ints_nw a ha) (fl_dep _ _ 0)
  simpa using this

theorem Clone_joints_nw (a : List J) (ha : a.length ≤ 1048576) : NW Try.prog 111 [.sl (jv a)] (fl 4 (jv a)) := by
  cases a with
  | nil =>
    intro bl
    refine callP_nilsplit ?_ ?_
    · refine callP_made ?_
      refine callP_of Try.func111 rfl rfl (by rw [Try.ntmps111]; simp) ?_
      rw [Try.ntmps111, Try.results111]
      refine AW_run ?_
      simp
      exact retNW [.nils] [] rfl (own_jv.2 (.inl ⟨rfl, rfl, rfl⟩)) (by simp) (Sub.refl _)
    · refine callP_made ?_
      refine callP_of Try.func111 rfl rfl (by rw [Try.ntmps111]; simp) ?_
      rw [Try.ntmps111, Try.results111]
      refine AW_run ?_
      simp
      intro g hg0 hg
      simp [appV, elsV]
      intro g' hb'
      refine retNW [.lsl g' 4 0 0] [g'] (by simp) (own_jv.2 (.inr ⟨g', rfl, rfl, by simp [jv], fun _ => rfl⟩)) ?_ ?_
      · simp; grind
      · have : bl g' = none := by grind
        simp [hg, this]
  | cons x a =>
    simp only [List.length_cons] at ha
    refine nw_of Try.func111 rfl rfl (by rw [Try.ntmps111]; simp) fun bl => ?_
    rw [Try.ntmps111, Try.results111]
    refine AW_run ?_
    simp [jv]
    intro g hg0 hg
    have hone : ∀ j : J, j.c.all V.one = true := fun j => by simp [J.c]
    have hall : (List.all (List.map J.c a) fun c => (c.length == 4 && c.all V.one)) = true := by simp [J.c]
    simp [appV, elsV, hone]
    refine ⟨by omega, fun g' hg' hb' => ?_⟩
    have hbn : bl g' = none := by grind
    refine retNW [.lsl g' 4 0 (a.length + 1)] [g'] (by simp) ?_ (by simpa using hbn) (by simp [hg, hbn])
    exact (own_jv (ns := x :: a)).2 (.inr ⟨g', by simp, rfl, by simp [jv], by omega⟩)

end Go.Proofs.Ytpkphjoobeacfaa.Vm
