/- MixLoads of the reference. -/
import Derived.Test.YtpkphjoobeacfaaK34
namespace Go.Proofs.Ytpkphjoobeacfaa.Vm
open Go Go.Proofs
set_option linter.unusedSimpArgs false
set_option linter.unusedVariables false

theorem spec_MixLoads_nw (s : Str) (ws : List (List Int)) (wt : List Int) (hs : s.sz) (hw : ws.length ≤ 1048576) (hws : ∀ w, w ∈ ws → w.length ≤ 1048576) (hwt : wt.length ≤ 1048576) :
    NW Try.prog 70 [.agg s.c, .sl (ivv ws), .sl (iv wt)] (dOpt (mixR s ws wt) (mixOk s ws wt)) := by
  refine nw_of Try.func70 rfl rfl (by rw [Try.ntmps70]; simp) fun bl => ?_
  rw [Try.ntmps70, Try.results70]
  refine AW_run ?_
  simp [Str.c]
  intro g3 hg3 hb3
  have fail : ∀ σ : St, mixOk s ws wt = false → σ.n = 80 → σ.sl 6 = .nils → σ.sl 7 = .bool false → Sub bl σ.bl → retK Try.prog [.tmp 6, .tmp 7] (MadeK bl (dOpt (mixR s ws wt) (mixOk s ws wt))) .ret σ := by
    intro σ hno h72 h10 h11 hsub
    refine retNW [.nils, .bool false] [] (by simp [h72, h10, h11]) (own_opt.2 ⟨.nils, by simp [hno], ?_⟩) (by simp) hsub
    exact own_iv.2 (.inl ⟨by simp [mixR, hno], rfl, rfl⟩)
  refine AW_way0 [(1, .sl (ivv ws)), (2, .sl (iv wt)), (3, .loc g3 2 0 0)] _ _ 27 (.bool (!(decide (ws.length = wt.length) && decide (ws.length ≤ 10) && sOk s))) ⟨rfl, by simp, Sub.refl _⟩ rfl ?_ ?_
  · simp
    refine ⟨fun h => by grind, fun h => ⟨fun h1 => by grind, fun h1 => ?_⟩⟩
    refine callP_ro (spec_StructureOk_ro s hs.js hs.ms hs.nm) ?_
    simp
    grind
  simp
  refine ⟨fun h => ?_, fun h1 h2 hso => ?_⟩
  · refine fail _ ?_ rfl rfl rfl (by simp [hb3])
    unfold mixOk
    simp
    grind
  have h6 := (sOk_of hso).nj
  simp (disch := omega) [i64_in]
  refine ⟨2 * s.js.length, by simp, by simp, by omega, by unfold maxLen; omega, fun g hg0 hg => ?_⟩
  simp at hg
  obtain ⟨hg3', hgn⟩ := hg
  simp
  have er : List.replicate (2 * s.js.length) [V.int IntKind.i64 0] = iv (List.replicate (2 * s.js.length) 0) := by simp [iv]
  rw [er]
  rw [← mixL_zero (2 * s.js.length) ws wt]
  have hsub : ∀ X, Sub bl (upd (upd bl g3 (some ⟨2, [[.sl (jv s.js), .sl (mv s.ms)]]⟩)) g X) := fun X => by simp [hb3, hgn]
  refine AW_for (fun c : Nat => [(1, .sl (ivv ws)), (2, .sl (iv wt)), (3, .loc g3 2 0 0), (8, .lsl g 1 0 (2 * s.js.length)), (33, .sl (ivv ws)), (34, .int .i64 ws.length), (35, .int .i64 c)])
    (fun c => upd (upd bl g3 (some ⟨2, [[.sl (jv s.js), .sl (mv s.ms)]]⟩)) g (some ⟨1, iv (mixL (2 * s.js.length) ws wt c)⟩)) (fun c => c ≤ ws.length ∧ ∀ d, d < c → cOk s ws wt d = true) (fun c => ws.length - c) 80 0 ⟨Nat.zero_le _, by omega⟩ ⟨rfl, by simp, Sub.refl _⟩ ?_
  intro c ⟨hc, hall⟩
  refine AW_run ?_
  simp
  refine ⟨fun hcl => ?_, fun hcl => ?_⟩
  · have hwc : c < wt.length := by omega
    have egd : ws.getD c [] = ws[c] := by simp [hcl]
    simp [hcl]
    refine AW_way0 [(1, .sl (ivv ws)), (2, .sl (iv wt)), (3, .loc g3 2 0 0), (8, .lsl g 1 0 (2 * s.js.length)), (33, .sl (ivv ws)), (34, .int .i64 ws.length), (35, .int .i64 c), (9, .int .i64 c), (10, .sl (iv ws[c]))] _ _ 51 (.bool (!cOk s ws wt c)) ⟨rfl, by simp, Sub.refl _⟩ rfl ?_ ?_
    · simp
      simp [hg3', Ne.symm hg3']
      refine callP_ro (spec_LoadOk_ro s ws[c] hs.js hs.ms hs.nm (by have := hws _ (List.getElem_mem hcl); omega)) ?_
      have q := iv_at (l := wt) (i := c) hwc
      simp [cOk, egd, lOk, hso]
      refine ⟨fun h => by grind, fun h => ?_⟩
      simp [-iv_get, q, h]
      refine callP_ro (l01In_ro _ _ _) ?_
      simp
      intro hh
      rw [show ws[c]?.getD [] = ws[c] by simp [hcl], h] at hh
      cases hh
    simp
    refine ⟨fun h => ?_, fun h => ?_⟩
    · refine fail _ ?_ rfl rfl rfl (hsub _)
      have : ¬ ∀ c, c < ws.length → cOk s ws wt c = true := fun hh => by rw [hh c hcl] at h; cases h
      unfold mixOk
      simp [this]
    have hlc := (cOk_of h).1
    rw [egd] at hlc
    have hbc := (cOk_of h).2.1
    refine AW_for (fun i : Nat => [(1, .sl (ivv ws)), (2, .sl (iv wt)), (3, .loc g3 2 0 0), (8, .lsl g 1 0 (2 * s.js.length)), (33, .sl (ivv ws)), (34, .int .i64 ws.length), (35, .int .i64 c), (9, .int .i64 c), (52, .sl (iv ws[c])), (53, .int .i64 ws[c].length), (54, .int .i64 i)])
      (fun i => upd (upd bl g3 (some ⟨2, [[.sl (jv s.js), .sl (mv s.ms)]]⟩)) g (some ⟨1, over (iv (mixL (2 * s.js.length) ws wt (c + 1))) (iv (mixL (2 * s.js.length) ws wt c)) i⟩)) (fun i => i ≤ 2 * s.js.length) (fun i => 2 * s.js.length - i) 80 0 (Nat.zero_le _) ⟨rfl, by simp, sub_eq (by simp)⟩ ?_
    intro i hi
    refine AW_run ?_
    simp
    refine ⟨fun hil => ?_, fun hil => ?_⟩
    · have hi2 : i < 2 * s.js.length := by omega
      have st := mix_step h hi2
      have bd := mixC_le (ws := ws) (wt := wt) hi2 c hall
      have q1 := iv_at (l := wt) (i := c) hwc
      have q2 := iv_at (l := ws[c]) (i := i) hil
      have q3 := over_get (iv (mixL (2 * s.js.length) ws wt (c + 1))) (iv (mixL (2 * s.js.length) ws wt c)) i (by simp) (by simpa using hi2)
      simp [-iv_get, q2]
      refine AW_mixedT mixedO [0, 1, 2, 3, 4, 5, 6, 7, 8, 9, 10, 11, 12, 13] 1 14 (by kernel_rfl) ?_
      have hi3 : (i : Int) < 2 * (s.js.length : Int) := by omega
      simp [-iv_get, q1, q3, hi2, hi3]
      have e1 : IntKind.i64.wrap (lat wt c * lat ws[c] i) = lat wt c * lat ws[c] i := by
        rw [egd] at st
        exact i64_in (by omega) (by omega)
      have e2 : IntKind.i64.wrap (mixC ws wt i c + lat wt c * lat ws[c] i) = mixC ws wt i (c + 1) := by
        rw [egd] at st
        rw [mixC, egd]; exact i64_in (by omega) (by omega)
      rw [e1, e2]
      refine DAny_last (i := 14) (by kernel_rfl) rfl rfl rfl ?_
      simp [q3]
      refine DAny_done (by kernel_rfl) ?_
      simp (disch := omega) [i64_in, loopQ_normal]
      refine ⟨i + 1, by omega, by omega, rfl, by simp, sub_eq ?_⟩
      rw [over_set _ _ _ (by simp) (by simpa using hi2) _ (by simp)]
    · have : i = 2 * s.js.length := by omega
      subst this
      rw [over_all _ _ _ (by simp) (by simp)]
      have w1 : IntKind.i64.wrap ((c : Int) + 1) = c + 1 := i64_in (by omega) (by omega)
      simp [w1, loopQ_normal]
      refine ⟨c + 1, ⟨by omega, fun d hd => ?_⟩, by omega, rfl, by simp, Sub.refl _⟩
      rcases Nat.lt_or_ge d c with hlt | hge
      · exact hall d hlt
      · obtain rfl : d = c := by omega
        exact h
  · have : c = ws.length := by omega
    subst this
    have hR : mixOk s ws wt = fitsL s.js (mixL (2 * s.js.length) ws wt ws.length) := by
      unfold mixOk
      have : decide (∀ c, c < ws.length → cOk s ws wt c = true) = true := decide_eq_true hall
      rw [this]
      simp [h1, h2, hso]
      simp [← h1, h2]
    have o : OwnD (upd (upd bl g3 (some ⟨2, [[.sl (jv s.js), .sl (mv s.ms)]]⟩)) g (some ⟨1, iv (mixL (2 * s.js.length) ws wt ws.length)⟩)) (fl 1 (iv (mixL (2 * s.js.length) ws wt ws.length))) (.lsl g 1 0 (2 * s.js.length)) [g] := own_iv.2 (.inr ⟨g, by simp, rfl, by simp, by omega⟩)
    simp [hg3', Ne.symm hg3']
    refine callP_borrow 3 (ys := [.agg s.c, .sl (iv (mixL (2 * s.js.length) ws wt ws.length))]) (by simp [frz_iv o 2]; simp [frz, V.cl, Str.c]) (spec_LoadOk_ro s _ hs.js hs.ms hs.nm (by simp; omega)) rfl ?_
    simp [lOk, hso]
    refine ⟨fun h => fail _ (by rw [hR]; exact h) rfl rfl rfl (hsub _), fun h => ?_⟩
    have hok : mixOk s ws wt = true := by rw [hR]; exact h
    refine retNW [.lsl g 1 0 (2 * s.js.length), .bool true] [g] (by simp) (own_opt.2 ⟨_, by simp [hok]; rfl, ?_⟩) (by simpa using hgn) (hsub _)
    have : mixR s ws wt = mixL (2 * s.js.length) ws wt ws.length := by simp [mixR, hok]
    rw [this]
    exact o

theorem spec_MixLoads_ro (s : Str) (ws : List (List Int)) (wt : List Int) (hs : s.sz) (hw : ws.length ≤ 1048576) (hws : ∀ w, w ∈ ws → w.length ≤ 1048576) (hwt : wt.length ≤ 1048576) :
    RO Try.prog 70 [.agg s.c, .sl (ivv ws), .sl (iv wt)] (.tup [.sl (iv (mixR s ws wt)), .bool (mixOk s ws wt)]) := by
  have := ro_of_nw 2 (spec_MixLoads_nw s ws wt hs hw hws hwt) (dOpt_dep _ _)
  rwa [dOpt_fz] at this
theorem impl_MixLoads_ro (s : Str) (ws : List (List Int)) (wt : List Int) (hs : s.sz) (hw : ws.length ≤ 1048576) (hws : ∀ w, w ∈ ws → w.length ≤ 1048576) (hwt : wt.length ≤ 1048576) :
    RO Try.prog 42 [.agg s.c, .sl (ivv ws), .sl (iv wt)] (.tup [.sl (iv (mixR s ws wt)), .bool (mixOk s ws wt)]) := by
  have := ro_of_nw 2 (impl_MixLoads_nw s ws wt hs hw hws hwt) (dOpt_dep _ _)
  rwa [dOpt_fz] at this
theorem mixR_le (s : Str) (ws : List (List Int)) (wt : List Int) : (mixR s ws wt).length ≤ 12 := by
  unfold mixR
  split
  · rename_i h
    unfold mixOk at h
    simp only [Bool.and_eq_true] at h
    have := (sOk_of h.1.1.2).nj
    simp; omega
  · simp

end Go.Proofs.Ytpkphjoobeacfaa.Vm
