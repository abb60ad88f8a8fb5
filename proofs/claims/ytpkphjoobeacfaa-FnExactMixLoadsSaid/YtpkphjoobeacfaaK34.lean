/- MixLoads of the program. -/
import Derived.Test.YtpkphjoobeacfaaK31
import Derived.Test.YtpkphjoobeacfaaK33
namespace Go.Proofs.Ytpkphjoobeacfaa.Vm
open Go Go.Proofs
set_option linter.unusedSimpArgs false
set_option linter.unusedVariables false

theorem callP_one {P : Program} {f : FuncId} {xs : List V} {bl : Int → Option Blk} {V0 : Int → V} {B : Blk}
    (h : CallP P f xs bl fun v bl' => ∃ g : Int, 0 ≤ g ∧ bl g = none ∧ v = V0 g ∧ bl' g = some B ∧ Sub bl bl') : CallP P f xs bl fun v bl' => ∃ g : Int, 0 ≤ g ∧ bl g = none ∧ v = V0 g ∧ bl' = upd bl g (some B) :=
  ⟨h.1, fun w0 M F w vs hm hr => (h.2 w0 M F w vs hm hr).mono fun e w' ⟨v, x, bl', F', h1, h2, h3, h4, h5, h6, g, h7, h8, h9, h10, h11⟩ => by
    refine ⟨v, x, upd bl g (some B), F', h1, h2, h3, h4, h5.sub fun y b hb => ?_, h6, g, h7, h8, h9, rfl⟩
    rw [upd_apply] at hb
    split at hb
    · rename_i e; rw [e, h10, hb]
    · exact h11 y b hb⟩

theorem impl_NoLoad_one (s : Str) (hs : s.sz) (h : sOk s = true) (bl : Int → Option Blk) : CallP Try.prog 43 [.agg s.c] bl fun v bl' => ∃ g : Int, 0 ≤ g ∧ bl g = none ∧ v = .lsl g 1 0 (2 * s.js.length) ∧ bl' = upd bl g (some ⟨1, iv (List.replicate (2 * s.js.length) 0)⟩) := by
  have hj := hs.js
  refine callP_one (V0 := fun g => .lsl g 1 0 (2 * s.js.length)) ?_
  refine callP_of Try.func43 rfl rfl (by rw [Try.ntmps43]; simp) ?_
  rw [Try.ntmps43, Try.results43]
  refine AW_run ?_
  simp [Str.c]
  intro g hg0 hg
  refine callP_ro (impl_StructureOk_ro s hs.js hs.ms hs.nm) ?_
  simp [h]
  have h6 := (sOk_of h).nj
  simp (disch := omega) [i64_in]
  refine ⟨2 * s.js.length, by simp, by simp, by omega, by unfold maxLen; omega, fun g1 hg1 hb1 => ?_⟩
  simp at hb1
  obtain ⟨h1g, hb1⟩ := hb1
  simp
  rw [retK_ret]
  refine ⟨[.lsl g1 1 0 (2 * s.js.length)], by simp, g1, hg1, hb1, rfl, by simp [iv], by simp [hb1, hg]⟩

/-! ### Mixtures -/
def mixC (ws : List (List Int)) (wt : List Int) (i : Nat) : Nat → Int
  | 0 => 0
  | c + 1 => mixC ws wt i c + lat wt c * lat (ws.getD c []) i
def mixL (m : Nat) (ws : List (List Int)) (wt : List Int) (c : Nat) : List Int := (List.range m).map fun i => mixC ws wt i c
@[simp] theorem mixL_length (m : Nat) (ws : List (List Int)) (wt : List Int) (c : Nat) : (mixL m ws wt c).length = m := by simp [mixL]
@[simp] theorem mixL_getE (m : Nat) (ws : List (List Int)) (wt : List Int) (c i : Nat) (h : i < (mixL m ws wt c).length) : (mixL m ws wt c)[i] = mixC ws wt i c := by simp [mixL]
theorem mixL_zero (m : Nat) (ws : List (List Int)) (wt : List Int) : mixL m ws wt 0 = List.replicate m 0 := by
  apply List.ext_getElem <;> simp [mixL, mixC]
def cOk (s : Str) (ws : List (List Int)) (wt : List Int) (c : Nat) : Bool := fitsL s.js (ws.getD c []) && (decide (0 ≤ lat wt c) && decide (lat wt c ≤ 100))
def mixOk (s : Str) (ws : List (List Int)) (wt : List Int) : Bool := decide (ws.length = wt.length) && decide (ws.length ≤ 10) && sOk s && decide (∀ c, c < ws.length → cOk s ws wt c = true) && fitsL s.js (mixL (2 * s.js.length) ws wt ws.length)
def mixR (s : Str) (ws : List (List Int)) (wt : List Int) : List Int := if mixOk s ws wt = true then mixL (2 * s.js.length) ws wt ws.length else []
theorem cOk_of {s : Str} {ws : List (List Int)} {wt : List Int} {c : Nat} (h : cOk s ws wt c = true) : (ws.getD c []).length = 2 * s.js.length ∧ (∀ i, i < 2 * s.js.length → -100 ≤ lat (ws.getD c []) i ∧ lat (ws.getD c []) i ≤ 100) ∧ 0 ≤ lat wt c ∧ lat wt c ≤ 100 := by
  unfold cOk at h
  simp only [Bool.and_eq_true, decide_eq_true_eq] at h
  obtain ⟨h1, h2⟩ := fitsL_of h.1
  exact ⟨h1, fun i hi => h2 i (by omega), h.2⟩
theorem mix_step {s : Str} {ws : List (List Int)} {wt : List Int} {c i : Nat} (h : cOk s ws wt c = true) (hi : i < 2 * s.js.length) : -10000 ≤ lat wt c * lat (ws.getD c []) i ∧ lat wt c * lat (ws.getD c []) i ≤ 10000 := by
  obtain ⟨_, h2, h3⟩ := cOk_of h
  have := mul_le (a := lat wt c) (p := 100) (by omega) (h2 i hi)
  omega
theorem mixC_le {s : Str} {ws : List (List Int)} {wt : List Int} {i : Nat} (hi : i < 2 * s.js.length) : ∀ c, (∀ d, d < c → cOk s ws wt d = true) → -(10000 * c : Int) ≤ mixC ws wt i c ∧ mixC ws wt i c ≤ 10000 * c
  | 0, _ => by simp [mixC]
  | c + 1, h => by
    have h1 := mixC_le hi c fun d hd => h d (by omega)
    have h2 := mix_step (h c (by omega)) hi
    simp only [mixC]
    omega

theorem impl_MixLoads_nw (s : Str) (ws : List (List Int)) (wt : List Int) (hs : s.sz) (hw : ws.length ≤ 1048576) (hws : ∀ w, w ∈ ws → w.length ≤ 1048576) (hwt : wt.length ≤ 1048576) :
    NW Try.prog 42 [.agg s.c, .sl (ivv ws), .sl (iv wt)] (dOpt (mixR s ws wt) (mixOk s ws wt)) := by
  refine nw_of Try.func42 rfl rfl (by rw [Try.ntmps42]; simp) fun bl => ?_
  rw [Try.ntmps42, Try.results42]
  refine AW_run ?_
  simp [Str.c]
  intro g3 hg3 hb3
  have fail : ∀ σ : St, mixOk s ws wt = false → σ.n = 79 → σ.sl 6 = .nils → σ.sl 7 = .bool false → Sub bl σ.bl → retK Try.prog [.tmp 6, .tmp 7] (MadeK bl (dOpt (mixR s ws wt) (mixOk s ws wt))) .ret σ := by
    intro σ hno h72 h10 h11 hsub
    refine retNW [.nils, .bool false] [] (by simp [h72, h10, h11]) (own_opt.2 ⟨.nils, by simp [hno], ?_⟩) (by simp) hsub
    exact own_iv.2 (.inl ⟨by simp [mixR, hno], rfl, rfl⟩)
  refine AW_way0 [(1, .sl (ivv ws)), (2, .sl (iv wt)), (3, .loc g3 2 0 0)] _ _ 27 (.bool (!(decide (ws.length = wt.length) && decide (ws.length ≤ 10) && sOk s))) ⟨rfl, by simp, Sub.refl _⟩ rfl ?_ ?_
  · simp
    refine ⟨fun h => by grind, fun h => ⟨fun h1 => by grind, fun h1 => ?_⟩⟩
    refine callP_ro (impl_StructureOk_ro s hs.js hs.ms hs.nm) ?_
    simp
    grind
  simp
  refine ⟨fun h => ?_, fun h1 h2 hso => ?_⟩
  · refine fail _ ?_ rfl rfl rfl (by simp [hb3])
    unfold mixOk
    simp
    grind
  have h6 := (sOk_of hso).nj
  refine (impl_NoLoad_one s hs hso _).mono fun v bl' hh => ?_
  obtain ⟨g, hg0, hg, rfl, rfl⟩ := hh
  simp at hg
  obtain ⟨hg3', hgn⟩ := hg
  simp
  rw [← mixL_zero (2 * s.js.length) ws wt]
  have hsub : ∀ X, Sub bl (upd (upd bl g3 (some ⟨2, [[.sl (jv s.js), .sl (mv s.ms)]]⟩)) g X) := fun X => by simp [hb3, hgn]
  refine AW_for (fun c : Nat => [(1, .sl (ivv ws)), (2, .sl (iv wt)), (3, .loc g3 2 0 0), (8, .lsl g 1 0 (2 * s.js.length)), (30, .sl (ivv ws)), (31, .int .i64 ws.length), (32, .int .i64 c)])
    (fun c => upd (upd bl g3 (some ⟨2, [[.sl (jv s.js), .sl (mv s.ms)]]⟩)) g (some ⟨1, iv (mixL (2 * s.js.length) ws wt c)⟩)) (fun c => c ≤ ws.length ∧ ∀ d, d < c → cOk s ws wt d = true) (fun c => ws.length - c) 79 0 ⟨Nat.zero_le _, by omega⟩ ⟨rfl, by simp, Sub.refl _⟩ ?_
  intro c ⟨hc, hall⟩
  refine AW_run ?_
  simp
  refine ⟨fun hcl => ?_, fun hcl => ?_⟩
  · have hwc : c < wt.length := by omega
    have egd : ws.getD c [] = ws[c] := by simp [hcl]
    simp [hcl]
    refine AW_way0 [(1, .sl (ivv ws)), (2, .sl (iv wt)), (3, .loc g3 2 0 0), (8, .lsl g 1 0 (2 * s.js.length)), (30, .sl (ivv ws)), (31, .int .i64 ws.length), (32, .int .i64 c), (9, .int .i64 c), (10, .sl (iv ws[c]))] _ _ 53 (.bool (!cOk s ws wt c)) ⟨rfl, by simp, Sub.refl _⟩ rfl ?_ ?_
    · simp
      refine callP_borrow 3 (ys := [.ptr s.c, .sl (iv ws[c])]) (by simp [frz, dropB, V.cl, Str.c, hg3', Ne.symm hg3']) (fitsLoad_ro s ws[c] hs.js (by have := hws _ (List.getElem_mem hcl); omega)) rfl ?_
      have q := iv_at (l := wt) (i := c) hwc
      simp [cOk, egd]
      refine ⟨fun h => by grind, fun h => ?_⟩
      simp [-iv_get, q, h]
      grind
    simp
    refine ⟨fun h => ?_, fun h => ?_⟩
    · refine fail _ ?_ rfl rfl rfl (hsub _)
      have : ¬ ∀ c, c < ws.length → cOk s ws wt c = true := fun hh => by rw [hh c hcl] at h; cases h
      unfold mixOk
      simp [this]
    have hlc := (cOk_of h).1
    rw [egd] at hlc
    have hbc := (cOk_of h).2.1
    refine AW_for (fun i : Nat => [(1, .sl (ivv ws)), (2, .sl (iv wt)), (3, .loc g3 2 0 0), (8, .lsl g 1 0 (2 * s.js.length)), (30, .sl (ivv ws)), (31, .int .i64 ws.length), (32, .int .i64 c), (9, .int .i64 c), (54, .sl (iv ws[c])), (55, .int .i64 ws[c].length), (56, .int .i64 i)])
      (fun i => upd (upd bl g3 (some ⟨2, [[.sl (jv s.js), .sl (mv s.ms)]]⟩)) g (some ⟨1, over (iv (mixL (2 * s.js.length) ws wt (c + 1))) (iv (mixL (2 * s.js.length) ws wt c)) i⟩)) (fun i => i ≤ 2 * s.js.length) (fun i => 2 * s.js.length - i) 79 0 (Nat.zero_le _) ⟨rfl, by simp, sub_eq (by simp)⟩ ?_
    intro i hi
    refine AW_run ?_
    simp
    refine ⟨fun hil => ?_, fun hil => ?_⟩
    · have hi2 : i < 2 * s.js.length := by omega
      have st := mix_step h hi2
      have bd := mixC_le (ws := ws) (wt := wt) hi2 c hall
      have q1 := iv_at (l := wt) (i := c) hwc
      have q2 := iv_at (l := ws[c]) (i := i) hil
      have q3 := over_get (iv (mixL (2 * s.js.length) ws wt (c + 1))) (iv (mixL (2 * s.js.length) ws wt c)) i (by simp) (by simpa using hi2)
      simp [-iv_get, q2]
      refine AW_mixedT mixedO [0, 1, 2, 3, 4, 5, 6, 7, 8, 9, 10, 11] 1 12 (by kernel_rfl) ?_
      have hi3 : (i : Int) < 2 * (s.js.length : Int) := by omega
      simp [-iv_get, q1, q3, hi2, hi3]
      have e1 : IntKind.i64.wrap (lat ws[c] i * lat wt c) = lat wt c * lat ws[c] i := by
        rw [egd] at st
        rw [Int.mul_comm]; exact i64_in (by omega) (by omega)
      have e2 : IntKind.i64.wrap (mixC ws wt i c + lat wt c * lat ws[c] i) = mixC ws wt i (c + 1) := by
        rw [egd] at st
        rw [mixC, egd]; exact i64_in (by omega) (by omega)
      rw [e1, e2]
      refine DAny_last (i := 12) (by kernel_rfl) rfl rfl rfl ?_
      simp [q3]
      refine DAny_done (by kernel_rfl) ?_
      simp (disch := omega) [i64_in, loopQ_normal]
      refine ⟨i + 1, by omega, by omega, rfl, by simp, sub_eq ?_⟩
      rw [over_set _ _ _ (by simp) (by simpa using hi2) _ (by simp)]
    · have : i = 2 * s.js.length := by omega
      subst this
      rw [over_all _ _ _ (by simp) (by simp)]
      have w1 : IntKind.i64.wrap ((c : Int) + 1) = c + 1 := i64_in (by omega) (by omega)
      simp [w1, loopQ_normal]
      refine ⟨c + 1, ⟨by omega, fun d hd => ?_⟩, by omega, rfl, by simp, Sub.refl _⟩
      rcases Nat.lt_or_ge d c with hlt | hge
      · exact hall d hlt
      · obtain rfl : d = c := by omega
        exact h
  · have : c = ws.length := by omega
    subst this
    have hR : mixOk s ws wt = fitsL s.js (mixL (2 * s.js.length) ws wt ws.length) := by
      unfold mixOk
      have : decide (∀ c, c < ws.length → cOk s ws wt c = true) = true := decide_eq_true hall
      rw [this]
      simp [h1, h2, hso]
      simp [← h1, h2]
    have o : OwnD (upd (upd bl g3 (some ⟨2, [[.sl (jv s.js), .sl (mv s.ms)]]⟩)) g (some ⟨1, iv (mixL (2 * s.js.length) ws wt ws.length)⟩)) (fl 1 (iv (mixL (2 * s.js.length) ws wt ws.length))) (.lsl g 1 0 (2 * s.js.length)) [g] := own_iv.2 (.inr ⟨g, by simp, rfl, by simp, by omega⟩)
    refine callP_borrow 3 (ys := [.ptr s.c, .sl (iv (mixL (2 * s.js.length) ws wt ws.length))]) (by simp [frz_iv o 2]; simp [frz, dropB, V.cl, Str.c, hg3', Ne.symm hg3']) (fitsLoad_ro s _ hs.js (by simp; omega)) rfl ?_
    simp
    refine ⟨fun h => fail _ (by rw [hR]; exact h) rfl rfl rfl (hsub _), fun h => ?_⟩
    have hok : mixOk s ws wt = true := by rw [hR]; exact h
    refine retNW [.lsl g 1 0 (2 * s.js.length), .bool true] [g] (by simp) (own_opt.2 ⟨_, by simp [hok]; rfl, ?_⟩) (by simpa using hgn) (hsub _)
    have : mixR s ws wt = mixL (2 * s.js.length) ws wt ws.length := by simp [mixR, hok]
    rw [this]
    exact o

end Go.Proofs.Ytpkphjoobeacfaa.Vm
