/- PutLoad of the reference; the law. -/
import Derived.Test.YtpkphjoobeacfaaK27
import Derived.Test.YtpkphjoobeacfaaK29
namespace Go.Proofs.Ytpkphjoobeacfaa.Vm
open Go Go.Proofs
set_option linter.unusedSimpArgs false
set_option linter.unusedVariables false

theorem spec_PutLoad_ro (s : Str) (l : List Int) (j x y : Int) (hs : s.sz) (hl : l.length ≤ 1048576) (hx : -9223372036854775808 ≤ x ∧ x ≤ 9223372036854775807) (hy : -9223372036854775808 ≤ y ∧ y ≤ 9223372036854775807) :
    RO Try.prog 68 [.agg s.c, .sl (iv l), .int .i64 j, .int .i64 x, .int .i64 y] (.tup [.sl (iv (putL s l j x y)), .bool (putOk s l j x y)]) := by
  refine ro_of2 Try.func68 rfl rfl (by rw [Try.ntmps68]; simp) fun bl => ?_
  rw [Try.ntmps68, Try.results68]
  refine AW_run ?_
  simp [Str.c]
  intro g hg0 hg
  refine AW_way0 [(1, .sl (iv l)), (2, .int .i64 j), (3, .int .i64 x), (4, .int .i64 y), (5, .loc g 2 0 0)] _ _ 35 (.bool (!(lOk s l && (decide (0 ≤ j) && decide (j < s.js.length)) && (decide (-200 ≤ x) && decide (x ≤ 200)) && (decide (-200 ≤ y) && decide (y ≤ 200))))) ⟨rfl, by simp, Sub.refl _⟩ rfl ?_ ?_
  · simp
    refine callP_ro (spec_LoadOk_ro s l hs.js hs.ms hs.nm (by omega)) ?_
    simp
    refine ⟨fun h => by simp [h], fun h => ?_⟩
    have hjs := hs.js
    simp (disch := omega) [h, i64_in]
    refine callP_ro (l01In_ro _ _ _) ?_
    simp
    refine ⟨fun h1 => by grind, fun h1 h2 => ?_⟩
    refine callP_ro (l01In_ro _ _ _) ?_
    simp
    refine ⟨fun h3 => by grind, fun h3 h4 => ?_⟩
    refine callP_ro (l01In_ro _ _ _) ?_
    simp
    grind
  simp
  refine ⟨fun h => ?_, fun h h1 h2 h3 h4 h5 h6' => ?_⟩
  · have hn : putOk s l j x y = false := by
      unfold putOk
      simp
      grind
    refine retRO [_, _] 2 rfl ?_ (by simp [hg])
    simp [frz, V.cl, putL, hn, iv]
  have h0 := lOk_of h
  have h6 := h0.sok.nj
  have hn := h0.n
  obtain ⟨k, rfl⟩ := Int.eq_ofNat_of_zero_le h1
  simp at h2
  intro ga hga hag hba
  have hall : ((iv l).all fun c => (c.length == 1 && c.all V.one)) = true := by simp [iv]
  simp [hag, Ne.symm hag, appV, elsV, hall]
  refine ⟨by omega, fun gl hgl hbl => ?_⟩
  have hge : 0 ≤ gl := by
    rcases hgl with h | h
    · exact h
    · have : l = [] := by simpa [iv] using h
      subst this; simp at hn; omega
  have hglb : bl gl = none := by grind
  have hlg : gl ≠ g := by grind
  have e0 : (2 * (k : Int)).toNat = 2 * k := by omega
  have e1 : (2 * (k : Int) + 1).toNat = 2 * k + 1 := by omega
  have w0 : IntKind.i64.wrap (2 * (k : Int)) = 2 * k := i64_in (by omega) (by omega)
  have w1 : IntKind.i64.wrap (2 * (k : Int) + 1) = 2 * k + 1 := i64_in (by omega) (by omega)
  have c0 : (0 : Int) ≤ 2 * k := by omega
  have c1 : (0 : Int) ≤ 2 * (k : Int) + 1 := by omega
  have d0 : 2 * (k : Int) < l.length := by omega
  have d1 : 2 * (k : Int) + 1 < l.length := by omega
  have q0 := iv_at (l := l) (i := 2 * k) (by omega)
  have q1 := iv_at (l := put1 l k x) (i := 2 * k + 1) (by simp [put1]; omega)
  have q1' : lat (put1 l k x) (2 * k + 1) = lat l (2 * k + 1) := by simp [lat, put1, List.getElem?_set]
  rw [q1'] at q1
  have b0 := h0.f (2 * k) (by omega)
  have b1' := h0.f (2 * k + 1) (by omega)
  have w2 : IntKind.i64.wrap (lat l (2 * k) + x) = lat l (2 * k) + x := i64_in (by omega) (by omega)
  have w3 : IntKind.i64.wrap (lat l (2 * k + 1) + y) = lat l (2 * k + 1) + y := i64_in (by omega) (by omega)
  have p1 : (iv l).set (2 * k) [.int .i64 (lat l (2 * k) + x)] = iv (put1 l k x) := by rw [iv_set]; simp [put1]
  have p2 : (iv (put1 l k x)).set (2 * k + 1) [.int .i64 (lat l (2 * k + 1) + y)] = iv (put2 l k x y) := by rw [iv_set]; simp [put2]
  simp [-iv_get, w0, e0, c0, d0, q0, w2, p1]
  simp [-iv_get, w1, e1, c1, d1, q1, w3, p2]
  simp [hlg, Ne.symm hlg, hag, Ne.symm hag]
  have l2 : (put2 l k x y).length = l.length := by simp [put2, put1]
  have hlo2 : lOk s (put2 l k x y) = putOk s l k x y := by
    have ha : l.all forceOk = true := by
      unfold lOk fitsL at h
      simp only [Bool.and_eq_true] at h
      exact h.2.2
    have hs2 := all_set2 (p := forceOk) (v := lat l (2 * k) + x) (w := lat l (2 * k + 1) + y) ha (show 2 * k < l.length by omega) (show 2 * k + 1 < l.length by omega) (by omega)
    have hk : lOk s (put2 l k x y) = (forceOk (lat l (2 * k) + x) && forceOk (lat l (2 * k + 1) + y)) := by
      have hso : sOk s = true := by unfold lOk at h; simp only [Bool.and_eq_true] at h; exact h.1
      unfold lOk fitsL
      rw [l2, ← hs2, hso]
      simp [hn, put2, put1]
    rw [hk]
    unfold putOk
    simp [h, h2, h3, h4, h5, h6']
  have key : ∀ X : Int → Option Blk, OwnD (upd X gl (some ⟨1, iv (put2 l k x y)⟩)) (fl 1 (iv (put2 l k x y))) (.lsl gl 1 0 l.length) [gl] := fun X => own_iv.2 (.inr ⟨gl, by rw [l2], rfl, by simp, by omega⟩)
  refine callP_borrow 3 (ys := [.agg s.c, .sl (iv (put2 l k x y))]) (by simp [frz_iv (key _) 2]; simp [frz, Str.c, V.cl]) (spec_LoadOk_ro s (put2 l k x y) hs.js hs.ms hs.nm (by omega)) rfl ?_
  simp [hlo2]
  have hsub : ∀ Y, Sub bl (upd (rem (upd (upd bl g (some ⟨2, [[.sl (jv s.js), .sl (mv s.ms)]]⟩)) ga (some ⟨1, []⟩)) ga) gl Y) := fun Y => by simp [hglb, hba, hg]
  refine ⟨fun hno => ?_, fun hok => ?_⟩
  · refine retRO [.nils, .bool false] 2 rfl ?_ (hsub _)
    simp [frz, V.cl, putL, hno, iv]
  · refine retRO [.lsl gl 1 0 l.length, .bool true] 2 rfl ?_ (hsub _)
    have h7 := frz_slice (bl0 := bl) (bl := upd (rem (upd (upd bl g (some ⟨2, [[.sl (jv s.js), .sl (mv s.ms)]]⟩)) ga (some ⟨1, []⟩)) ga) gl (some ⟨1, iv (put2 l k x y)⟩)) (sz := 1) (els := iv (put2 l k x y)) (n := l.length) hge hglb (by simp) (by simp [l2]) (iv_cl _)
    show frz _ 2 (.tup [_, _]) = _
    rw [frz_tup, List.mapM_cons, h7, List.mapM_cons]
    simp [frz, putL, hok]

theorem impl_PutLoad_ro (s : Str) (l : List Int) (j x y : Int) (hs : s.sz) (hl : l.length ≤ 1048576) (hx : -9223372036854775808 ≤ x ∧ x ≤ 9223372036854775807) (hy : -9223372036854775808 ≤ y ∧ y ≤ 9223372036854775807) :
    RO Try.prog 45 [.agg s.c, .sl (iv l), .int .i64 j, .int .i64 x, .int .i64 y] (.tup [.sl (iv (putL s l j x y)), .bool (putOk s l j x y)]) := by
  have := ro_of_nw 2 (impl_PutLoad_nw s l j x y hs hl hx hy) (dOpt_dep _ _)
  rwa [dOpt_fz] at this

end Go.Proofs.Ytpkphjoobeacfaa.Vm
