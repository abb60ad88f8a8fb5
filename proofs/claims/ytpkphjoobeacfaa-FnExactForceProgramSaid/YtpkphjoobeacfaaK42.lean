/- Programs as data of the call's own: equality, marks; ForceProgram of both. -/
import Derived.Test.YtpkphjoobeacfaaK41
namespace Go.Proofs.Ytpkphjoobeacfaa.Vm
open Go Go.Proofs
set_option linter.unusedSimpArgs false
set_option linter.unusedVariables false

theorem own_pg {bl : Int → Option Blk} {p : Pg} {v : V} {gs : List Int} : OwnD bl (dPg p) v gs ↔ ∃ va vb vc ga gb gc, v = .agg [.int .i64 p.rows, .int .i64 p.cols, va, vb, vc] ∧ gs = ga ++ (gb ++ gc) ∧ (∀ g, g ∈ ga → g ∉ gb ++ gc) ∧ (∀ g, g ∈ gb → g ∉ gc) ∧
    OwnD bl (fl 1 (iv p.a)) va ga ∧ OwnD bl (fl 1 (iv p.b)) vb gb ∧ OwnD bl (fl 1 (iv p.c)) vc gc := by
  unfold dPg
  rw [OwnD]
  constructor
  · rintro ⟨vs, rfl, h⟩
    rw [OwnL] at h
    obtain ⟨v1, vs1, g1, r1, rfl, rfl, _, h1, h⟩ := h
    rw [OwnD] at h1
    obtain ⟨rfl, _, rfl⟩ := h1
    rw [OwnL] at h
    obtain ⟨v2, vs2, g2, r2, rfl, rfl, _, h2, h⟩ := h
    rw [OwnD] at h2
    obtain ⟨rfl, _, rfl⟩ := h2
    rw [OwnL] at h
    obtain ⟨va, vs3, ga, r3, rfl, rfl, ha, h3, h⟩ := h
    obtain ⟨vb, vc, gb, gc, rfl, rfl, hd, h4, h5⟩ := own_pair.1 h
    exact ⟨va, vb, vc, ga, gb, gc, rfl, rfl, ha, hd, h3, h4, h5⟩
  · rintro ⟨va, vb, vc, ga, gb, gc, rfl, rfl, ha, hb, h1, h2, h3⟩
    refine ⟨_, rfl, ?_⟩
    show OwnL bl [_, _, _, _, _] [_, _, _, _, _] ([] ++ ([] ++ (ga ++ (gb ++ gc))))
    exact own_cons (own_int _) (own_cons (own_int _) (own_cons h1 (own_pair.2 ⟨vb, vc, gb, gc, rfl, rfl, hb, h2, h3⟩) ha) (fun x hx => by cases hx)) (fun x hx => by cases hx)
theorem frz_pg {bl : Int → Option Blk} {p : Pg} {v : V} {gs : List Int} (h : OwnD bl (dPg p) v gs) (n : Nat) : frz bl (n + 2) v = some (.agg p.v) := by
  obtain ⟨va, vb, vc, ga, gb, gc, rfl, rfl, _, _, h1, h2, h3⟩ := own_pg.1 h
  rw [frz_agg, List.mapM_cons, frz_cl rfl, List.mapM_cons, frz_cl rfl, List.mapM_cons, frz_iv h1 n, List.mapM_cons, frz_iv h2 n, List.mapM_cons, frz_iv h3 n]
  simp [Pg.v]
theorem sc_pg (p : Pg) : (dPg p).sc = true := by simp [dPg, D.sc, D.scL, sc_iv, V.ow]

def noPg : Pg := ⟨0, 0, [], [], []⟩
def fpOf (s : Str) (l : List Int) : Pg := if lOk s l = true then fprog s l else noPg

theorem spec_ForceProgram_ro (s : Str) (l : List Int) (hs : s.sz) (hl : l.length ≤ 1048576) : RO Try.prog 74 [.agg s.c, .sl (iv l)] (.agg (fpOf s l).v) := by
  refine ro_of2 Try.func74 rfl rfl (by rw [Try.ntmps74]; simp) fun bl => ?_
  rw [Try.ntmps74, Try.results74]
  refine AW_run ?_
  simp [Str.c]
  intro g hg0 hg gr hgr0 hrg hbr
  simp [hrg, Ne.symm hrg]
  refine callP_ro (spec_LoadOk_ro s l hs.js hs.ms hs.nm (by omega)) ?_
  simp
  refine ⟨fun h => ?_, fun h => ?_⟩
  · exact retRO [.agg [.int .i64 0, .int .i64 0, .nils, .nils, .nils]] 2 (by simp) (by simp [frz, V.cl, fpOf, h, noPg, Pg.v, iv]) (by simp [hg, hbr])
  · simp [hrg, Ne.symm hrg]
    refine callP_ro (l15Program_ro s l (lOk_of h)) ?_
    simp [hrg, Ne.symm hrg, Pg.v]
    exact retRO [.agg (fpOf s l).v] 2 (by simp [fpOf, h, Pg.v]) (by simp [frz, V.cl, fpOf, h, Pg.v]) (by simp [hg, hbr])

theorem impl_ForceProgram_nw (s : Str) (l : List Int) (hs : s.sz) (hl : l.length ≤ 1048576) : NW Try.prog 75 [.agg s.c, .sl (iv l)] (dPg (fpOf s l)) := by
  refine nw_of Try.func75 rfl rfl (by rw [Try.ntmps75]; simp) fun bl => ?_
  rw [Try.ntmps75, Try.results75]
  refine AW_run ?_
  simp [Str.c]
  intro g hg0 hg gr hgr0 hrg hbr
  simp [hrg, Ne.symm hrg]
  refine callP_ro (impl_LoadOk_ro s l hs.js hs.ms hs.nm (by omega)) ?_
  simp
  refine ⟨fun h => ?_, fun h => ?_⟩
  · refine retNW [.agg [.int .i64 0, .int .i64 0, .nils, .nils, .nils]] [] (by simp) ?_ (by simp) (by simp [hg, hbr])
    refine own_pg.2 ⟨.nils, .nils, .nils, [], [], [], by simp [fpOf, h, noPg], rfl, by simp, by simp, ?_, ?_, ?_⟩ <;> exact own_iv.2 (.inl ⟨by simp [fpOf, h, noPg], rfl, rfl⟩)
  · refine callP_lend 2 (ys := [.ptr s.c, .sl (iv l), .int .i64 0, .int .i64 0]) (by simp [frz, V.cl, Str.c, hrg, Ne.symm hrg]) (forceProgram_nw s l (lOk_of h)) (sc_pg _) fun v gs b o f fr => ?_
    obtain ⟨va, vb, vc, ga, gb, gc, rfl, rfl, d1, d2, h1, h2, h3⟩ := own_pg.1 o
    obtain ⟨a1, a2⟩ := h1.one
    obtain ⟨b1, b2⟩ := h2.one
    obtain ⟨c1, c2⟩ := h3.one
    have er : b gr = some ⟨5, [[.int .i64 0, .int .i64 0, .nils, .nils, .nils]]⟩ := new_keep f fr (by simp)
    simp [er, a1, a2, b1, b2, c1, c2]
    have hgr : ∀ x, x ∈ ga ++ (gb ++ gc) → x ≠ gr := fun x hx e => by have := f x hx; rw [e] at this; simp at this
    refine retNW [.agg [.int .i64 (fprog s l).rows, .int .i64 (fprog s l).cols, va, vb, vc]] (ga ++ (gb ++ gc)) (by simp) ?_ (fun x hx => ?_) (fun x y hx => ?_)
    · rw [fpOf, if_pos h]
      refine OwnD.frame (bl := b) (own_pg.2 ⟨va, vb, vc, ga, gb, gc, rfl, rfl, d1, d2, h1, h2, h3⟩) fun x hx => ?_
      simp [hgr x hx]
    · have := f x hx
      simp [upd_apply] at this
      grind
    · have z1 : x ≠ g := fun e => by rw [e, hg] at hx; cases hx
      have z2 : x ≠ gr := fun e => by rw [e, hbr] at hx; cases hx
      simp [z2]
      exact new_keep f fr (by simp [z1, z2, hx])

def pgEq (p q : Pg) : Bool := decide (p.rows = q.rows) && (decide (p.cols = q.cols) && (decide (p.a = q.a) && (decide (p.b = q.b) && decide (p.c = q.c))))
@[simp] theorem pgEq_self (p : Pg) : pgEq p p = true := by simp [pgEq]
theorem eqProgram_ro (p q : Pg) (ha : p.a.length ≤ 1048576) (hb : p.b.length ≤ 1048576) (hc : p.c.length ≤ 1048576) : RO Try.prog 76 [.agg p.v, .agg q.v] (.bool (pgEq p q)) := by
  obtain ⟨r1, c1, a1, b1, e1⟩ := p
  obtain ⟨r2, c2, a2, b2, e2⟩ := q
  simp only at ha hb hc
  refine ro_of2 Try.func76 rfl rfl (by rw [Try.ntmps76]; simp) fun bl => ?_
  rw [Try.ntmps76, Try.results76]
  refine AW_run ?_
  simp [Pg.v]
  intro g1 hg1 hb1 g2 hg2 h21 hb2
  simp [h21, Ne.symm h21]
  refine ⟨fun h => ?_, fun h => ⟨fun h2 => ?_, fun h2 => ?_⟩⟩
  · exact retRO [_] 0 (by simp; rfl) (by simp [frz, V.cl, pgEq, h]) (by simp [hb1, hb2])
  · exact retRO [_] 0 (by simp; rfl) (by simp [frz, V.cl, pgEq, h, h2]) (by simp [hb1, hb2])
  refine callP_ro (eqIntS_ro _ _ (by omega)) ?_
  simp [h21, Ne.symm h21]
  refine ⟨fun h3 => ?_, fun h3 => ?_⟩
  · exact retRO [_] 0 (by simp; rfl) (by simp [frz, V.cl, pgEq, h, h2, h3]) (by simp [hb1, hb2])
  refine callP_ro (eqIntS_ro _ _ (by omega)) ?_
  simp [h21, Ne.symm h21]
  refine ⟨fun h4 => ?_, fun h4 => ?_⟩
  · exact retRO [_] 0 (by simp; rfl) (by simp [frz, V.cl, pgEq, h, h2, h3, h4]) (by simp [hb1, hb2])
  refine callP_ro (eqIntS_ro _ _ (by omega)) ?_
  simp
  refine ⟨fun h5 => ?_, fun h5 => ?_⟩
  · exact retRO [_] 0 (by simp; rfl) (by simp [frz, V.cl, pgEq, h, h2, h3, h4, h5]) (by simp [hb1, hb2])
  · exact retRO [_] 0 (by simp; rfl) (by simp [frz, V.cl, pgEq, h, h2, h3, h4, h5]) (by simp [hb1, hb2])

/-- The marks of a program from k on. -/
def mkP (k : Nat) (p : Pg) : Pg := ⟨p.rows, p.cols, marks k p.a.length, marks (k + p.a.length : Nat) p.b.length, marks (k + p.a.length + p.b.length : Nat) p.c.length⟩
def mkPN (k : Nat) (p : Pg) : Nat := k + p.a.length + p.b.length + p.c.length

theorem markProgram_cp {bl : Int → Option Blk} {K : V → (Int → Option Blk) → Prop} (p : Pg) (k : Nat) (v : V) (gs : List Int) (h : OwnD bl (dPg p) v gs) (hk : mkPN k p ≤ 4611686018427387000)
    (hK : ∀ bl', OwnD bl' (dPg (mkP k p)) v gs → (∀ g, g ∉ gs → ∀ b, bl g = some b → bl' g = some b) → K (.int .i64 (mkPN k p : Nat)) bl') : CallP Try.prog 77 [v, .int .i64 k] bl K := by
  obtain ⟨va, vb, vc, ga, gb, gc, rfl, rfl, d1, d2, h1, h2, h3⟩ := own_pg.1 h
  obtain ⟨a1, a2⟩ := h1.one
  obtain ⟨b1, b2⟩ := h2.one
  obtain ⟨c1, c2⟩ := h3.one
  unfold mkPN at hk
  refine callP_of Try.func77 rfl rfl (by rw [Try.ntmps77]; simp) ?_
  rw [Try.ntmps77, Try.results77]
  refine AW_run ?_
  simp [a1, b1, c1]
  intro g hg0 hg
  have na : g ∉ ga := h1.not hg
  have nb : g ∉ gb := h2.not hg
  have nc : g ∉ gc := h3.not hg
  obtain ⟨B0, hB0⟩ : ∃ B0, B0 = upd bl g (some ⟨5, [[.int .i64 p.rows, .int .i64 p.cols, va, vb, vc]]⟩) := ⟨_, rfl⟩
  have kp : ∀ x y, bl x = some y → B0 x = some y := fun x y hx => by rw [hB0, upd_apply, if_neg (fun e => by rw [e, hg] at hx; cases hx)]; exact hx
  have eg0 : B0 g = some ⟨5, [[.int .i64 p.rows, .int .i64 p.cols, va, vb, vc]]⟩ := by rw [hB0]; simp
  rw [← hB0]
  refine markIntS_cp p.a k va ga (h1.keep fun x _ y hy => kp x y hy) (by omega) fun B1 o1 q1 => ?_
  have eg1 : B1 g = some ⟨5, [[.int .i64 p.rows, .int .i64 p.cols, va, vb, vc]]⟩ := by rw [q1 g na]; exact eg0
  simp [eg1]
  have t1 : (k : Int) + p.a.length = (k + p.a.length : Nat) := by simp
  rw [t1]
  refine markIntS_cp p.b (k + p.a.length : Nat) vb gb (h2.frame fun x hx => by rw [q1 x (fun hh => d1 x hh (List.mem_append_left _ hx))]; obtain ⟨y, hy⟩ := h2.has x hx; rw [hy, kp x y hy]) (by omega) fun B2 o2 q2 => ?_
  have eg2 : B2 g = some ⟨5, [[.int .i64 p.rows, .int .i64 p.cols, va, vb, vc]]⟩ := by rw [q2 g nb]; exact eg1
  simp [eg2]
  have t2 : (k : Int) + p.a.length + p.b.length = (k + p.a.length + p.b.length : Nat) := by simp
  rw [t2]
  refine markIntS_cp p.c (k + p.a.length + p.b.length : Nat) vc gc (h3.frame fun x hx => by rw [q2 x (fun hh => d2 x hh hx), q1 x (fun hh => d1 x hh (List.mem_append_right _ hx))]; obtain ⟨y, hy⟩ := h3.has x hx; rw [hy, kp x y hy]) (by omega) fun B3 o3 q3 => ?_
  simp
  rw [retK_ret]
  refine ⟨[_], by simp; rfl, ?_⟩
  have := hK B3 (own_pg.2 ⟨va, vb, vc, ga, gb, gc, rfl, rfl, d1, d2, o1.frame fun x hx => ?_, o2.frame fun x hx => ?_, o3⟩) (fun x hx y hy => ?_)
  · simpa [mkPN] using this
  · rw [q3 x (fun hh => d1 x hx (List.mem_append_right _ hh)), q2 x (fun hh => d1 x hx (List.mem_append_left _ hh))]
  · rw [q3 x (fun hh => d2 x hx hh)]
  · simp at hx
    rw [q3 x hx.2.2, q2 x hx.2.1, q1 x hx.1]
    exact kp x y hy

theorem heldProgram_ro (p : Pg) (k : Nat) (hk : mkPN k p ≤ 4611686018427387000) : RO Try.prog 78 [.agg (mkP k p).v, .int .i64 k] (.int .i64 (mkPN k p : Nat)) := by
  unfold mkPN at hk
  refine ro_of2 Try.func78 rfl rfl (by rw [Try.ntmps78]; simp) fun bl => ?_
  rw [Try.ntmps78, Try.results78]
  refine AW_run ?_
  simp [Pg.v, mkP]
  intro g hg0 hg
  refine callP_ro (heldIntS_ro p.a.length k (by omega)) ?_
  simp
  refine ⟨fun h => by omega, fun h => ?_⟩
  have t1 : (k : Int) + p.a.length = (k + p.a.length : Nat) := by simp
  rw [t1]
  refine callP_ro (heldIntS_ro p.b.length (k + p.a.length : Nat) (by omega)) ?_
  simp
  refine ⟨fun h => by omega, fun h => ?_⟩
  have t2 : (k : Int) + p.a.length + p.b.length = (k + p.a.length + p.b.length : Nat) := by simp
  rw [t2]
  refine callP_ro (heldIntS_ro p.c.length (k + p.a.length + p.b.length : Nat) (by omega)) ?_
  simp
  refine ⟨fun h => by omega, fun h => ?_⟩
  exact retRO [_] 0 (by simp; rfl) (by simp [frz, V.cl, mkPN]) (by simp [hg])

end Go.Proofs.Ytpkphjoobeacfaa.Vm
