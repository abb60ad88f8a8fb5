/- The force program of the program. -/


import Derived.Test.YtmbcofnnibpbeaaGreatQCFnColumns7

namespace Go.Proofs.YtmbcofnnibpbeaaGreat.Vm
open Go Go.Proofs
set_option linter.unusedSimpArgs false
set_option linter.unusedVariables false

theorem flat_at {n : Nat} : ∀ (rs : List (List Int)), (∀ r, r ∈ rs → r.length = n) → ∀ (i k : Nat) (hi : i < rs.length), k < n → lat rs.flatten (i * n + k) = lat rs[i] k
  | [], _, i, k, hi, _ => by simp at hi
  | r :: rs, h, 0, k, hi, hk => by
    have := h r List.mem_cons_self
    simp [lat, List.flatten_cons, List.getElem?_append_left (show k < r.length by omega)]
  | r :: rs, h, i + 1, k, hi, hk => by
    have hr := h r List.mem_cons_self
    have ih := flat_at rs (fun r hr => h r (List.mem_cons_of_mem _ hr)) i k (by simpa using hi) hk
    have e : (i + 1) * n + k = r.length + (i * n + k) := by rw [hr, Nat.add_mul]; omega
    rw [List.flatten_cons, e]
    simp only [lat, List.getD_eq_getElem?_getD] at ih ⊢
    rw [List.getElem?_append_right (by omega), Nat.add_sub_cancel_left, ih]; rfl
theorem rowsF_flat (s : Str) : rowsF s = (eqRows s).flatten := by
  unfold rowsF eqRows
  induction frees s.js with
  | nil => rfl
  | cons j js ih => simp [ih]
theorem eqRows_len (s : Str) : ∀ r, r ∈ eqRows s → r.length = s.ms.length := by
  intro r hr
  unfold eqRows at hr
  obtain ⟨j, _, hr⟩ := List.mem_flatMap.1 hr
  simp at hr
  rcases hr with rfl | rfl <;> simp
theorem aTo_at (s : Str) (n m : Nat) (h : m < n) : (iv (aTo s n))[m]'(by simpa using h) = [.int .i64 (ent s (m / nC s) (m % nC s))] := by simp [aTo]
theorem right_length (s : Str) (l : List Int) : (right s l).length = nR s := by
  have e : right s l = rightTo s l (frees s.js).length := by simp [right, rightTo]
  rw [e, rightTo_length s l _ (Nat.le_refl _)]; rfl
theorem right_at (s : Str) (l : List Int) : ∀ (fs : List Int) (i : Nat) (h : i < fs.length), lat (fs.flatMap fun j => [-lat l (2 * j).toNat, -lat l (2 * j + 1).toNat]) (2 * i) = -lat l (2 * fs[i]).toNat ∧ lat (fs.flatMap fun j => [-lat l (2 * j).toNat, -lat l (2 * j + 1).toNat]) (2 * i + 1) = -lat l (2 * fs[i] + 1).toNat
  | [], i, h => by simp at h
  | f :: fs, 0, _ => by simp [lat]
  | f :: fs, i + 1, h => by
    have ih := right_at s l fs i (by simpa using h)
    have e1 : 2 * (i + 1) = (2 * i) + 1 + 1 := by omega
    have e2 : 2 * (i + 1) + 1 = (2 * i + 1) + 1 + 1 := by omega
    rw [e2, e1]
    simpa [lat] using ih


theorem equilibrium_ro (s : Str) (hs : SOk s) : RO Tryz.prog 94 [.ptr s.c] (.sl (ivv (eqRows s))) := by
  have := ro_of_nw 2 (equilibrium_nw s hs) (dII_dep _)
  rwa [dII_fz] at this

def dPg (p : Pg) : D := .a [.c (.int .i64 p.rows), .c (.int .i64 p.cols), fl 1 (iv p.a), fl 1 (iv p.b), fl 1 (iv p.c)]

structure ABC where
  a : Int
  b : Int
  c : Int
structure abcOk (bl : Int → Option Blk) (gr gp : Int) (p : ABC) : Prop where
  a0 : 0 ≤ p.a
  b0 : 0 ≤ p.b
  c0 : 0 ≤ p.c
  ba : ¬p.b = p.a
  ca : ¬p.c = p.a
  cb : ¬p.c = p.b
  ar : ¬p.a = gr
  ap : ¬p.a = gp
  br : ¬p.b = gr
  bp : ¬p.b = gp
  cr : ¬p.c = gr
  cp : ¬p.c = gp
  fa : bl p.a = none
  fb : bl p.b = none
  fc : bl p.c = none

end Go.Proofs.YtmbcofnnibpbeaaGreat.Vm

namespace Go.Proofs.YtmbcofnnibpbeaaGreat.Vm
open Go Go.Proofs
set_option linter.unusedSimpArgs false
set_option linter.unusedVariables false

theorem own_pg {bl : Int → Option Blk} {p : Pg} {v : V} {gs : List Int} : OwnD bl (dPg p) v gs ↔ ∃ va vb vc ga gb gc, v = .agg [.int .i64 p.rows, .int .i64 p.cols, va, vb, vc] ∧ gs = ga ++ (gb ++ gc) ∧ (∀ g, g ∈ ga → g ∉ gb ++ gc) ∧ (∀ g, g ∈ gb → g ∉ gc) ∧
    OwnD bl (fl 1 (iv p.a)) va ga ∧ OwnD bl (fl 1 (iv p.b)) vb gb ∧ OwnD bl (fl 1 (iv p.c)) vc gc := by
  unfold dPg
  rw [OwnD]
  constructor
  · rintro ⟨vs, rfl, h⟩
    rw [OwnL] at h
    obtain ⟨v1, vs1, g1, r1, rfl, rfl, _, h1, h⟩ := h
    rw [OwnD] at h1
    obtain ⟨rfl, _, rfl⟩ := h1
    rw [OwnL] at h
    obtain ⟨v2, vs2, g2, r2, rfl, rfl, _, h2, h⟩ := h
    rw [OwnD] at h2
    obtain ⟨rfl, _, rfl⟩ := h2
    rw [OwnL] at h
    obtain ⟨va, vs3, ga, r3, rfl, rfl, ha, h3, h⟩ := h
    obtain ⟨vb, vc, gb, gc, rfl, rfl, hd, h4, h5⟩ := own_pair.1 h
    exact ⟨va, vb, vc, ga, gb, gc, rfl, rfl, ha, hd, h3, h4, h5⟩
  · rintro ⟨va, vb, vc, ga, gb, gc, rfl, rfl, ha, hb, h1, h2, h3⟩
    refine ⟨_, rfl, ?_⟩
    show OwnL bl [_, _, _, _, _] [_, _, _, _, _] ([] ++ ([] ++ (ga ++ (gb ++ gc))))
    exact own_cons (own_int _) (own_cons (own_int _) (own_cons h1 (own_pair.2 ⟨vb, vc, gb, gc, rfl, rfl, hb, h2, h3⟩) ha) (fun x hx => by cases hx)) (fun x hx => by cases hx)
theorem frz_pg {bl : Int → Option Blk} {p : Pg} {v : V} {gs : List Int} (h : OwnD bl (dPg p) v gs) (n : Nat) : frz bl (n + 2) v = some (.agg p.v) := by
  obtain ⟨va, vb, vc, ga, gb, gc, rfl, rfl, _, _, h1, h2, h3⟩ := own_pg.1 h
  rw [frz_agg, List.mapM_cons, frz_cl rfl, List.mapM_cons, frz_cl rfl, List.mapM_cons, frz_iv h1 n, List.mapM_cons, frz_iv h2 n, List.mapM_cons, frz_iv h3 n]
  simp [Pg.v]
theorem sc_pg (p : Pg) : (dPg p).sc = true := by simp [dPg, D.sc, D.scL, sc_iv, V.ow]

def noPg : Pg := ⟨0, 0, [], [], []⟩
def fpOf (s : Str) (l : List Int) : Pg := if lOk s l = true then fprog s l else noPg

def pgEq (p q : Pg) : Bool := decide (p.rows = q.rows) && (decide (p.cols = q.cols) && (decide (p.a = q.a) && (decide (p.b = q.b) && decide (p.c = q.c))))
@[simp] theorem pgEq_self (p : Pg) : pgEq p p = true := by simp [pgEq]
/-- The marks of a program from k on. -/
def mkP (k : Nat) (p : Pg) : Pg := ⟨p.rows, p.cols, marks k p.a.length, marks (k + p.a.length : Nat) p.b.length, marks (k + p.a.length + p.b.length : Nat) p.c.length⟩
def mkPN (k : Nat) (p : Pg) : Nat := k + p.a.length + p.b.length + p.c.length

end Go.Proofs.YtmbcofnnibpbeaaGreat.Vm

namespace Go.Proofs.YtmbcofnnibpbeaaGreat.Vm
open Go Go.Proofs
set_option linter.unusedSimpArgs false
set_option linter.unusedVariables false

theorem dPg_dep (p : Pg) : (dPg p).dep 2 := by simp [dPg, D.dep, D.depL, fl_dep]
theorem dPg_fz (p : Pg) : (dPg p).fz = .agg p.v := by simp [dPg, D.fz, D.fzL, Pg.v]
theorem fpOf_len (s : Str) (l : List Int) : (fpOf s l).a.length ≤ 1048576 ∧ (fpOf s l).b.length ≤ 1048576 ∧ (fpOf s l).c.length ≤ 1048576 := by
  unfold fpOf
  split
  · rename_i h
    have hs := (lOk_of h).sok
    have h6 := hs.nj
    have h8 := hs.nm
    have hfr := freesTo_le s.js s.js.length
    change (frees s.js).length ≤ s.js.length at hfr
    have hcn : nC s ≤ 2 * s.ms.length := colsTo_le s.ms s.ms.length
    have hrn : nR s ≤ 12 := by unfold nR; omega
    have : nR s * nC s ≤ 12 * 16 := Nat.mul_le_mul (by omega) (by omega)
    simp [fprog, right_length]; omega
  · simp [noPg]

end Go.Proofs.YtmbcofnnibpbeaaGreat.Vm

namespace Go.Proofs.YtmbcofnnibpbeaaGreat.Vm
open Go Go.Proofs
set_option linter.unusedSimpArgs false
set_option linter.unusedVariables false

def bv (bs : List Int) : List (List V) := bs.map fun b => [.int .u8 b]
@[simp] theorem bv_length (bs : List Int) : (bv bs).length = bs.length := by simp [bv]
theorem bv_get (bs : List Int) (i : Nat) (h : i < bs.length) : (bv bs)[i]? = some [.int .u8 bs[i]] := by simp [bv, h]
@[simp] theorem bv_getE (bs : List Int) (i : Nat) (h : i < (bv bs).length) : (bv bs)[i] = [.int .u8 (bs[i]'(by simpa using h))] := by simp [bv]
/-- A cursor over a code. -/
def cur (bs : List Int) (i h : Int) : Blk := ⟨3, [[.sl (bv bs), .int .i64 i, .int .i64 h]]⟩
theorem and255 (x : BitVec 64) : (x &&& 255#64).toNat ≤ 255 := by
  rw [BitVec.toNat_and]; exact Nat.and_le_right
/-- The last eight bits. -/
def lo8 (a : Int) : Int := IntKind.i64.wrap ((BitVec.ofInt 64 a &&& BitVec.ofInt 64 255).toNat)
theorem lo8_le (a : Int) : 0 ≤ lo8 a ∧ lo8 a ≤ 255 := by
  have h : (BitVec.ofInt 64 a &&& BitVec.ofInt 64 255).toNat ≤ 255 := by
    rw [BitVec.toNat_and]
    exact Nat.le_trans Nat.and_le_right (by decide)
  unfold lo8
  rw [i64_in (by omega) (by omega)]
  omega
@[simp high] theorem binV_lo8 (P : Program) (t : TypeId) (a : Int) : binV P .and t (.int .i64 a) (.int .i64 255) = some (.int .i64 (lo8 a)) := rfl
def shrN (a : Int) (n : Nat) : Int := a.fdiv (2 ^ n)
def xorI (a b : Int) : Int := IntKind.i64.wrap ((BitVec.ofInt 64 a ^^^ BitVec.ofInt 64 b).toNat)
@[simp high] theorem binV_33 (P : Program) (t : TypeId) (a : Int) : binV P .shr t (.int .i64 a) (.int .u64 33) = some (.int .i64 (shrN a 33)) := rfl
@[simp high] theorem binV_45 (P : Program) (t : TypeId) (a : Int) : binV P .shr t (.int .i64 a) (.int .u64 45) = some (.int .i64 (shrN a 45)) := rfl
@[simp high] theorem binV_xorI (P : Program) (t : TypeId) (a b : Int) : binV P .xor t (.int .i64 a) (.int .i64 b) = some (.int .i64 (xorI a b)) := rfl
structure CurOk (bs : List Int) (i : Int) : Prop where
  n : bs.length ≤ 1048576
  b : ∀ x, x ∈ bs → 0 ≤ x ∧ x < 256
  i0 : 0 ≤ i
  i1 : i ≤ bs.length

theorem l01Byte_cp {bl : Int → Option Blk} {K : V → (Int → Option Blk) → Prop} (bs : List Int) (i h g : Int) (hc : CurOk bs i) (hb : bl g = some (cur bs i h))
    (hK : ∀ (x i' h' : Int), 0 ≤ x ∧ x ≤ 255 → CurOk bs i' → K (.int .i64 x) (upd bl g (some (cur bs i' h')))) : CallP Tryz.prog 80 [.loc g 3 0 0] bl K := by
  obtain ⟨hn, hbs, h0, h1⟩ := hc
  obtain ⟨k, rfl⟩ : ∃ k : Nat, i = k := ⟨i.toNat, by omega⟩
  refine callP_of Tryz.func80 rfl rfl (by rw [Tryz.ntmps80]; simp) ?_
  rw [Tryz.ntmps80, Tryz.results80]
  refine AW_run ?_
  simp [hb, cur]
  generalize IntKind.i64.wrap (IntKind.i64.wrap (h * 6364136223846793005) + 1442695040888963407) = h2
  refine AW_quiet mixedO (by kernel_rfl) ?_
  simp [-binV, -intV, binV_lo8, binV_33, binV_45, binV_xorI]
  obtain ⟨x0, hx0⟩ : ∃ x, x = lo8 (xorI (shrN h2 33) (shrN h2 45)) := ⟨_, rfl⟩
  have bx := lo8_le (xorI (shrN h2 33) (shrN h2 45))
  rw [← hx0] at bx ⊢
  clear hx0
  refine AW_quiet mixedO (by kernel_rfl) ?_
  simp
  refine ⟨fun hlt => ?_, fun hlt => ?_⟩
  · have hk : k < bs.length := by omega
    have q := bv_get bs k hk
    have w1 : IntKind.i64.wrap ((k : Int) + 1) = k + 1 := i64_in (by omega) (by omega)
    refine AW_quiet mixedO (by kernel_rfl) ?_
    simp [hk, q, binV_lo8]
    rw [retK_ret]
    refine ⟨[_], by simp; rfl, ?_⟩
    simp [w1]
    exact hK _ _ _ (lo8_le _) ⟨hn, hbs, by omega, by omega⟩
  · rw [retK_ret]
    refine ⟨[_], by simp; rfl, ?_⟩
    simp
    exact hK _ _ _ bx ⟨hn, hbs, h0, h1⟩

theorem l01Below_cp {bl : Int → Option Blk} {K : V → (Int → Option Blk) → Prop} (bs : List Int) (i h g n : Int) (hn : 1 ≤ n ∧ n ≤ 256) (hc : CurOk bs i) (hb : bl g = some (cur bs i h))
    (hK : ∀ (x i' h' : Int), 0 ≤ x ∧ x < n → CurOk bs i' → K (.int .i64 x) (upd bl g (some (cur bs i' h')))) : CallP Tryz.prog 82 [.loc g 3 0 0, .int .i64 n] bl K := by
  refine callP_of Tryz.func82 rfl rfl (by rw [Tryz.ntmps82]; simp) ?_
  rw [Tryz.ntmps82, Tryz.results82]
  refine AW_run ?_
  simp
  refine ⟨fun h1 => by omega, fun h1 => ⟨fun h2 => ?_, fun h2 => by omega⟩⟩
  refine l01Byte_cp bs i h g hc hb fun x i' h' hx hc' => ?_
  have hm : x.tmod n = x % n := Int.tmod_eq_emod_of_nonneg hx.1
  have m1 := Int.emod_nonneg x (show n ≠ 0 by omega)
  have m2 := Int.emod_lt_of_pos x (show 0 < n by omega)
  have n0 : ¬ n = 0 := by omega
  simp [n0]
  rw [retK_ret]
  refine ⟨[_], by simp; rfl, ?_⟩
  simp
  rw [hm]
  exact hK _ _ _ ⟨m1, m2⟩ hc'

theorem l01Once_cp {bl : Int → Option Blk} {K : V → (Int → Option Blk) → Prop} (bs : List Int) (i h g n : Int) (hn : 1 ≤ n ∧ n ≤ 256) (hc : CurOk bs i) (hb : bl g = some (cur bs i h))
    (hK : ∀ (x : Bool) (i' h' : Int), CurOk bs i' → K (.bool x) (upd bl g (some (cur bs i' h')))) : CallP Tryz.prog 134 [.loc g 3 0 0, .int .i64 n] bl K := by
  refine callP_of Tryz.func134 rfl rfl (by rw [Tryz.ntmps134]; simp) ?_
  rw [Tryz.ntmps134, Tryz.results134]
  refine AW_run ?_
  simp
  refine l01Below_cp bs i h g n hn hc hb fun x i' h' hx hc' => ?_
  simp
  rw [retK_ret]
  refine ⟨[_], by simp; rfl, ?_⟩
  exact hK _ _ _ hc'

theorem l01Pick_cp {bl : Int → Option Blk} {K : V → (Int → Option Blk) → Prop} (bs : List Int) (i h g g2 : Int) (xs : List Int) (hn : 1 ≤ xs.length ∧ xs.length ≤ 256) (hc : CurOk bs i) (hb : bl g = some (cur bs i h)) (h2 : bl g2 = some ⟨1, iv xs⟩) (hne : g2 ≠ g) (h0 : 0 ≤ g2)
    (hK : ∀ (x i' h' : Int), x ∈ xs → CurOk bs i' → K (.int .i64 x) (upd bl g (some (cur bs i' h')))) : CallP Tryz.prog 83 [.loc g 3 0 0, .lsl g2 1 0 xs.length] bl K := by
  refine callP_of Tryz.func83 rfl rfl (by rw [Tryz.ntmps83]; simp) ?_
  rw [Tryz.ntmps83, Tryz.results83]
  refine AW_run ?_
  simp
  refine l01Below_cp bs i h g xs.length (by omega) hc hb fun x i' h' hx hc' => ?_
  obtain ⟨m, rfl⟩ : ∃ m : Nat, x = m := ⟨x.toNat, by omega⟩
  have hm : m < xs.length := by omega
  simp [hm, hne, h2]
  rw [retK_ret]
  refine ⟨[_], by simp; rfl, ?_⟩
  exact hK _ _ _ (List.getElem_mem hm) hc'

end Go.Proofs.YtmbcofnnibpbeaaGreat.Vm

namespace Go.Proofs.YtmbcofnnibpbeaaGreat.Vm
open Go Go.Proofs
set_option linter.unusedSimpArgs false
set_option linter.unusedVariables false

def msk (a b : Int) : Int := IntKind.i64.wrap ((BitVec.ofInt 64 a &&& BitVec.ofInt 64 b).toNat)
theorem binV_msk (P : Program) (t : TypeId) (a b : Int) : binV P .and t (.int .i64 a) (.int .i64 b) = some (.int .i64 (msk a b)) := rfl
theorem binV_addI (P : Program) (t : TypeId) (a b : Int) : binV P .add t (.int .i64 a) (.int .i64 b) = some (.int .i64 (IntKind.i64.wrap (a + b))) := rfl
theorem binV_mulI (P : Program) (t : TypeId) (a b : Int) : binV P .mul t (.int .i64 a) (.int .i64 b) = some (.int .i64 (IntKind.i64.wrap (a * b))) := rfl
theorem l01New_cp {bl : Int → Option Blk} {K : V → (Int → Option Blk) → Prop} (bs : List Int) (hn : bs.length ≤ 1048576)
    (hK : ∀ (g h : Int), 0 ≤ g → bl g = none → K (.loc g 3 0 0) (upd bl g (some (cur bs 0 h)))) : CallP Tryz.prog 37 [.sl (bv bs)] bl K := by
  refine callP_of Tryz.func37 rfl rfl (by rw [Tryz.ntmps37]; simp) ?_
  rw [Tryz.ntmps37, Tryz.results37]
  refine AW_run ?_
  simp
  refine AW_for (fun p : Nat × Int => [(0, .sl (bv bs)), (3, .int .i64 p.2), (4, .int .i64 p.1)]) (fun _ => bl) (fun p => p.1 ≤ bs.length) (fun p => bs.length - p.1) 32 (0, _) (Nat.zero_le _) ⟨rfl, by simp; rfl, Sub.refl _⟩ ?_
  rintro ⟨i, h⟩ hi
  simp only at hi
  refine AW_run ?_
  simp
  refine AW_way0 [(0, .sl (bv bs)), (3, .int .i64 h), (4, .int .i64 i)] _ bl 15 (.bool (decide (i < bs.length) && decide (i < 4000))) ⟨rfl, by simp, Sub.refl _⟩ rfl ?_ ?_
  · simp
    refine ⟨fun h => by rw [decide_eq_true h, Bool.true_and]; exact decide_eq_decide.2 (by omega), fun h1 h2 => by omega⟩
  have w1 : IntKind.i64.wrap ((i : Int) + 1) = i + 1 := i64_in (by omega) (by omega)
  simp [-binV, -intV, binV_msk, binV_addI, binV_mulI]
  refine ⟨fun h1 h2 => ?_, fun h1 => ?_⟩
  · simp [-binV, -intV, binV_msk, binV_addI, binV_mulI, h1, w1]
    rw [loopQ_normal]
    exact ⟨(i + 1, msk (IntKind.i64.wrap (IntKind.i64.wrap (IntKind.i64.wrap (h * 73) + IntKind.i64.wrap bs[i]) + 7)) 1073741823), by simp only; omega, by simp only; omega, rfl, by simp, Sub.refl _⟩
  · intro g hg hb
    rw [retK_ret]
    refine ⟨[_], by simp; rfl, ?_⟩
    exact hK g h hg hb

theorem l32New_cp {bl : Int → Option Blk} {K : V → (Int → Option Blk) → Prop} (bs : List Int) (n : Nat) (hn : bs.length ≤ 1048576) (hb : ∀ x, x ∈ bs → 0 ≤ x ∧ x < 256) (hn2 : n ≤ 1048576)
    (hK : ∀ (g i h : Int), 0 ≤ g → bl g = none → CurOk bs i → K (.loc g 3 0 0) (upd bl g (some (cur bs i h)))) : CallP Tryz.prog 38 [.sl (bv bs), .int .i64 n] bl K := by
  refine callP_of Tryz.func38 rfl rfl (by rw [Tryz.ntmps38]; simp) ?_
  rw [Tryz.ntmps38, Tryz.results38]
  refine AW_run ?_
  simp
  refine l01New_cp bs hn fun g h hg0 hg => ?_
  simp
  refine AW_for (fun p : Nat × Int × Int => [(1, .int .i64 n), (5, .loc g 3 0 0), (6, .int .i64 p.1)]) (fun p => upd bl g (some (cur bs p.2.1 p.2.2))) (fun p => p.1 ≤ n ∧ CurOk bs p.2.1) (fun p => n - p.1) 17 (0, 0, h) ⟨Nat.zero_le _, hn, hb, Int.le_refl _, by simp⟩ ⟨rfl, by simp, sub_eq rfl⟩ ?_
  rintro ⟨k, i, h⟩ ⟨hk, hc⟩
  simp only at hk hc
  refine AW_run ?_
  simp
  refine ⟨fun h1 => ?_, fun h1 => ?_⟩
  · refine l01Byte_cp bs i h g hc (by simp) fun x i' h' hx hc' => ?_
    have w1 : IntKind.i64.wrap ((k : Int) + 1) = k + 1 := i64_in (by omega) (by omega)
    simp [w1]
    rw [loopQ_normal]
    exact ⟨(k + 1, i', h'), ⟨by simp only; omega, hc'⟩, by simp only; omega, rfl, by simp, sub_eq (by simp)⟩
  · rw [retK_ret]
    refine ⟨[_], by simp; rfl, ?_⟩
    exact hK g i h hg0 hg hc

end Go.Proofs.YtmbcofnnibpbeaaGreat.Vm

namespace Go.Proofs.YtmbcofnnibpbeaaGreat.Vm
open Go Go.Proofs
set_option linter.unusedSimpArgs false
set_option linter.unusedVariables false

structure LD where
  k : Nat
  ns : List Int
  i : Int
  h : Int

theorem iv_set46 (ns : List Int) (i : Nat) (x : Int) : (iv ns).set i [.int .i64 x] = iv (ns.set i x) := by simp [iv, List.map_set]
theorem set_in {ns : List Int} {i : Nat} {x : Int} (h : ∀ y, y ∈ ns → -8 ≤ y ∧ y ≤ 8) (hx : -8 ≤ x ∧ x ≤ 8) : ∀ y, y ∈ ns.set i x → -8 ≤ y ∧ y ≤ 8 := by
  intro y hy
  rcases List.mem_or_eq_of_mem_set hy with hy | rfl
  · exact h y hy
  · exact hx
theorem l13Draw_cp {bl : Int → Option Blk} {K : V → (Int → Option Blk) → Prop} (bs : List Int) (i h g : Int) (s : Str) (hj : 1 ≤ s.js.length ∧ s.js.length ≤ 6) (hc : CurOk bs i) (hb : bl g = some (cur bs i h))
    (hK : ∀ (g2 : Int) (ns : List Int) (i' h' : Int) bl', 0 ≤ g2 → bl g2 = none → ns.length = 2 * s.js.length → (∀ x, x ∈ ns → -8 ≤ x ∧ x ≤ 8) → CurOk bs i' → bl' g = some (cur bs i' h') → bl' g2 = some ⟨1, iv ns⟩ → (∀ x y, x ≠ g → bl x = some y → bl' x = some y) → K (.lsl g2 1 0 (2 * s.js.length)) bl') :
    CallP Tryz.prog 79 [.loc g 3 0 0, .agg s.c] bl K := by
  refine callP_of Tryz.func79 rfl rfl (by rw [Tryz.ntmps79]; simp) ?_
  rw [Tryz.ntmps79, Tryz.results79]
  refine AW_run ?_
  have w0 : IntKind.i64.wrap (2 * (s.js.length : Int)) = 2 * s.js.length := i64_in (by omega) (by omega)
  simp [Str.c, w0]
  intro gs hgs0 hgs
  refine ⟨2 * s.js.length, by simp, by simp, by omega, by unfold maxLen; omega, fun g2 hg2 h2 => ?_⟩
  have ngs : gs ≠ g := fun e => by rw [e, hb] at hgs; cases hgs
  simp at h2
  obtain ⟨n2s, hb2⟩ := h2
  have n2g : g2 ≠ g := fun e => by rw [e, hb] at hb2; cases hb2
  have er : List.replicate (2 * s.js.length) [V.int IntKind.i64 0] = iv (List.replicate (2 * s.js.length) 0) := by simp [iv]
  simp [n2s, Ne.symm n2s, er]
  refine AW_for (fun p : LD => [(0, .loc g 3 0 0), (3, .loc gs 2 0 0), (5, .lsl g2 1 0 (2 * s.js.length)), (14, .sl (jv s.js)), (15, .int .i64 s.js.length), (16, .int .i64 p.k)]) (fun p => upd (upd (upd bl gs (some ⟨2, [[.sl (jv s.js), .sl (mv s.ms)]]⟩)) g2 (some ⟨1, iv p.ns⟩)) g (some (cur bs p.i p.h)))
    (fun p => p.k ≤ s.js.length ∧ CurOk bs p.i ∧ p.ns.length = 2 * s.js.length ∧ ∀ x, x ∈ p.ns → -8 ≤ x ∧ x ≤ 8) (fun p => s.js.length - p.k) 48 ⟨0, List.replicate (2 * s.js.length) 0, i, h⟩ ⟨Nat.zero_le _, hc, by simp, fun x hx => by simp at hx; omega⟩ ⟨rfl, by simp, fun x y hx => by simp only [upd_apply] at hx ⊢; grind⟩ ?_
  rintro ⟨k, ns, i', h'⟩ ⟨hk, hc', hl, hr⟩
  simp only at hk hc' hl hr
  refine AW_run ?_
  simp
  refine ⟨fun h1 => ?_, fun h1 => ?_⟩
  · simp [h1, J.c]
    intro g7 hg7 h7g h72 h7s hb7
    refine ⟨fun hf => ?_, fun hf => ?_⟩
    · have w2 : IntKind.i64.wrap (2 * (k : Int)) = 2 * k := i64_in (by omega) (by omega)
      have w3 : IntKind.i64.wrap (2 * (k : Int) + 1) = 2 * k + 1 := i64_in (by omega) (by omega)
      have p1 : 0 ≤ 2 * (k : Int) := by omega
      have p2 : 0 ≤ 2 * (k : Int) + 1 := by omega
      have p3 : 2 * (k : Int) < 2 * s.js.length := by omega
      have p4 : 2 * (k : Int) + 1 < 2 * s.js.length := by omega
      have t1 : (2 * (k : Int)).toNat = 2 * k := by omega
      have t2 : (2 * (k : Int) + 1).toNat = 2 * k + 1 := by omega
      refine l01Below_cp bs i' h' g 7 (by omega) hc' (by simp [Ne.symm h7g]) fun x i1 h1' hx hc1 => ?_
      have w4 : IntKind.i64.wrap (x - 3) = x - 3 := i64_in (by omega) (by omega)
      have k1 : 2 * k < ns.length := by omega
      simp [w2, w3, w4, p1, p2, p3, p4, t1, t2, h7g, Ne.symm h7g, h72, Ne.symm h72, n2g, Ne.symm n2g, k1]
      refine ⟨h1, l01Below_cp bs i1 h1' g 9 (by omega) hc1 (by simp [Ne.symm n2g]) fun y i2 h2' hy hc2 => ?_⟩
      have w5 : IntKind.i64.wrap (-y) = -y := i64_in (by omega) (by omega)
      have k2 : 2 * k + 1 < ns.length := by omega
      have w1 : IntKind.i64.wrap ((k : Int) + 1) = k + 1 := i64_in (by omega) (by omega)
      simp [w1, w5, p2, p4, t2, n2g, Ne.symm n2g, k2, iv_set46]
      rw [loopQ_normal]
      refine ⟨⟨k + 1, (ns.set (2 * k) (x - 3)).set (2 * k + 1) (-y), i2, h2'⟩, ⟨by simp only; omega, hc2, by simp [hl], set_in (set_in hr (by omega)) (by omega)⟩, by simp only; omega, rfl, by simp, ?_⟩
      intro u z hx
      simp only [upd_apply] at hx ⊢
      grind
    · have w1 : IntKind.i64.wrap ((k : Int) + 1) = k + 1 := i64_in (by omega) (by omega)
      simp [w1]
      rw [loopQ_normal]
      exact ⟨⟨k + 1, ns, i', h'⟩, ⟨by simp only; omega, hc', hl, hr⟩, by simp only; omega, rfl, by simp, by simp [h7g, h72, h7s, hb7]⟩
  · have n8 : 1 ≤ (8 : Int) ∧ (8 : Int) ≤ 256 := by omega
    refine l01Once_cp bs i' h' g 8 n8 hc' (by simp) fun x i1 h1' hc1 => ?_
    cases x
    · simp
      rw [retK_ret]
      refine ⟨[_], by simp; rfl, ?_⟩
      refine hK g2 ns i1 h1' _ hg2 hb2 hl hr hc1 (by simp) (by simp [n2g]) fun u z hu hz => ?_
      have e1 : u ≠ gs := fun e => by rw [e, hgs] at hz; cases hz
      have e2 : u ≠ g2 := fun e => by rw [e, hb2] at hz; cases hz
      simp [hu, e1, e2, hz]
    · have w6 : IntKind.i64.wrap (2 * (s.js.length : Int) - 1) = 2 * s.js.length - 1 := i64_in (by omega) (by omega)
      have p5 : 0 ≤ 2 * (s.js.length : Int) - 1 := by omega
      have p6 : 2 * (s.js.length : Int) - 1 < 2 * s.js.length := by omega
      have t3 : (2 * (s.js.length : Int) - 1).toNat = 2 * s.js.length - 1 := by omega
      have k3 : 2 * s.js.length - 1 < ns.length := by omega
      simp [w6, p5, p6, t3, n2g, Ne.symm n2g, k3, iv_set46]
      refine ⟨by omega, ?_⟩
      rw [retK_ret]
      refine ⟨[_], by simp; rfl, ?_⟩
      refine hK g2 (ns.set (2 * s.js.length - 1) 4) i1 h1' _ hg2 hb2 (by simp [hl]) (set_in hr (by omega)) hc1 (by simp [Ne.symm n2g]) (by simp) fun u z hu hz => ?_
      have e1 : u ≠ gs := fun e => by rw [e, hgs] at hz; cases hz
      have e2 : u ≠ g2 := fun e => by rw [e, hb2] at hz; cases hz
      simp [hu, e1, e2, hz]

end Go.Proofs.YtmbcofnnibpbeaaGreat.Vm

namespace Go.Proofs.YtmbcofnnibpbeaaGreat.Vm
open Go Go.Proofs
set_option linter.unusedSimpArgs false
set_option linter.unusedVariables false

/-- What follows a structure drawn. -/
def StrK (bl : Int → Option Blk) (K : V → (Int → Option Blk) → Prop) (bs : List Int) (g : Int) : Prop :=
  ∀ (s : Str) (i' h' : Int) bl', sOk s = true → 3 ≤ s.js.length → CurOk bs i' → bl' g = some (cur bs i' h') → (∀ x y, x ≠ g → bl x = some y → bl' x = some y) → K (.agg s.c) bl'
theorem iv4 (a b c d : Int) : [[V.int .i64 a], [V.int .i64 b], [V.int .i64 c], [V.int .i64 d]] = iv [a, b, c, d] := rfl
theorem iv3 (a b c : Int) : [[V.int .i64 a], [V.int .i64 b], [V.int .i64 c]] = iv [a, b, c] := rfl
def nmA : ByteArray := { data := #[97] }
def nmB : ByteArray := { data := #[98] }
def nmC : ByteArray := { data := #[99] }
def nmD : ByteArray := { data := #[100] }
def js3 (x1 x2 x3 x4 x5 x6 : Int) : List J := [⟨nmA, -1 - x1, x2, true⟩, ⟨nmB, 3 + x3, x4, true⟩, ⟨nmC, x5 - 1, -1 - x6, false⟩]
def ms2 (x7 : Int) : List Mb := [⟨0, 2, 1⟩, ⟨1, 2, x7⟩]
theorem sOk_mk {js : List J} {ms : List Mb} (hj : js.length ≤ 6) (hm : ms.length ≤ 8) (h1 : ∀ j, j ∈ js → j.ok = true) (h2 : (js.map (·.name)).Nodup) (h3 : ∀ m, m ∈ ms → mOk js m = true) : sOk ⟨js, ms⟩ = true := by
  unfold sOk
  simp only [Bool.and_eq_true, decide_eq_true_eq]
  refine ⟨⟨⟨hj, hm⟩, fun i hi => ⟨h1 _ (List.getElem_mem hi), ?_⟩⟩, List.all_eq_true.2 h3⟩
  refine ixf_here hi (fun j hj hlt => ?_) (by simp)
  have := List.pairwise_iff_getElem.1 h2 j i (by simpa using hj) (by simpa using hi) hlt
  simpa using this
theorem nms : isName nmA = true ∧ isName nmB = true ∧ isName nmC = true ∧ isName nmD = true := by decide
theorem hang_ok {x1 x2 x3 x4 x5 x6 x7 : Int} (h1 : 0 ≤ x1 ∧ x1 < 4) (h2 : 0 ≤ x2 ∧ x2 < 3) (h3 : 0 ≤ x3 ∧ x3 < 4) (h4 : 0 ≤ x4 ∧ x4 < 3) (h5 : 0 ≤ x5 ∧ x5 < 4) (h6 : 0 ≤ x6 ∧ x6 < 4) (h7 : 1 ≤ x7 ∧ x7 ≤ 3) : sOk ⟨js3 x1 x2 x3 x4 x5 x6, ms2 x7⟩ = true := by
  obtain ⟨na, nb, nc, nd⟩ := nms
  refine sOk_mk (by simp [js3]) (by simp [ms2]) (fun j hj => ?_) (by show ([nmA, nmB, nmC] : List ByteArray).Nodup; decide) (fun m hm => ?_)
  · simp only [js3, List.mem_cons, List.not_mem_nil, or_false] at hj
    rcases hj with rfl | rfl | rfl <;> simp [J.ok, na, nb, nc] <;> omega
  · simp only [ms2, List.mem_cons, List.not_mem_nil, or_false] at hm
    rcases hm with rfl | rfl <;> simp [mOk, js3, jat] <;> omega
def js4 (x1 x2 x3 x4 x5 x6 x8 : Int) : List J := js3 x1 x2 x3 x4 x5 x6 ++ [⟨nmD, x8 - 1, -7, true⟩]
def ms3 (x7 x9 : Int) : List Mb := ms2 x7 ++ [⟨3, 2, x9⟩]
theorem hang_ok4 {x1 x2 x3 x4 x5 x6 x7 x8 x9 : Int} (h1 : 0 ≤ x1 ∧ x1 < 4) (h2 : 0 ≤ x2 ∧ x2 < 3) (h3 : 0 ≤ x3 ∧ x3 < 4) (h4 : 0 ≤ x4 ∧ x4 < 3) (h5 : 0 ≤ x5 ∧ x5 < 4) (h6 : 0 ≤ x6 ∧ x6 < 4) (h7 : 1 ≤ x7 ∧ x7 ≤ 3) (h8 : 0 ≤ x8 ∧ x8 < 5) (h9 : 1 ≤ x9 ∧ x9 ≤ 3) : sOk ⟨js4 x1 x2 x3 x4 x5 x6 x8, ms3 x7 x9⟩ = true := by
  obtain ⟨na, nb, nc, nd⟩ := nms
  refine sOk_mk (by simp [js4, js3]) (by simp [ms3, ms2]) (fun j hj => ?_) (by show ([nmA, nmB, nmC, nmD] : List ByteArray).Nodup; decide) (fun m hm => ?_)
  · simp only [js4, js3, List.cons_append, List.nil_append, List.mem_cons, List.not_mem_nil, or_false] at hj
    rcases hj with rfl | rfl | rfl | rfl <;> simp [J.ok, na, nb, nc, nd] <;> omega
  · simp only [ms3, ms2, List.cons_append, List.nil_append, List.mem_cons, List.not_mem_nil, or_false] at hm
    rcases hm with rfl | rfl | rfl <;> simp [mOk, js4, js3, jat] <;> omega
theorem l12Hang_cp {bl : Int → Option Blk} {K : V → (Int → Option Blk) → Prop} (bs : List Int) (i h g : Int) (hc : CurOk bs i) (hb : bl g = some (cur bs i h)) (hK : StrK bl K bs g) :
    CallP Tryz.prog 136 [.loc g 3 0 0] bl K := by
  refine callP_of Tryz.func136 rfl rfl (by rw [Tryz.ntmps136]; simp) ?_
  rw [Tryz.ntmps136, Tryz.results136]
  refine AW_runA ?_
  simp
  intro ga hga0 hga
  have nag : ga ≠ g := fun e => by rw [e, hb] at hga; cases hga
  refine AW_runA ?_
  simp
  intro gs hgs0 hgsa hgs
  have nsg : gs ≠ g := fun e => by rw [e, hb] at hgs; cases hgs
  refine AW_runA ?_
  simp
  refine l01Below_cp bs i h g 4 (by omega) hc (by simp [nag, nsg, Ne.symm nag, Ne.symm nsg, hgsa, Ne.symm hgsa, hb]) fun x1 i1 h1 hx1 hc1 => ?_
  have w1 : IntKind.i64.wrap (-1 - x1) = -1 - x1 := i64_in (by omega) (by omega)
  simp [nag, nsg, Ne.symm nag, Ne.symm nsg, hgsa, Ne.symm hgsa, w1]
  refine l01Below_cp bs i1 h1 g 3 (by omega) hc1 (by simp [nag, nsg, Ne.symm nag, Ne.symm nsg, hgsa, Ne.symm hgsa, hb]) fun x2 i2 h2 hx2 hc2 => ?_
  simp [nag, nsg, Ne.symm nag, Ne.symm nsg, hgsa, Ne.symm hgsa]
  refine l01Below_cp bs i2 h2 g 4 (by omega) hc2 (by simp [nag, nsg, Ne.symm nag, Ne.symm nsg, hgsa, Ne.symm hgsa, hb]) fun x3 i3 h3 hx3 hc3 => ?_
  have w3 : IntKind.i64.wrap (3 + x3) = 3 + x3 := i64_in (by omega) (by omega)
  simp [nag, nsg, Ne.symm nag, Ne.symm nsg, hgsa, Ne.symm hgsa, w3]
  refine l01Below_cp bs i3 h3 g 3 (by omega) hc3 (by simp [nag, nsg, Ne.symm nag, Ne.symm nsg, hgsa, Ne.symm hgsa, hb]) fun x4 i4 h4 hx4 hc4 => ?_
  simp [nag, nsg, Ne.symm nag, Ne.symm nsg, hgsa, Ne.symm hgsa]
  refine l01Below_cp bs i4 h4 g 4 (by omega) hc4 (by simp [nag, nsg, Ne.symm nag, Ne.symm nsg, hgsa, Ne.symm hgsa, hb]) fun x5 i5 h5 hx5 hc5 => ?_
  have w5 : IntKind.i64.wrap (x5 - 1) = x5 - 1 := i64_in (by omega) (by omega)
  simp [nag, nsg, Ne.symm nag, Ne.symm nsg, hgsa, Ne.symm hgsa, w5]
  refine l01Below_cp bs i5 h5 g 4 (by omega) hc5 (by simp [nag, nsg, Ne.symm nag, Ne.symm nsg, hgsa, Ne.symm hgsa, hb]) fun x6 i6 h6 hx6 hc6 => ?_
  have w6 : IntKind.i64.wrap (-1 - x6) = -1 - x6 := i64_in (by omega) (by omega)
  simp [nag, nsg, Ne.symm nag, Ne.symm nsg, hgsa, Ne.symm hgsa, w6]
  intro g5 hg5 n5g n5s n5a hb5
  simp [nag, nsg, Ne.symm nag, Ne.symm nsg, hgsa, Ne.symm hgsa, n5g, n5s, n5a, Ne.symm n5g, Ne.symm n5s, Ne.symm n5a, show List.range 3 = [0, 1, 2] from rfl]
  refine AW_runA ?_
  simp [nag, nsg, Ne.symm nag, Ne.symm nsg, hgsa, Ne.symm hgsa, n5g, n5s, n5a, Ne.symm n5g, Ne.symm n5s, Ne.symm n5a]
  intro g6 hg6 n6s n65 n6g _ n6a hb6
  refine l01Pick_cp bs i6 h6 g g6 [1, 1, 1, 3] (by simp) hc6 (by simp [n6g, Ne.symm n6g, nag, nsg, Ne.symm nag, Ne.symm nsg, hgsa, Ne.symm hgsa, Ne.symm n5g]) (by simp [iv, show List.range 4 = [0, 1, 2, 3] from rfl]) n6g hg6 fun x7 i7 h7 hx7 hc7 => ?_
  simp [nag, nsg, Ne.symm nag, Ne.symm nsg, hgsa, Ne.symm hgsa, n5g, n5s, n5a, Ne.symm n5g, Ne.symm n5s, Ne.symm n5a, n6s, n65, n6g, n6a, Ne.symm n6s, Ne.symm n65, Ne.symm n6g, Ne.symm n6a]
  intro g7 hg7 n7g n76 n7s n75 _ _ n7a hb7
  simp [nag, nsg, Ne.symm nag, Ne.symm nsg, hgsa, Ne.symm hgsa, n5g, n5s, n5a, Ne.symm n5g, Ne.symm n5s, Ne.symm n5a, n6s, n65, n6g, n6a, Ne.symm n6s, Ne.symm n65, Ne.symm n6g, Ne.symm n6a, n7g, n76, n7s, n75, n7a, Ne.symm n7g, Ne.symm n76, Ne.symm n7s, Ne.symm n75, Ne.symm n7a, show List.range 2 = [0, 1] from rfl]
  have hx7' : x7 = 1 ∨ x7 = 3 := by simpa using hx7
  obtain ⟨b0, hb0⟩ : ∃ b0, b0 = upd bl g none := ⟨_, rfl⟩
  have b0g : b0 g = none := by rw [hb0]; simp
  have b0k : ∀ x, x ≠ g → b0 x = bl x := fun x hx => by rw [hb0, upd_apply, if_neg hx]
  have b0a : b0 ga = none := by rw [b0k _ nag]; exact hga
  have b0s : b0 gs = none := by rw [b0k _ nsg]; exact hgs
  have b05 : b0 g5 = none := by rw [b0k _ n5g]; exact hb5
  have b07 : b0 g7 = none := by rw [b0k _ n7g]; exact hb7
  clear hb0
  refine AW_at [(0, .loc g 3 0 0), (2, .loc ga 2 0 0), (3, .loc gs 2 0 0)] 54 (upd (upd (upd (upd (upd b0 ga (some ⟨2, [[.nils, .nils]]⟩)) g5 (some ⟨4, jv (js3 x1 x2 x3 x4 x5 x6)⟩)) g7 (some ⟨3, mv (ms2 x7)⟩)) gs (some ⟨2, [[.lsl g5 4 0 3, .lsl g7 3 0 2]]⟩)) g (some (cur bs i7 h7))) ⟨rfl, by simp, by
    simp only [jv, mv, js3, ms2, List.map, J.c, Mb.c, nmA, nmB, nmC, nmD]
    intro z b hz
    have := b0k z
    simp only [upd_apply] at hz ⊢
    grind⟩ ?_
  clear hb hga hgs hb5 hb6 hb7
  refine AW_runA ?_
  simp
  refine l01Once_cp bs i7 h7 g 2 (by omega) hc7 (by simp [n5g, n5s, n5a, Ne.symm n5g, Ne.symm n5s, Ne.symm n5a, n7g, n7s, n75, n7a, Ne.symm n7g, Ne.symm n7s, Ne.symm n75, Ne.symm n7a, nag, nsg, Ne.symm nag, Ne.symm nsg, hgsa, Ne.symm hgsa]) fun x8 i8 h8 hc8 => ?_
  cases x8
  · simp
    refine AW_frzAt 2 3 (.ptr (Str.mk (js3 x1 x2 x3 x4 x5 x6) (ms2 x7)).c) (upd (upd b0 ga (some ⟨2, [[.nils, .nils]]⟩)) g (some (cur bs i8 h8))) (by intro z b hz; simp only [upd_apply] at hz ⊢; grind) (by simp [frz, dropB, jv, mv, J.c, Mb.c, js3, ms2, V.cl, Int.not_lt.2 hg5, Int.not_lt.2 hg7, Str.c, b05, b07, b0s, n5g, n5s, n5a, Ne.symm n5g, Ne.symm n5s, Ne.symm n5a, n7g, n7s, n75, n7a, Ne.symm n7g, Ne.symm n7s, Ne.symm n75, Ne.symm n7a, nag, nsg, Ne.symm nag, Ne.symm nsg, hgsa, Ne.symm hgsa]) ?_
    refine AW_run ?_
    simp [Str.c, nag, Ne.symm nag]
    rw [retK_ret]
    refine ⟨[_], by simp [nag]; rfl, ?_⟩
    exact hK ⟨js3 x1 x2 x3 x4 x5 x6, ms2 x7⟩ i8 h8 _ (hang_ok (by omega) (by omega) (by omega) (by omega) (by omega) (by omega) (by omega)) (by simp [js3]) hc8 (by simp [nag, Ne.symm nag]) (fun x y hx hy => by have := b0k x hx; simp only [upd_apply]; grind)
  · simp
    refine AW_mixedBT mixedO (upd (upd (upd b0 ga (some ⟨2, [[.nils, .nils]]⟩)) g7 (some ⟨3, mv (ms2 x7)⟩)) gs (some ⟨2, [[.lsl g5 4 0 3, .lsl g7 3 0 2]]⟩)) (by intro z b hz; simp only [upd_apply] at hz ⊢; grind) [0, 1, 2] 7 9 (by kernel_rfl) ?_
    simp [n5g, n5s, n5a, Ne.symm n5g, Ne.symm n5s, Ne.symm n5a, n7g, n7s, n75, n7a, Ne.symm n7g, Ne.symm n7s, Ne.symm n75, Ne.symm n7a, nag, nsg, Ne.symm nag, Ne.symm nsg, hgsa, Ne.symm hgsa]
    refine DAny_one (i := 3) (by kernel_rfl) rfl rfl ?_
    simp
    refine l01Below_cp bs i8 h8 g 5 (by omega) hc8 (by simp [n5g, n5s, n5a, Ne.symm n5g, Ne.symm n5s, Ne.symm n5a, n7g, n7s, n75, n7a, Ne.symm n7g, Ne.symm n7s, Ne.symm n75, Ne.symm n7a, nag, nsg, Ne.symm nag, Ne.symm nsg, hgsa, Ne.symm hgsa]) fun x9 i9 h9 hx9 hc9 => ?_
    have w9 : IntKind.i64.wrap (x9 - 1) = x9 - 1 := i64_in (by omega) (by omega)
    simp
    refine ⟨by intro z b hz; simp only [upd_apply] at hz ⊢; grind, DAny_one (i := 4) (by kernel_rfl) rfl rfl ?_⟩
    simp [w9]
    refine ⟨by intro z b hz; simp only [upd_apply] at hz ⊢; grind, DAny_one (i := 5) (by kernel_rfl) rfl rfl ?_⟩
    simp
    refine ⟨by intro z b hz; simp only [upd_apply] at hz ⊢; grind, DAny_one (i := 6) (by kernel_rfl) rfl rfl ?_⟩
    simp [n5g, n5s, n5a, Ne.symm n5g, Ne.symm n5s, Ne.symm n5a, n7g, n7s, n75, n7a, Ne.symm n7g, Ne.symm n7s, Ne.symm n75, Ne.symm n7a, nag, nsg, Ne.symm nag, Ne.symm nsg, hgsa, Ne.symm hgsa]
    intro g9 hg9 n9g n9s n97 n95 n9a b09
    try simp [n5g, n5s, n5a, Ne.symm n5g, Ne.symm n5s, Ne.symm n5a, n7g, n7s, n75, n7a, Ne.symm n7g, Ne.symm n7s, Ne.symm n75, Ne.symm n7a, nag, nsg, Ne.symm nag, Ne.symm nsg, hgsa, Ne.symm hgsa, n9g, Ne.symm n9g, n9s, Ne.symm n9s, n97, Ne.symm n97, n95, Ne.symm n95, n9a, Ne.symm n9a]
    refine ⟨by intro z b hz; simp only [upd_apply, rem_apply] at hz ⊢; grind, DAny_one (i := 7) (by kernel_rfl) rfl rfl ?_⟩
    simp [n5g, n5s, n5a, Ne.symm n5g, Ne.symm n5s, Ne.symm n5a, n7g, n7s, n75, n7a, Ne.symm n7g, Ne.symm n7s, Ne.symm n75, Ne.symm n7a, nag, nsg, Ne.symm nag, Ne.symm nsg, hgsa, Ne.symm hgsa, n9g, Ne.symm n9g, n9s, Ne.symm n9s, n97, Ne.symm n97, n95, Ne.symm n95, n9a, Ne.symm n9a, appV, elsV, Int.not_lt.2 hg5, Int.not_lt.2 hg9, js3]
    intro g0 hg0 hh
    obtain ⟨n0g, n0s, n07, n0a, b00⟩ : ¬ g0 = g ∧ ¬ g0 = gs ∧ ¬ g0 = g7 ∧ ¬ g0 = ga ∧ b0 g0 = none := by
      by_cases e : g0 = g5
      · rw [e]; exact ⟨n5g, n5s, Ne.symm n75, n5a, b05⟩
      · obtain ⟨_, q1, q2, q3, _, q4, q5⟩ := hh e; exact ⟨q1, q2, q3, q4, q5⟩
    clear hh
    refine ⟨by intro z b hz; simp only [upd_apply, rem_apply] at hz ⊢; grind, DAny_one (i := 8) (by kernel_rfl) rfl rfl ?_⟩
    simp [n5g, n5s, n5a, Ne.symm n5g, Ne.symm n5s, Ne.symm n5a, n7g, n7s, n75, n7a, Ne.symm n7g, Ne.symm n7s, Ne.symm n75, Ne.symm n7a, nag, nsg, Ne.symm nag, Ne.symm nsg, hgsa, Ne.symm hgsa, n9g, Ne.symm n9g, n9s, Ne.symm n9s, n97, Ne.symm n97, n95, Ne.symm n95, n9a, Ne.symm n9a, n0g, Ne.symm n0g, n0s, Ne.symm n0s, n07, Ne.symm n07, n0a, Ne.symm n0a]
    refine ⟨by intro z b hz; simp only [upd_apply, rem_apply] at hz ⊢; grind, DAny_last (i := 9) (by kernel_rfl) rfl rfl rfl ?_⟩
    simp [n5g, n5s, n5a, Ne.symm n5g, Ne.symm n5s, Ne.symm n5a, n7g, n7s, n75, n7a, Ne.symm n7g, Ne.symm n7s, Ne.symm n75, Ne.symm n7a, nag, nsg, Ne.symm nag, Ne.symm nsg, hgsa, Ne.symm hgsa, n9g, Ne.symm n9g, n9s, Ne.symm n9s, n97, Ne.symm n97, n95, Ne.symm n95, n9a, Ne.symm n9a, n0g, Ne.symm n0g, n0s, Ne.symm n0s, n07, Ne.symm n07, n0a, Ne.symm n0a]
    refine DAny_done (by kernel_rfl) ?_
    try simp
    refine AW_at [(0, .loc g 3 0 0), (2, .loc ga 2 0 0), (3, .loc gs 2 0 0)] 54 (upd (upd (upd (upd (upd b0 ga (some ⟨2, [[.nils, .nils]]⟩)) g0 (some ⟨4, jv (js4 x1 x2 x3 x4 x5 x6 x9)⟩)) g7 (some ⟨3, mv (ms2 x7)⟩)) gs (some ⟨2, [[.lsl g0 4 0 4, .lsl g7 3 0 2]]⟩)) g (some (cur bs i9 h9))) ⟨rfl, by simp, by
      simp only [jv, mv, js4, js3, ms2, List.map, J.c, Mb.c, nmA, nmB, nmC, nmD, List.cons_append, List.nil_append]
      intro z b hz
      simp only [upd_apply, rem_apply] at hz ⊢
      grind⟩ ?_
    refine AW_mixedBT mixedO (upd (upd (upd b0 ga (some ⟨2, [[.nils, .nils]]⟩)) g0 (some ⟨4, jv (js4 x1 x2 x3 x4 x5 x6 x9)⟩)) gs (some ⟨2, [[.lsl g0 4 0 4, .lsl g7 3 0 2]]⟩)) (by intro z b hz; simp only [upd_apply, rem_apply] at hz ⊢; grind) [0, 1, 2] 7 9 (by kernel_rfl) ?_
    simp [n7g, n7s, n7a, Ne.symm n7g, Ne.symm n7s, Ne.symm n7a, nag, nsg, Ne.symm nag, Ne.symm nsg, hgsa, Ne.symm hgsa, n0g, Ne.symm n0g, n0s, Ne.symm n0s, n07, Ne.symm n07, n0a, Ne.symm n0a]
    refine DAny_one (i := 3) (by kernel_rfl) rfl rfl ?_
    simp [n7g, n7s, n7a, Ne.symm n7g, Ne.symm n7s, Ne.symm n7a, nag, nsg, Ne.symm nag, Ne.symm nsg, hgsa, Ne.symm hgsa, n0g, Ne.symm n0g, n0s, Ne.symm n0s, n07, Ne.symm n07, n0a, Ne.symm n0a, show List.range 3 = [0, 1, 2] from rfl]
    intro gb hgb nbg nbs nb7 nb0 nba b0b
    refine ⟨by intro z b hz; simp only [upd_apply, rem_apply] at hz ⊢; grind, DAny_one (i := 4) (by kernel_rfl) rfl rfl ?_⟩
    simp [n7g, n7s, n7a, Ne.symm n7g, Ne.symm n7s, Ne.symm n7a, nag, nsg, Ne.symm nag, Ne.symm nsg, hgsa, Ne.symm hgsa, n0g, Ne.symm n0g, n0s, Ne.symm n0s, n07, Ne.symm n07, n0a, Ne.symm n0a, nbg, Ne.symm nbg, nbs, Ne.symm nbs, nb7, Ne.symm nb7, nb0, Ne.symm nb0, nba, Ne.symm nba]
    refine l01Pick_cp bs i9 h9 g gb [1, 2, 3] (by simp) hc9 (by simp [n7g, n7s, n7a, Ne.symm n7g, Ne.symm n7s, Ne.symm n7a, nag, nsg, Ne.symm nag, Ne.symm nsg, hgsa, Ne.symm hgsa, n0g, Ne.symm n0g, n0s, Ne.symm n0s, n07, Ne.symm n07, n0a, Ne.symm n0a, nbg, Ne.symm nbg, nbs, Ne.symm nbs, nb7, Ne.symm nb7, nb0, Ne.symm nb0, nba, Ne.symm nba]) (by simp [iv]) nbg hgb fun xb ib hb hxb hcb => ?_
    have hxb' : xb = 1 ∨ xb = 2 ∨ xb = 3 := by simpa using hxb
    simp
    refine ⟨by intro z b hz; simp only [upd_apply, rem_apply] at hz ⊢; grind, DAny_one (i := 5) (by kernel_rfl) rfl rfl ?_⟩
    simp
    refine ⟨by intro z b hz; simp only [upd_apply, rem_apply] at hz ⊢; grind, DAny_one (i := 6) (by kernel_rfl) rfl rfl ?_⟩
    simp [n7g, n7s, n7a, Ne.symm n7g, Ne.symm n7s, Ne.symm n7a, nag, nsg, Ne.symm nag, Ne.symm nsg, hgsa, Ne.symm hgsa, n0g, Ne.symm n0g, n0s, Ne.symm n0s, n07, Ne.symm n07, n0a, Ne.symm n0a, nbg, Ne.symm nbg, nbs, Ne.symm nbs, nb7, Ne.symm nb7, nb0, Ne.symm nb0, nba, Ne.symm nba]
    intro gc hgc _ ncb ncg ncs nc7 nc0 nca b0c
    try simp [n7g, n7s, n7a, Ne.symm n7g, Ne.symm n7s, Ne.symm n7a, nag, nsg, Ne.symm nag, Ne.symm nsg, hgsa, Ne.symm hgsa, n0g, Ne.symm n0g, n0s, Ne.symm n0s, n07, Ne.symm n07, n0a, Ne.symm n0a, nbg, Ne.symm nbg, nbs, Ne.symm nbs, nb7, Ne.symm nb7, nb0, Ne.symm nb0, nba, Ne.symm nba, ncb, Ne.symm ncb, ncg, Ne.symm ncg, ncs, Ne.symm ncs, nc7, Ne.symm nc7, nc0, Ne.symm nc0, nca, Ne.symm nca]
    refine ⟨by intro z b hz; simp only [upd_apply, rem_apply] at hz ⊢; grind, DAny_one (i := 7) (by kernel_rfl) rfl rfl ?_⟩
    simp [n7g, n7s, n7a, Ne.symm n7g, Ne.symm n7s, Ne.symm n7a, nag, nsg, Ne.symm nag, Ne.symm nsg, hgsa, Ne.symm hgsa, n0g, Ne.symm n0g, n0s, Ne.symm n0s, n07, Ne.symm n07, n0a, Ne.symm n0a, nbg, Ne.symm nbg, nbs, Ne.symm nbs, nb7, Ne.symm nb7, nb0, Ne.symm nb0, nba, Ne.symm nba, ncb, Ne.symm ncb, ncg, Ne.symm ncg, ncs, Ne.symm ncs, nc7, Ne.symm nc7, nc0, Ne.symm nc0, nca, Ne.symm nca, appV, elsV, Int.not_lt.2 hg7, Int.not_lt.2 hgc, ms2]
    intro gd hgd hh
    obtain ⟨ndg, nds, nd0, nda, b0d⟩ : ¬ gd = g ∧ ¬ gd = gs ∧ ¬ gd = g0 ∧ ¬ gd = ga ∧ b0 gd = none := by
      by_cases e : gd = g7
      · rw [e]; exact ⟨n7g, n7s, Ne.symm n07, n7a, b07⟩
      · have := hh e; grind
    clear hh
    refine ⟨by intro z b hz; simp only [upd_apply, rem_apply] at hz ⊢; grind, DAny_one (i := 8) (by kernel_rfl) rfl rfl ?_⟩
    simp [n7g, n7s, n7a, Ne.symm n7g, Ne.symm n7s, Ne.symm n7a, nag, nsg, Ne.symm nag, Ne.symm nsg, hgsa, Ne.symm hgsa, n0g, Ne.symm n0g, n0s, Ne.symm n0s, n07, Ne.symm n07, n0a, Ne.symm n0a, nbg, Ne.symm nbg, nbs, Ne.symm nbs, nb7, Ne.symm nb7, nb0, Ne.symm nb0, nba, Ne.symm nba, ncb, Ne.symm ncb, ncg, Ne.symm ncg, ncs, Ne.symm ncs, nc7, Ne.symm nc7, nc0, Ne.symm nc0, nca, Ne.symm nca, ndg, Ne.symm ndg, nds, Ne.symm nds, nd0, Ne.symm nd0, nda, Ne.symm nda]
    refine ⟨by intro z b hz; simp only [upd_apply, rem_apply] at hz ⊢; grind, DAny_last (i := 9) (by kernel_rfl) rfl rfl rfl ?_⟩
    simp [n7g, n7s, n7a, Ne.symm n7g, Ne.symm n7s, Ne.symm n7a, nag, nsg, Ne.symm nag, Ne.symm nsg, hgsa, Ne.symm hgsa, n0g, Ne.symm n0g, n0s, Ne.symm n0s, n07, Ne.symm n07, n0a, Ne.symm n0a, nbg, Ne.symm nbg, nbs, Ne.symm nbs, nb7, Ne.symm nb7, nb0, Ne.symm nb0, nba, Ne.symm nba, ncb, Ne.symm ncb, ncg, Ne.symm ncg, ncs, Ne.symm ncs, nc7, Ne.symm nc7, nc0, Ne.symm nc0, nca, Ne.symm nca, ndg, Ne.symm ndg, nds, Ne.symm nds, nd0, Ne.symm nd0, nda, Ne.symm nda]
    refine DAny_done (by kernel_rfl) ?_
    try simp
    refine AW_at [(0, .loc g 3 0 0), (2, .loc ga 2 0 0), (3, .loc gs 2 0 0)] 54 (upd (upd (upd (upd (upd b0 ga (some ⟨2, [[.nils, .nils]]⟩)) g0 (some ⟨4, jv (js4 x1 x2 x3 x4 x5 x6 x9)⟩)) gd (some ⟨3, mv (ms3 x7 xb)⟩)) gs (some ⟨2, [[.lsl g0 4 0 4, .lsl gd 3 0 3]]⟩)) g (some (cur bs ib hb))) ⟨rfl, by simp, by
      simp only [jv, mv, js4, js3, ms3, ms2, List.map, J.c, Mb.c, nmA, nmB, nmC, nmD, List.cons_append, List.nil_append]
      intro z b hz
      simp only [upd_apply, rem_apply] at hz ⊢
      grind⟩ ?_
    refine AW_frzAt 2 3 (.ptr (Str.mk (js4 x1 x2 x3 x4 x5 x6 x9) (ms3 x7 xb)).c) (upd (upd b0 ga (some ⟨2, [[.nils, .nils]]⟩)) g (some (cur bs ib hb))) (by intro z b hz; simp only [upd_apply, rem_apply] at hz ⊢; grind) (by simp [frz, dropB, jv, mv, J.c, Mb.c, js4, js3, ms3, ms2, V.cl, Int.not_lt.2 hg0, Int.not_lt.2 hgd, Str.c, b00, b0d, b0s, n7g, n7s, n7a, Ne.symm n7g, Ne.symm n7s, Ne.symm n7a, nag, nsg, Ne.symm nag, Ne.symm nsg, hgsa, Ne.symm hgsa, n0g, Ne.symm n0g, n0s, Ne.symm n0s, n07, Ne.symm n07, n0a, Ne.symm n0a, ndg, Ne.symm ndg, nds, Ne.symm nds, nd0, Ne.symm nd0, nda, Ne.symm nda]) ?_
    refine AW_run ?_
    simp [Str.c, nag, Ne.symm nag]
    rw [retK_ret]
    refine ⟨[_], by simp [nag]; rfl, ?_⟩
    have hok := hang_ok4 hx1 hx2 hx3 hx4 hx5 hx6 (x7 := x7) (by rcases hx7' with h | h <;> rw [h] <;> decide) hx9 (x9 := xb) (by rcases hxb' with h | h | h <;> rw [h] <;> decide)
    exact hK ⟨js4 x1 x2 x3 x4 x5 x6 x9, ms3 x7 xb⟩ ib hb _ hok (by simp [js4, js3]) hcb (by simp [nag, Ne.symm nag]) (fun x y hx hy => by have := b0k x hx; simp only [upd_apply]; grind)
end Go.Proofs.YtmbcofnnibpbeaaGreat.Vm

namespace Go.Proofs.YtmbcofnnibpbeaaGreat.Vm
open Go Go.Proofs
set_option linter.unusedSimpArgs false
set_option linter.unusedVariables false

/-- Reading operations next. -/
theorem DAny_more {P : Program} {ops : Array Oper} {blK : Int → Option Blk} {tl : Nat → Bool} {K : St → Prop} {l : Array Bool} {σ : St} (is : List Nat) (fuel : Nat) (hs : Sub blK σ.bl) (hn : (is.all (fun i => decide (i < ops.size)) && hoistB ops is l && tailB ops tl is) = true)
    (h : HoistF P (ops.toList.map (·.dst)) blK (is.filterMap fun i => ops[i]?) (DAny P ops blK tl K fuel (setAll is l)) σ) : DAny P ops blK tl K (fuel + is.length) l σ := by
  simp only [Bool.and_eq_true] at hn
  exact DAny_hoist fuel is l σ (tailB_spec hn.2) hn.1.2 hs (Hoist_is _ is σ (filter_some is hn.1.1) h)

def tj (x1 x2 x3 x4 x5 x6 : Int) : List J := [⟨nmA, -2, x1, true⟩, ⟨nmB, 6, x2, true⟩, ⟨nmC, x3, -1 - x4, false⟩, ⟨nmD, 3 + x5, -1 - x6, false⟩]
structure TD where
  n : Nat
  ms : List Mb
  g : Int
  i : Int
  h : Int
def mGood (m : Mb) : Prop := (m.a = 0 ∨ m.a = 1 ∨ m.a = 2 ∨ m.a = 3) ∧ (m.b = 1 ∨ m.b = 2 ∨ m.b = 3) ∧ (1 ≤ m.kind ∧ m.kind ≤ 3) ∧ ((m.a ≤ 1 ∧ 2 ≤ m.b) ∨ (m.a = 2 ∧ m.b = 3) ∨ (m.a = 3 ∧ m.b = 1))
theorem two_ok {x1 x2 x3 x4 x5 x6 : Int} {ms : List Mb} (h1 : 0 ≤ x1 ∧ x1 < 3) (h2 : 0 ≤ x2 ∧ x2 < 3) (h3 : 0 ≤ x3 ∧ x3 < 2) (h4 : 0 ≤ x4 ∧ x4 < 3) (h5 : 0 ≤ x5 ∧ x5 < 2) (h6 : 0 ≤ x6 ∧ x6 < 3) (hl : ms.length ≤ 5) (hm : ∀ m, m ∈ ms → mGood m) : sOk ⟨tj x1 x2 x3 x4 x5 x6, ms⟩ = true := by
  obtain ⟨na, nb, nc, nd⟩ := nms
  refine sOk_mk (by simp [tj]) (by omega) (fun j hj => ?_) (by show ([nmA, nmB, nmC, nmD] : List ByteArray).Nodup; decide) (fun m hmm => ?_)
  · simp only [tj, List.mem_cons, List.not_mem_nil, or_false] at hj
    rcases hj with rfl | rfl | rfl | rfl <;> simp [J.ok, na, nb, nc, nd] <;> omega
  · obtain ⟨q1, q2, q3, q4⟩ := hm m hmm
    obtain ⟨ma, mb, mk⟩ := m
    simp only at q1 q2 q3 q4
    rcases q1 with rfl | rfl | rfl | rfl <;> rcases q2 with rfl | rfl | rfl <;> simp [mOk, tj, jat] at q4 ⊢ <;> omega
theorem frz_box2 {bl : Int → Option Blk} {gs g1 g2 : Int} {js : List J} {ms : List Mb} (h0 : 0 ≤ g1) (h0' : 0 ≤ g2) (hs : bl gs = some ⟨2, [[.lsl g1 4 0 js.length, .lsl g2 3 0 ms.length]]⟩) (h1 : bl g1 = some ⟨4, jv js⟩) (h2 : bl g2 = some ⟨3, mv ms⟩) : frz bl 2 (.loc gs 2 0 0) = some (.ptr (Str.mk js ms).c) := by
  have e1 := frz_slice (bl := bl) (bl0 := fun _ => none) (n := js.length) h0 rfl h1 (by simp) (jv_cl js)
  have e2 := frz_slice (bl := bl) (bl0 := fun _ => none) (n := ms.length) h0' rfl h2 (by simp) (mv_cl ms)
  change frz bl 1 _ = _ at e1
  change frz bl 1 _ = _ at e2
  rw [frz_loc0 hs]
  simp [e1, e2, Str.c]
theorem l12Two_cp {bl : Int → Option Blk} {K : V → (Int → Option Blk) → Prop} (bs : List Int) (i h g : Int) (hc : CurOk bs i) (hb : bl g = some (cur bs i h)) (hK : StrK bl K bs g) :
    CallP Tryz.prog 135 [.loc g 3 0 0] bl K := by
  refine callP_of Tryz.func135 rfl rfl (by rw [Tryz.ntmps135]; simp) ?_
  rw [Tryz.ntmps135, Tryz.results135]
  refine AW_runA ?_
  simp
  intro ga hga0 hga
  have nag : ga ≠ g := fun e => by rw [e, hb] at hga; cases hga
  refine AW_runA ?_
  simp
  intro gs hgs0 hgsa hgs
  have nsg : gs ≠ g := fun e => by rw [e, hb] at hgs; cases hgs
  refine AW_runA ?_
  simp
  refine l01Below_cp bs i h g 3 (by omega) hc (by simp [nag, nsg, Ne.symm nag, Ne.symm nsg, hgsa, Ne.symm hgsa, hb]) fun x1 i1 h1 hx1 hc1 => ?_
  simp [nag, nsg, Ne.symm nag, Ne.symm nsg, hgsa, Ne.symm hgsa]
  refine l01Below_cp bs i1 h1 g 3 (by omega) hc1 (by simp [nag, nsg, Ne.symm nag, Ne.symm nsg, hgsa, Ne.symm hgsa, hb]) fun x2 i2 h2 hx2 hc2 => ?_
  simp [nag, nsg, Ne.symm nag, Ne.symm nsg, hgsa, Ne.symm hgsa]
  refine l01Below_cp bs i2 h2 g 2 (by omega) hc2 (by simp [nag, nsg, Ne.symm nag, Ne.symm nsg, hgsa, Ne.symm hgsa, hb]) fun x3 i3 h3 hx3 hc3 => ?_
  simp [nag, nsg, Ne.symm nag, Ne.symm nsg, hgsa, Ne.symm hgsa]
  refine l01Below_cp bs i3 h3 g 3 (by omega) hc3 (by simp [nag, nsg, Ne.symm nag, Ne.symm nsg, hgsa, Ne.symm hgsa, hb]) fun x4 i4 h4 hx4 hc4 => ?_
  have w4 : IntKind.i64.wrap (-1 - x4) = -1 - x4 := i64_in (by omega) (by omega)
  simp [nag, nsg, Ne.symm nag, Ne.symm nsg, hgsa, Ne.symm hgsa, w4]
  refine l01Below_cp bs i4 h4 g 2 (by omega) hc4 (by simp [nag, nsg, Ne.symm nag, Ne.symm nsg, hgsa, Ne.symm hgsa, hb]) fun x5 i5 h5 hx5 hc5 => ?_
  have w5 : IntKind.i64.wrap (3 + x5) = 3 + x5 := i64_in (by omega) (by omega)
  simp [nag, nsg, Ne.symm nag, Ne.symm nsg, hgsa, Ne.symm hgsa, w5]
  refine l01Below_cp bs i5 h5 g 3 (by omega) hc5 (by simp [nag, nsg, Ne.symm nag, Ne.symm nsg, hgsa, Ne.symm hgsa, hb]) fun x6 i6 h6 hx6 hc6 => ?_
  have w6 : IntKind.i64.wrap (-1 - x6) = -1 - x6 := i64_in (by omega) (by omega)
  simp [nag, nsg, Ne.symm nag, Ne.symm nsg, hgsa, Ne.symm hgsa, w6]
  intro g5 hg5 n5g n5s n5a hb5
  simp [nag, nsg, Ne.symm nag, Ne.symm nsg, hgsa, Ne.symm hgsa, n5g, Ne.symm n5g, n5s, Ne.symm n5s, n5a, Ne.symm n5a, show List.range 4 = [0, 1, 2, 3] from rfl]
  refine AW_runA ?_
  simp [nag, nsg, Ne.symm nag, Ne.symm nsg, hgsa, Ne.symm hgsa, n5g, Ne.symm n5g, n5s, Ne.symm n5s, n5a, Ne.symm n5a]
  intro g6 hg6 n6s n65 n6g _ n6a hb6
  refine l01Pick_cp bs i6 h6 g g6 [1, 2, 3] (by simp) hc6 (by simp [nag, nsg, Ne.symm nag, Ne.symm nsg, hgsa, Ne.symm hgsa, n5g, Ne.symm n5g, n5s, Ne.symm n5s, n5a, Ne.symm n5a, n6g, Ne.symm n6g]) (by simp [iv, show List.range 3 = [0, 1, 2] from rfl]) n6g hg6 fun x7 i7 h7 hx7 hc7 => ?_
  simp [nag, nsg, Ne.symm nag, Ne.symm nsg, hgsa, Ne.symm hgsa, n5g, Ne.symm n5g, n5s, Ne.symm n5s, n5a, Ne.symm n5a, n6s, Ne.symm n6s, n65, Ne.symm n65, n6g, Ne.symm n6g, n6a, Ne.symm n6a]
  intro g7 hg7 n7g n76 n7s n75 _ _ n7a hb7
  simp [nag, nsg, Ne.symm nag, Ne.symm nsg, hgsa, Ne.symm hgsa, n5g, Ne.symm n5g, n5s, Ne.symm n5s, n5a, Ne.symm n5a, n6s, Ne.symm n6s, n65, Ne.symm n65, n6g, Ne.symm n6g, n6a, Ne.symm n6a, n7g, Ne.symm n7g, n76, Ne.symm n76, n7s, Ne.symm n7s, n75, Ne.symm n75, n7a, Ne.symm n7a, show List.range 3 = [0, 1, 2] from rfl]
  have hx7' : x7 = 1 ∨ x7 = 2 ∨ x7 = 3 := by simpa using hx7
  obtain ⟨b0, hb0⟩ : ∃ b0, b0 = upd bl g none := ⟨_, rfl⟩
  have b0g : b0 g = none := by rw [hb0]; simp
  have b0k : ∀ x, x ≠ g → b0 x = bl x := fun x hx => by rw [hb0, upd_apply, if_neg hx]
  have b0a : b0 ga = none := by rw [b0k _ nag]; exact hga
  have b0s : b0 gs = none := by rw [b0k _ nsg]; exact hgs
  have b05 : b0 g5 = none := by rw [b0k _ n5g]; exact hb5
  have b07 : b0 g7 = none := by rw [b0k _ n7g]; exact hb7
  clear hb0
  refine AW_at [(0, .loc g 3 0 0), (2, .loc ga 2 0 0), (3, .loc gs 2 0 0)] 56 (upd (upd (upd (upd (upd b0 ga (some ⟨2, [[.nils, .nils]]⟩)) g5 (some ⟨4, jv (tj x1 x2 x3 x4 x5 x6)⟩)) g7 (some ⟨3, mv [⟨0, 2, 1⟩, ⟨2, 3, x7⟩, ⟨3, 1, 1⟩]⟩)) gs (some ⟨2, [[.lsl g5 4 0 4, .lsl g7 3 0 3]]⟩)) g (some (cur bs i7 h7))) ⟨rfl, by simp, by
    simp only [jv, mv, tj, List.map, J.c, Mb.c, nmA, nmB, nmC, nmD]
    intro z b hz
    have := b0k z
    simp only [upd_apply] at hz ⊢
    grind⟩ ?_
  clear hb hga hgs hb5 hb6 hb7
  refine AW_runA ?_
  simp
  refine l01Below_cp bs i7 h7 g 3 (by omega) hc7 (by simp [nag, nsg, Ne.symm nag, Ne.symm nsg, hgsa, Ne.symm hgsa, n5g, Ne.symm n5g, n5s, Ne.symm n5s, n5a, Ne.symm n5a, n7g, n7s, n7a, Ne.symm n7g, Ne.symm n7s, Ne.symm n7a]) fun x8 i8 h8 hx8 hc8 => ?_
  simp
  refine AW_for (fun p : TD => [(0, .loc g 3 0 0), (2, .loc ga 2 0 0), (3, .loc gs 2 0 0), (4, .int .i64 p.n)]) (fun p => upd (upd (upd (upd (upd b0 ga (some ⟨2, [[.nils, .nils]]⟩)) g5 (some ⟨4, jv (tj x1 x2 x3 x4 x5 x6)⟩)) p.g (some ⟨3, mv p.ms⟩)) gs (some ⟨2, [[.lsl g5 4 0 4, .lsl p.g 3 0 p.ms.length]]⟩)) g (some (cur bs p.i p.h)))
    (fun p => (p.n ≤ 2 ∧ p.ms.length + p.n ≤ 5) ∧ (∀ m, m ∈ p.ms → mGood m) ∧ CurOk bs p.i ∧ (0 ≤ p.g ∧ ¬ p.g = g ∧ ¬ p.g = gs ∧ ¬ p.g = g5 ∧ ¬ p.g = ga ∧ b0 p.g = none)) (fun p => p.n) 56 ⟨x8.toNat, [⟨0, 2, 1⟩, ⟨2, 3, x7⟩, ⟨3, 1, 1⟩], g7, i8, h8⟩
    ⟨⟨by simp only; omega, by simp; omega⟩, fun m hm => ?_, hc8, hg7, n7g, n7s, n75, n7a, b07⟩ ⟨rfl, by simp; omega, by intro z b hz; simp only [upd_apply] at hz ⊢; grind⟩ ?_
  · simp only [List.mem_cons, List.not_mem_nil, or_false] at hm
    rcases hm with rfl | rfl | rfl
    · unfold mGood; simp
    · unfold mGood; simp; omega
    · unfold mGood; simp
  rintro ⟨n, ms, gm, ic, hcu⟩ ⟨⟨hn, hml⟩, hms, hcc, hgm, nmg, nms', nm5, nma, b0m⟩
  simp only at hn hml hms hcc hgm nmg nms' nm5 nma b0m
  refine AW_run ?_
  simp
  refine ⟨fun hp => ?_, fun hp => ?_⟩
  · refine AW_mixedBT mixedO (upd (upd (upd b0 ga (some ⟨2, [[.nils, .nils]]⟩)) g5 (some ⟨4, jv (tj x1 x2 x3 x4 x5 x6)⟩)) gs (some ⟨2, [[.lsl g5 4 0 4, .lsl gm 3 0 ms.length]]⟩)) (by intro z b hz; simp only [upd_apply, rem_apply] at hz ⊢; grind) [0, 1, 2, 4, 7] 10 14 (by kernel_rfl) ?_
    simp [nag, nsg, Ne.symm nag, Ne.symm nsg, hgsa, Ne.symm hgsa, n5g, Ne.symm n5g, n5s, Ne.symm n5s, n5a, Ne.symm n5a, nmg, Ne.symm nmg, nms', Ne.symm nms', nm5, Ne.symm nm5, nma, Ne.symm nma]
    refine DAny_one (i := 3) (by kernel_rfl) rfl rfl ?_
    simp
    refine l01Below_cp bs ic hcu g 2 (by omega) hcc (by simp [nag, nsg, Ne.symm nag, Ne.symm nsg, hgsa, Ne.symm hgsa, n5g, Ne.symm n5g, n5s, Ne.symm n5s, n5a, Ne.symm n5a, nmg, Ne.symm nmg, nms', Ne.symm nms', nm5, Ne.symm nm5, nma, Ne.symm nma]) fun y1 j1 k1 hy1 hd1 => ?_
    simp
    refine ⟨by intro z b hz; simp only [upd_apply, rem_apply] at hz ⊢; grind, DAny_one (i := 5) (by kernel_rfl) rfl rfl ?_⟩
    simp
    refine l01Below_cp bs j1 k1 g 2 (by omega) hd1 (by simp) fun y2 j2 k2 hy2 hd2 => ?_
    have wy2 : IntKind.i64.wrap (2 + y2) = 2 + y2 := i64_in (by omega) (by omega)
    simp
    refine ⟨by intro z b hz; simp only [upd_apply, rem_apply] at hz ⊢; grind, DAny_more (fuel := 7) [6] (by intro z b hz; simp only [upd_apply, rem_apply] at hz ⊢; grind) (by kernel_rfl) ?_⟩
    simp [wy2]
    refine DAny_one (i := 8) (by kernel_rfl) rfl rfl ?_
    simp
    refine l01Below_cp bs j2 k2 g 3 (by omega) hd2 (by simp) fun y3 j3 k3 hy3 hd3 => ?_
    have wy3 : IntKind.i64.wrap (1 + y3) = 1 + y3 := i64_in (by omega) (by omega)
    simp
    refine ⟨by intro z b hz; simp only [upd_apply, rem_apply] at hz ⊢; grind, DAny_one (i := 9) (by kernel_rfl) rfl rfl ?_⟩
    simp [wy3]
    refine ⟨by intro z b hz; simp only [upd_apply, rem_apply] at hz ⊢; grind, DAny_one (i := 10) (by kernel_rfl) rfl rfl ?_⟩
    simp
    refine ⟨by intro z b hz; simp only [upd_apply, rem_apply] at hz ⊢; grind, DAny_one (i := 11) (by kernel_rfl) rfl rfl ?_⟩
    simp
    intro gc hgc ncg ncs ncm nc5 nca b0c
    refine ⟨by intro z b hz; simp only [upd_apply, rem_apply] at hz ⊢; grind, DAny_one (i := 12) (by kernel_rfl) rfl rfl ?_⟩
    simp [nag, nsg, Ne.symm nag, Ne.symm nsg, hgsa, Ne.symm hgsa, n5g, Ne.symm n5g, n5s, Ne.symm n5s, n5a, Ne.symm n5a, nmg, Ne.symm nmg, nms', Ne.symm nms', nm5, Ne.symm nm5, nma, Ne.symm nma, ncg, Ne.symm ncg, ncs, Ne.symm ncs, ncm, Ne.symm ncm, nc5, Ne.symm nc5, nca, Ne.symm nca, appV, elsV, Int.not_lt.2 hgm, Int.not_lt.2 hgc]
    refine ⟨by omega, fun gd hgd hh => ?_⟩
    obtain ⟨ndg, nds, nd5, nda, b0d⟩ : ¬ gd = g ∧ ¬ gd = gs ∧ ¬ gd = g5 ∧ ¬ gd = ga ∧ b0 gd = none := by
      by_cases e : gd = gm
      · rw [e]; exact ⟨nmg, nms', nm5, nma, b0m⟩
      · have := hh e; grind
    clear hh
    refine ⟨by intro z b hz; simp only [upd_apply, rem_apply] at hz ⊢; grind, DAny_one (i := 13) (by kernel_rfl) rfl rfl ?_⟩
    simp [nag, nsg, Ne.symm nag, Ne.symm nsg, hgsa, Ne.symm hgsa, n5g, Ne.symm n5g, n5s, Ne.symm n5s, n5a, Ne.symm n5a, nmg, Ne.symm nmg, nms', Ne.symm nms', nm5, Ne.symm nm5, nma, Ne.symm nma, ncg, Ne.symm ncg, ncs, Ne.symm ncs, ncm, Ne.symm ncm, nc5, Ne.symm nc5, nca, Ne.symm nca, ndg, Ne.symm ndg, nds, Ne.symm nds, nd5, Ne.symm nd5, nda, Ne.symm nda]
    refine ⟨by intro z b hz; simp only [upd_apply, rem_apply] at hz ⊢; grind, DAny_last (i := 14) (by kernel_rfl) rfl rfl rfl ?_⟩
    simp [nag, nsg, Ne.symm nag, Ne.symm nsg, hgsa, Ne.symm hgsa, n5g, Ne.symm n5g, n5s, Ne.symm n5s, n5a, Ne.symm n5a, nmg, Ne.symm nmg, nms', Ne.symm nms', nm5, Ne.symm nm5, nma, Ne.symm nma, ncg, Ne.symm ncg, ncs, Ne.symm ncs, ncm, Ne.symm ncm, nc5, Ne.symm nc5, nca, Ne.symm nca, ndg, Ne.symm ndg, nds, Ne.symm nds, nd5, Ne.symm nd5, nda, Ne.symm nda]
    refine DAny_done (by kernel_rfl) ?_
    have wn : IntKind.i64.wrap ((n : Int) - 1) = ((n - 1 : Nat) : Int) := by rw [i64_in (by omega) (by omega)]; omega
    simp [wn, loopQ_normal]
    have emv : List.take ms.length (mv ms) ++ [[V.int IntKind.i64 y1, V.int IntKind.i64 (2 + y2), V.int IntKind.i64 (1 + y3)]] = mv (ms ++ [⟨y1, 2 + y2, 1 + y3⟩]) := by
      rw [← mv_length ms, List.take_length]; simp [mv, Mb.c]
    refine ⟨⟨n - 1, ms ++ [⟨y1, 2 + y2, 1 + y3⟩], gd, j3, k3⟩, ⟨⟨by simp only; omega, by simp; omega⟩, fun m hm => ?_, hd3, hgd, ndg, nds, nd5, nda, b0d⟩, by simp only; omega, rfl, by simp, ?_⟩
    · rcases List.mem_append.1 hm with hm | hm
      · exact hms m hm
      · obtain rfl : m = _ := by simpa using hm
        unfold mGood; simp only; omega
    · rw [emv]
      intro z b hz
      simp only [upd_apply, rem_apply, List.length_append, List.length_singleton] at hz ⊢
      grind
  · refine AW_frzAt 2 3 (.ptr (Str.mk (tj x1 x2 x3 x4 x5 x6) ms).c) (upd (upd b0 ga (some ⟨2, [[.nils, .nils]]⟩)) g (some (cur bs ic hcu))) (by intro z b hz; simp only [upd_apply, rem_apply] at hz ⊢; grind) (frz_box2 (g1 := g5) (g2 := gm) hg5 hgm (by simp [dropB, tj, b0s, nag, nsg, Ne.symm nag, Ne.symm nsg, hgsa, Ne.symm hgsa, n5g, Ne.symm n5g, n5s, Ne.symm n5s, n5a, Ne.symm n5a, nmg, Ne.symm nmg, nms', Ne.symm nms', nm5, Ne.symm nm5, nma, Ne.symm nma]) (by simp [dropB, b05, nag, nsg, Ne.symm nag, Ne.symm nsg, hgsa, Ne.symm hgsa, n5g, Ne.symm n5g, n5s, Ne.symm n5s, n5a, Ne.symm n5a, nmg, Ne.symm nmg, nms', Ne.symm nms', nm5, Ne.symm nm5, nma, Ne.symm nma]) (by simp [dropB, b0m, nag, nsg, Ne.symm nag, Ne.symm nsg, hgsa, Ne.symm hgsa, n5g, Ne.symm n5g, n5s, Ne.symm n5s, n5a, Ne.symm n5a, nmg, Ne.symm nmg, nms', Ne.symm nms', nm5, Ne.symm nm5, nma, Ne.symm nma])) ?_
    refine AW_run ?_
    simp [Str.c, nag, Ne.symm nag]
    rw [retK_ret]
    refine ⟨[_], by simp [nag]; rfl, ?_⟩
    have hok := two_ok hx1 hx2 hx3 hx4 hx5 hx6 (ms := ms) (by omega) hms
    exact hK ⟨tj x1 x2 x3 x4 x5 x6, ms⟩ ic hcu _ hok (by simp [tj]) hcc (by simp [nag, Ne.symm nag]) (fun x y hx hy => by have := b0k x hx; simp only [upd_apply]; grind)

theorem l12Draw_cp {bl : Int → Option Blk} {K : V → (Int → Option Blk) → Prop} (bs : List Int) (i h g : Int) (hc : CurOk bs i) (hb : bl g = some (cur bs i h)) (hK : StrK bl K bs g) :
    CallP Tryz.prog 78 [.loc g 3 0 0] bl K := by
  refine callP_of Tryz.func78 rfl rfl (by rw [Tryz.ntmps78]; simp) ?_
  rw [Tryz.ntmps78, Tryz.results78]
  refine AW_run ?_
  simp
  intro ga hga0 hga
  have nag : ga ≠ g := fun e => by rw [e, hb] at hga; cases hga
  refine l01Once_cp bs i h g 3 (by omega) hc (by simp [nag, Ne.symm nag, hb]) fun x i1 h1 hc1 => ?_
  have hK2 : ∀ (s : Str) (i' h' : Int) bl', sOk s = true → 3 ≤ s.js.length → CurOk bs i' → bl' g = some (cur bs i' h') → (∀ x y, x ≠ g → upd (upd bl ga (some ⟨2, [[.nils, .nils]]⟩)) g (some (cur bs i1 h1)) x = some y → bl' x = some y) → K (.agg s.c) (upd bl' ga (some ⟨2, [s.c]⟩)) := fun s i' h' bl' q1 q2 q3 q4 q5 =>
    hK s i' h' _ q1 q2 q3 (by simp [Ne.symm nag, q4]) (fun x y hx hy => by
      have e1 : x ≠ ga := fun e => by rw [e, hga] at hy; cases hy
      rw [upd_apply, if_neg e1]
      exact q5 x y hx (by rw [upd_apply, if_neg hx, upd_apply, if_neg e1]; exact hy))
  have hga2 : ∀ bl' : Int → Option Blk, (∀ x y, x ≠ g → upd (upd bl ga (some ⟨2, [[.nils, .nils]]⟩)) g (some (cur bs i1 h1)) x = some y → bl' x = some y) → bl' ga = some ⟨2, [[.nils, .nils]]⟩ := fun bl' q => q ga _ nag (by simp [nag])
  cases x
  · simp
    refine l12Hang_cp bs i1 h1 g hc1 (by simp) fun s i' h' bl' q1 q2 q3 q4 q5 => ?_
    have e2 := hga2 bl' q5
    simp [Str.c, e2]
    rw [retK_ret]
    refine ⟨[_], by simp; rfl, ?_⟩
    exact hK2 s i' h' bl' q1 q2 q3 q4 q5
  · simp
    refine l12Two_cp bs i1 h1 g hc1 (by simp) fun s i' h' bl' q1 q2 q3 q4 q5 => ?_
    have e2 := hga2 bl' q5
    simp [Str.c, e2]
    rw [retK_ret]
    refine ⟨[_], by simp; rfl, ?_⟩
    exact hK2 s i' h' bl' q1 q2 q3 q4 q5
end Go.Proofs.YtmbcofnnibpbeaaGreat.Vm

namespace Go.Proofs.YtmbcofnnibpbeaaGreat.Vm
open Go Go.Proofs
set_option linter.unusedSimpArgs false
set_option linter.unusedVariables false

theorem fitsL_mk {js : List J} {ns : List Int} (hl : ns.length = 2 * js.length) (h : ∀ x, x ∈ ns → -8 ≤ x ∧ x ≤ 8) : fitsL js ns = true := by
  unfold fitsL
  rw [Bool.and_eq_true]
  refine ⟨by simpa using hl, List.all_eq_true.2 fun x hx => ?_⟩
  have := h x hx
  simp [forceOk]; omega
theorem sOk_nj {s : Str} (h : sOk s = true) : s.js.length ≤ 6 := by
  unfold sOk at h
  simp only [Bool.and_eq_true, decide_eq_true_eq] at h
  exact h.1.1.1
theorem l14Case_cp {bl : Int → Option Blk} {K : V → (Int → Option Blk) → Prop} (bs : List Int) (i h g : Int) (hc : CurOk bs i) (hb : bl g = some (cur bs i h))
    (hK : ∀ (s : Str) (ns : List Int) bl', lOk s ns = true → 3 ≤ s.js.length → (∀ x, x ∈ ns → -8 ≤ x ∧ x ≤ 8) → (∀ x y, x ≠ g → bl x = some y → bl' x = some y) → K (.tup [.agg s.c, .sl (iv ns)]) bl') :
    CallP Tryz.prog 36 [.loc g 3 0 0] bl K := by
  refine callP_of Tryz.func36 rfl rfl (by rw [Tryz.ntmps36]; simp) ?_
  rw [Tryz.ntmps36, Tryz.results36]
  refine AW_runA ?_
  simp
  intro ga hga0 hga
  have nag : ga ≠ g := fun e => by rw [e, hb] at hga; cases hga
  refine AW_runA ?_
  simp
  refine l12Draw_cp bs i h g hc (by simp [Ne.symm nag, hb]) fun s i1 h1 b1 q1 q2 q3 q4 q5 => ?_
  have ea : b1 ga = some ⟨2, [[.nils, .nils]]⟩ := q5 ga _ nag (by simp)
  have q6 : ∀ x y, x ≠ g → bl x = some y → b1 x = some y := fun x y hx hy => q5 x y hx (by rw [upd_apply, if_neg (fun e => by rw [e, hga] at hy; cases hy)]; exact hy)
  have hnj := sOk_nj q1
  simp [Str.c]
  intro g4 hg4 hb4
  have n4g : g4 ≠ g := fun e => by rw [e, q4] at hb4; cases hb4
  have n4a : g4 ≠ ga := fun e => by rw [e, ea] at hb4; cases hb4
  have b04 : bl g4 = none := by
    rcases e : bl g4 with _ | y
    · rfl
    · rw [q6 g4 y n4g e] at hb4; cases hb4
  refine AW_runA ?_
  refine AW_mixedB mixedO (upd (upd bl g none) g4 (some ⟨2, [s.c]⟩)) (by
    intro z b hz
    have := q6 z
    simp only [upd_apply, Str.c] at hz ⊢
    grind) [0, 1, 2] 3 (by kernel_rfl) ?_
  simp [Str.c, n4g, n4a, Ne.symm n4g, Ne.symm n4a]
  refine DAny_one (i := 3) (by kernel_rfl) rfl rfl ?_
  simp
  refine l13Draw_cp bs i1 h1 g s ⟨by omega, hnj⟩ q3 (by simp [Ne.symm n4g, q4]) fun g2 ns i2 h2 b2 hg2 hb2 hl hr hc2 hbg hbg2 hk2 => ?_
  have n2g : g2 ≠ g := fun e => by rw [e] at hb2; simp [Ne.symm n4g, q4] at hb2
  have n24 : g2 ≠ g4 := fun e => by rw [e] at hb2; simp at hb2
  have n2a : g2 ≠ ga := fun e => by rw [e] at hb2; simp [Ne.symm n4a, ea] at hb2
  have b12 : b1 g2 = none := by simpa [n24] using hb2
  have b02 : bl g2 = none := by
    rcases e : bl g2 with _ | y
    · rfl
    · rw [q6 g2 y n2g e] at b12; cases b12
  have ea2 : b2 ga = some ⟨2, [[.nils, .nils]]⟩ := hk2 ga _ nag (by simp [Ne.symm n4a, ea])
  have e42 : b2 g4 = some ⟨2, [s.c]⟩ := hk2 g4 _ n4g (by simp [Str.c])
  have hs2 : ∀ x y, x ≠ g → bl x = some y → b2 x = some y := fun x y hx hy => hk2 x y hx (by rw [upd_apply, if_neg (fun e => by rw [e, b04] at hy; cases hy)]; exact q6 x y hx hy)
  have hsub : ∀ X : Option Blk, Sub (upd (upd bl g none) g4 (some ⟨2, [s.c]⟩)) (upd b2 ga X) := fun X z b hz => by
    have := hs2 z
    simp only [upd_apply] at hz ⊢
    grind
  have hsub0 : Sub (upd (upd bl g none) g4 (some ⟨2, [s.c]⟩)) b2 := fun z b hz => by
    have := hs2 z
    simp only [upd_apply] at hz ⊢
    grind
  simp only [Str.c] at hsub hsub0
  simp
  refine ⟨hsub0, DAny_one (i := 4) (by kernel_rfl) rfl rfl ?_⟩
  simp [ea2]
  refine ⟨hsub _, DAny_one (i := 5) (by kernel_rfl) rfl rfl ?_⟩
  simp
  refine ⟨hsub _, DAny_done (by kernel_rfl) ?_⟩
  simp
  refine AW_frzAt 1 3 (.sl (iv ns)) (upd (upd bl g none) ga (some ⟨2, [s.c]⟩)) (fun z b hz => by
    have := hs2 z
    simp only [upd_apply, Str.c] at hz ⊢
    grind) (by
      have e := frz_slice (bl := upd b2 ga (some ⟨2, [s.c]⟩)) (bl0 := upd (upd bl g none) ga (some ⟨2, [s.c]⟩)) (sz := 1) (n := 2 * s.js.length) hg2 (by simp [n2a, n2g, b02]) (els := iv ns) (by simp [n2a, hbg2]) (by simpa using hl) (iv_cl ns)
      simpa [Str.c] using e) ?_
  refine AW_run ?_
  simp
  rw [retK_ret]
  refine ⟨[.agg s.c, .sl (iv ns)], by simp [Str.c], ?_⟩
  refine hK s ns _ (by unfold lOk; rw [q1, fitsL_mk hl hr]; rfl) q2 hr (fun x y hx hy => ?_)
  have e1 : x ≠ ga := fun e => by rw [e, hga] at hy; cases hy
  simp [upd_apply, hx, e1, hy]

theorem MakeCase_cp {bl : Int → Option Blk} {K : V → (Int → Option Blk) → Prop} (bs : List Int) (hn : bs.length ≤ 1048576) (hbs : ∀ x, x ∈ bs → 0 ≤ x ∧ x < 256)
    (hK : ∀ (s : Str) (ns : List Int) bl', lOk s ns = true → 3 ≤ s.js.length → (∀ x, x ∈ ns → -8 ≤ x ∧ x ≤ 8) → Sub bl bl' → K (.tup [.agg s.c, .sl (iv ns)]) bl') :
    CallP Tryz.prog 9 [.sl (bv bs)] bl K := by
  refine callP_of Tryz.func9 rfl rfl (by rw [Tryz.ntmps9]; simp) ?_
  rw [Tryz.ntmps9, Tryz.results9]
  refine AW_run ?_
  simp
  intro ga hga0 hga
  refine l01New_cp bs hn fun g h hg0 hg => ?_
  have nga : g ≠ ga := fun e => by rw [e] at hg; simp at hg
  have bg : bl g = none := by simpa [nga] using hg
  simp
  refine l14Case_cp bs 0 h g ⟨hn, hbs, by omega, by omega⟩ (by simp) fun s ns b1 q1 q1a q1b q2 => ?_
  have ea : b1 ga = some ⟨2, [[.nils, .nils]]⟩ := q2 ga _ (Ne.symm nga) (by simp [Ne.symm nga])
  simp [Str.c, ea]
  rw [retK_ret]
  refine ⟨[.agg s.c, .sl (iv ns)], by simp [Str.c], ?_⟩
  refine hK s ns _ q1 q1a q1b (fun x y hy => ?_)
  have e1 : x ≠ ga := fun e => by rw [e, hga] at hy; cases hy
  have e2 : x ≠ g := fun e => by rw [e, bg] at hy; cases hy
  show upd b1 ga (some ⟨2, [[.sl (jv s.js), .sl (mv s.ms)]]⟩) x = some y
  rw [upd_apply, if_neg e1]
  exact q2 x y e2 (by simp [upd_apply, e1, e2, hy])
end Go.Proofs.YtmbcofnnibpbeaaGreat.Vm

namespace Go.Proofs.YtmbcofnnibpbeaaGreat.Vm
open Go Go.Proofs
set_option linter.unusedSimpArgs false
set_option linter.unusedVariables false

theorem neg_ro (x : Option Rat) : RO Tryz.prog 114 [fv x] (fv (x.map (- ·))) := by
  cases x with
  | none =>
    refine ro_of2 Tryz.func114 rfl rfl (by rw [Tryz.ntmps114]; simp) fun bl => ?_
    rw [Tryz.ntmps114, Tryz.results114]
    refine AW_run ?_
    simp [fv]
    exact retRO0 (by simp) rfl rfl
  | some q =>
    have hop := opposite_ro q.num
    rw [biC_def, biC_def, Int.natAbs_neg] at hop
    refine ro_of2 Tryz.func114 rfl rfl (by rw [Tryz.ntmps114]; simp) fun bl => ?_
    rw [Tryz.ntmps114, Tryz.results114]
    refine AW_run ?_
    rw [show fv (some q) = .ptr (rq q).c from rfl, rqc_def, show fv ((some q).map (- ·)) = .ptr [.bool (decide (-q.num < 0)), .sl (iv (lim q.num.natAbs)), .sl (iv (lim q.den))] by
      show V.ptr (rq (-q)).c = _
      rw [rqc_def]
      show V.ptr [.bool (decide (-q.num < 0)), .sl (iv (lim (-q.num).natAbs)), .sl (iv (lim q.den))] = _
      rw [Int.natAbs_neg]]
    simp
    refine AW_mixedB mixedO bl (Sub.refl _) [0, 1, 2, 3, 4, 5, 6, 7, 8] 3 (by kernel_rfl) ?_
    simp
    refine hcQ_ro hop ?_
    simp
    refine DAny_one (i := 9) (by kernel_rfl) rfl rfl ?_
    simp
    refine DAny_one (i := 10) (by kernel_rfl) rfl rfl ?_
    simp
    intro g hg0 hg
    refine ⟨by simp [hg], DAny_one (i := 11) (by kernel_rfl) rfl rfl ?_⟩
    simp
    refine ⟨by simp [hg], DAny_done (by kernel_rfl) ?_⟩
    simp
    refine retRO [.loc g 3 0 0] 1 (by simp) ?_ (by simp [hg])
    show frz _ 1 (.loc g 3 0 0) = _
    rw [frz_loc0 (e := [.bool (decide (0 < q.num)), .sl (iv (lim q.num.natAbs)), .sl (iv (lim q.den))]) (by simp [dropB, hg])]
    rfl

def reOk (s : Str) (l : List Int) (q : List RT) (j : Int) : Bool := (fitsQ s q && fitsL s.js l) && ((decide (0 ≤ j) && decide (j < s.js.length)) && (s.js.getD j.toNat default).fixed)
def reQs (s : Str) (l : List Int) (q : List RT) (j : Int) : List (Option Rat) := if reOk s l q j = true then [(fX s l (rdAll q) j.toNat).map (- ·), (fY s l (rdAll q) j.toNat).map (- ·)] else [none]
theorem reQs_ok (s : Str) (l : List Int) (q : List RT) (j : Int) : okL (reQs s l q j) ∧ (reQs s l q j).length ≤ 24 := by
  unfold reQs; split
  · refine ⟨fun x hx => ?_, by simp⟩
    rcases List.mem_cons.1 hx with rfl | hx
    · exact okQ_neg (fX_ok _ _ _ _)
    · obtain rfl : x = _ := by simpa using hx
      exact okQ_neg (fY_ok _ _ _ _)
  · exact ⟨okL_none, by simp⟩
end Go.Proofs.YtmbcofnnibpbeaaGreat.Vm

namespace Go.Proofs.YtmbcofnnibpbeaaGreat.Vm
open Go Go.Proofs
set_option linter.unusedSimpArgs false
set_option linter.unusedVariables false

/-- The number of free joints before joint i. -/
def idx (js : List J) (i : Nat) : Nat := (freesTo js i).length
def fxd (js : List J) (i : Nat) : Bool := (js.getD i default).fixed
theorem idx_get (js : List J) : ∀ n i, i < n → fxd js i = false → (freesTo js n)[idx js i]? = some (i : Int) := by
  intro n
  induction n with
  | zero => intro i h; omega
  | succ n ih =>
    intro i hi hf
    rw [freesTo_succ]
    by_cases h : i < n
    · have h1 := ih i h hf
      have hl : idx js i < (freesTo js n).length := by
        rcases Nat.lt_or_ge (idx js i) (freesTo js n).length with h2 | h2
        · exact h2
        · rw [List.getElem?_eq_none h2] at h1; cases h1
      rw [List.getElem?_append_left hl]; exact h1
    · obtain rfl : i = n := by omega
      unfold fxd at hf
      rw [hf, show idx js i = (freesTo js i).length from rfl, List.getElem?_append_right (Nat.le_refl _)]
      simp
theorem idx_of (js : List J) : ∀ n t, t < (freesTo js n).length → ∃ i, i < n ∧ fxd js i = false ∧ idx js i = t ∧ (freesTo js n)[t]? = some (i : Int) := by
  intro n
  induction n with
  | zero => intro t h; simp [freesTo] at h
  | succ n ih =>
    intro t ht
    by_cases h : t < (freesTo js n).length
    · obtain ⟨i, h1, h2, h3, h4⟩ := ih t h
      exact ⟨i, by omega, h2, h3, by rw [freesTo_succ, List.getElem?_append_left h]; exact h4⟩
    · rw [freesTo_succ] at ht ⊢
      cases hf : (js.getD n default).fixed
      · rw [hf] at ht
        rw [List.length_append] at ht
        simp at ht
        obtain rfl : t = (freesTo js n).length := by omega
        exact ⟨n, by omega, hf, rfl, by rw [List.getElem?_append_right (Nat.le_refl _)]; simp⟩
      · rw [hf] at ht
        simp at ht; omega
theorem idx_inj {js : List J} {i k : Nat} (hi : i < js.length) (hk : k < js.length) (fi : fxd js i = false) (fk : fxd js k = false) (h : idx js i = idx js k) : i = k := by
  have h1 := idx_get js js.length i hi fi
  have h2 := idx_get js js.length k hk fk
  rw [h] at h1
  rw [h1] at h2
  have := Option.some.inj h2
  omega
theorem idx_ltf {js : List J} {i : Nat} (hi : i < js.length) (fi : fxd js i = false) : idx js i < (frees js).length := by
  have h1 := idx_get js js.length i hi fi
  rcases Nat.lt_or_ge (idx js i) (frees js).length with h2 | h2
  · exact h2
  · rw [List.getElem?_eq_none (show (freesTo js js.length).length ≤ _ from h2)] at h1; cases h1
theorem frees_at (js : List J) (t : Nat) (h : t < (frees js).length) : ∃ i : Nat, (frees js)[t] = i ∧ i < js.length ∧ fxd js i = false ∧ idx js i = t := by
  obtain ⟨i, h1, h2, h3, h4⟩ := idx_of js js.length t h
  refine ⟨i, ?_, h1, h2, h3⟩
  have : (frees js)[t]? = some (i : Int) := h4
  rw [List.getElem?_eq_getElem h] at this
  exact Option.some.inj this

/-- The list of displacements after t free joints. -/
def dAt (js : List J) (d : List (Option Rat)) (t p : Nat) : Option Rat := if fxd js (p / 2) = true then some 0 else if idx js (p / 2) < t then d.getD (2 * idx js (p / 2) + p % 2) none else some 0
def dsp (js : List J) (d : List (Option Rat)) (t : Nat) : List (Option Rat) := (List.range (2 * js.length)).map (dAt js d t)
@[simp] theorem dsp_length (js : List J) (d : List (Option Rat)) (t : Nat) : (dsp js d t).length = 2 * js.length := by simp [dsp]
theorem dsp_get (js : List J) (d : List (Option Rat)) (t p : Nat) (h : p < (dsp js d t).length) : (dsp js d t)[p] = dAt js d t p := by simp [dsp]
theorem dAt_zero (js : List J) (d : List (Option Rat)) (p : Nat) : dAt js d 0 p = some 0 := by unfold dAt; split <;> simp
theorem dsp_step (js : List J) (d : List (Option Rat)) (t i : Nat) (hi : i < js.length) (hf : fxd js i = false) (ht : idx js i = t) : ((dsp js d t).set (2 * i) (d.getD (2 * t) none)).set (2 * i + 1) (d.getD (2 * t + 1) none) = dsp js d (t + 1) := by
  apply List.ext_getElem (by simp)
  intro p h1 h2
  have hp : p < 2 * js.length := by simpa using h2
  rw [List.getElem_set, List.getElem_set, dsp_get, dsp_get]
  by_cases e1 : 2 * i + 1 = p
  · subst e1
    rw [if_pos rfl]
    unfold dAt
    rw [show (2 * i + 1) / 2 = i by omega, show (2 * i + 1) % 2 = 1 by omega, hf, ht]
    simp
  rw [if_neg e1]
  by_cases e2 : 2 * i = p
  · subst e2
    rw [if_pos rfl]
    unfold dAt
    rw [show (2 * i) / 2 = i by omega, show (2 * i) % 2 = 0 by omega, hf, ht]
    simp
  rw [if_neg e2]
  unfold dAt
  cases hq : fxd js (p / 2)
  · have hne : idx js (p / 2) ≠ t := fun h => by
      have := idx_inj (i := p / 2) (k := i) (by omega) hi hq hf (by rw [h, ht])
      omega
    by_cases h3 : idx js (p / 2) < t
    · rw [if_pos h3, if_pos (show idx js (p / 2) < t + 1 by omega)]
    · rw [if_neg h3, if_neg (show ¬ idx js (p / 2) < t + 1 by omega)]
  · rfl
def dspF (js : List J) (d : List (Option Rat)) : List (Option Rat) := dsp js d (frees js).length
@[simp] theorem dspF_length (js : List J) (d : List (Option Rat)) : (dspF js d).length = 2 * js.length := dsp_length _ _ _
def dX (js : List J) (d : List (Option Rat)) (i : Nat) : Option Rat := if fxd js i = true then some 0 else d.getD (2 * idx js i) none
def dY (js : List J) (d : List (Option Rat)) (i : Nat) : Option Rat := if fxd js i = true then some 0 else d.getD (2 * idx js i + 1) none
theorem dspF_X (js : List J) (d : List (Option Rat)) (i : Nat) (hi : i < js.length) (h : 2 * i < (dspF js d).length) : (dspF js d)[2 * i] = dX js d i := by
  unfold dspF at h ⊢
  rw [dsp_get]
  unfold dAt dX
  rw [show (2 * i) / 2 = i by omega, show (2 * i) % 2 = 0 by omega]
  cases hf : fxd js i
  · have := idx_ltf hi hf
    simp [this]
  · rfl
theorem dspF_Y (js : List J) (d : List (Option Rat)) (i : Nat) (hi : i < js.length) (h : 2 * i + 1 < (dspF js d).length) : (dspF js d)[2 * i + 1] = dY js d i := by
  unfold dspF at h ⊢
  rw [dsp_get]
  unfold dAt dY
  rw [show (2 * i + 1) / 2 = i by omega, show (2 * i + 1) % 2 = 1 by omega]
  cases hf : fxd js i
  · have := idx_ltf hi hf
    simp [this]
  · rfl
theorem getD_ok {d : List (Option Rat)} (hd : okL d) (i : Nat) : okQ (d.getD i none) := by
  rcases Nat.lt_or_ge i d.length with h | h
  · rw [getD_at _ _ _ h]; exact hd _ (List.getElem_mem h)
  · rw [List.getD_eq_getElem?_getD, List.getElem?_eq_none h]; exact fun _ e => by cases e
theorem okQ_zero : okQ (some 0) := fun x h => by cases h; exact fits_zero
theorem dX_ok (js : List J) {d : List (Option Rat)} (hd : okL d) (i : Nat) : okQ (dX js d i) := by
  unfold dX; split
  · exact okQ_zero
  · exact getD_ok hd _
theorem dY_ok (js : List J) {d : List (Option Rat)} (hd : okL d) (i : Nat) : okQ (dY js d i) := by
  unfold dY; split
  · exact okQ_zero
  · exact getD_ok hd _

theorem two0 (k : Nat) : 0 ≤ 2 * (k : Int) := by omega
theorem two1 (k : Nat) : 0 ≤ 2 * (k : Int) + 1 := by omega
theorem twoN0 (k : Nat) : (2 * (k : Int)).toNat = 2 * k := by omega
theorem twoN1 (k : Nat) : (2 * (k : Int) + 1).toNat = 2 * k + 1 := by omega

/-! ### The program -/
theorem loadsOf_ro (d : List RT) (n : Nat) (hd : fitQ d 1048576) : RO Tryz.prog 130 [.sl (rv d), .int .i64 n] (.tup [.sl (fvs (if (decide (d.length = n) && allOk d) = true then rdAll d else [])), .bool (decide (d.length = n) && allOk d)]) := by
  generalize hz : (decide (d.length = n) && allOk d) = z
  refine ro_of2 Tryz.func130 rfl rfl (by rw [Tryz.ntmps130]; simp) fun bl => ?_
  rw [Tryz.ntmps130, Tryz.results130]
  refine AW_run ?_
  simp
  refine ⟨fun h => ?_, fun h => ?_⟩
  · have e : decide (d.length = n) = false := by simp; omega
    rw [e] at hz
    obtain rfl : z = false := by rw [← hz]; rfl
    exact retRO [.nils, .bool false] 1 (by simp) (by simp [frz, fvs, V.cl]) (Sub.refl _)
  · have e : decide (d.length = n) = true := by simp; omega
    rw [e, Bool.true_and] at hz
    subst hz
    refine callP_ro (loads_ro d hd) ?_
    simp
    exact retRO [.sl (fvs (if allOk d = true then rdAll d else [])), .bool (allOk d)] 1 (by simp) (by simp [frz]) (Sub.refl _)

def movOk (s : Str) (d : List RT) : Bool := (sOk s && decide (d.length = 2 * (frees s.js).length)) && allOk d
theorem displacements_ro (s : Str) (d : List RT) (hj : s.js.length ≤ 140737488351232) (hm : s.ms.length ≤ 140737488351232) (hn : ∀ j, j ∈ s.js → j.name.size ≤ 140737488351232) (hd : fitQ d 1048576) : RO Tryz.prog 73 [.ptr s.c, .sl (rv d)] (.tup [.sl (fvs (if movOk s d = true then dspF s.js (rdAll d) else [])), .bool (movOk s d)]) := by
  have w0 := whole_ro 0 (by omega)
  rw [zero_cast] at w0
  refine ro_of2 Tryz.func73 rfl rfl (by rw [Tryz.ntmps73]; simp) fun bl => ?_
  rw [Tryz.ntmps73, Tryz.results73]
  refine AW_run ?_
  simp [Str.c]
  refine callP_ro (impl_StructureOk_ro s hj hm hn) ?_
  cases hk : sOk s
  · have hz : movOk s d = false := by unfold movOk; rw [hk]; rfl
    rw [hz]
    simp
    exact retRO [.nils, .bool false] 1 (by simp) (by simp [frz, fvs, V.cl]) (Sub.refl _)
  have hs := sOk_of hk
  have hnj := hs.nj
  have hfl := freesTo_le s.js s.js.length
  change (frees s.js).length ≤ s.js.length at hfl
  have hz : movOk s d = (decide (d.length = 2 * (frees s.js).length) && allOk d) := by unfold movOk; rw [hk]; rfl
  have hL := loadsOf_ro d (2 * (frees s.js).length) hd
  rw [← hz] at hL
  have e2 : ((2 * (frees s.js).length : Nat) : Int) = 2 * ((frees s.js).length : Int) := by omega
  rw [e2] at hL
  have w2 : IntKind.i64.wrap (2 * ((frees s.js).length : Int)) = 2 * ((frees s.js).length : Int) := i64_in (by omega) (by omega)
  obtain ⟨n, en⟩ : ∃ n : Nat, n = 2 * s.js.length := ⟨_, rfl⟩
  have wn : IntKind.i64.wrap (2 * (s.js.length : Int)) = (n : Int) := by rw [i64_in (by omega) (by omega)]; omega
  simp
  refine callP_ro (freeJoints_ro s (by omega)) ?_
  simp
  rw [w2]
  refine callP_ro hL ?_
  cases hp : movOk s d
  · simp
    exact retRO [.nils, .bool false] 1 (by simp) (by simp [frz, fvs, V.cl]) (Sub.refl _)
  rw [hp] at hz
  have hlen : d.length = 2 * (frees s.js).length := by have := hz.symm; simp at this; exact this.1
  simp
  rw [wn]
  simp
  refine ⟨by omega, by unfold maxLen; omega, fun g hg0 hg => ?_⟩
  have hdl : (rdAll d).length = 2 * (frees s.js).length := by simpa using hlen
  generalize hD : rdAll d = D at *
  refine AW_for (fun i : Nat => [(6, .sl (iv (frees s.js))), (7, .sl (fvs D)), (9, .lsl g 1 0 n), (38, .int .i64 n), (39, .int .i64 i)]) (fun i => upd bl g (some ⟨1, part (fvs (dsp s.js D 0)) [.nilp] i⟩)) (fun i => i ≤ n) (fun i => n - i) _ 0 (Nat.zero_le _) ⟨rfl, by simp, sub_eq (by simp [en])⟩ ?_
  intro i hi
  refine AW_run ?_
  simp
  refine ⟨fun h => ?_, fun h => ?_⟩
  · have hi' : i < (fvs (dsp s.js D 0)).length := by simp; omega
    have h9 : i < n := by omega
    have hpl : i < (part (fvs (dsp s.js D 0)) [.nilp] i).length := by simp [part]; omega
    have hpi : (part (fvs (dsp s.js D 0)) [.nilp] i)[i]? = some [.nilp] := part_get _ _ _ hi'
    have hpe : (part (fvs (dsp s.js D 0)) [.nilp] i)[i] = [.nilp] := by
      rw [List.getElem?_eq_getElem hpl] at hpi; exact Option.some.inj hpi
    have hset : (part (fvs (dsp s.js D 0)) [.nilp] i).set i [fv (some 0)] = part (fvs (dsp s.js D 0)) [.nilp] (i + 1) := by
      rw [part_set _ _ _ hi']
      simp [dsp_get, dAt_zero]
    simp [h]
    refine callP_ro w0 ?_
    simp [h, h9, hpl, hpe]
    simp (disch := omega) [i64_in, loopQ_normal]
    refine ⟨i + 1, by omega, by omega, rfl, by simp, ?_⟩
    intro z y hz
    simp only [upd_apply, hset] at hz ⊢
    grind
  · have hi2 : n = i := by omega
    subst hi2
    rw [part_all _ _ _ (by simp [en])]
    simp
    refine AW_for (fun t : Nat => [(7, .sl (fvs D)), (9, .lsl g 1 0 n), (47, .sl (iv (frees s.js))), (48, .int .i64 (frees s.js).length), (49, .int .i64 t)]) (fun t => upd bl g (some ⟨1, fvs (dsp s.js D t)⟩)) (fun t => t ≤ (frees s.js).length) (fun t => (frees s.js).length - t) _ 0 (Nat.zero_le _) ⟨rfl, by simp, sub_eq (by simp)⟩ ?_
    intro t ht
    refine AW_run ?_
    simp
    refine ⟨fun h => ?_, fun h => ?_⟩
    · obtain ⟨i, ei, hi, hf, hx⟩ := frees_at s.js t h
      have w1 : IntKind.i64.wrap (2 * (i : Int)) = 2 * i := i64_in (by omega) (by omega)
      have w2 : IntKind.i64.wrap (2 * (i : Int) + 1) = 2 * i + 1 := i64_in (by omega) (by omega)
      have w3 : IntKind.i64.wrap (2 * (t : Int)) = 2 * t := i64_in (by omega) (by omega)
      have w4 : IntKind.i64.wrap (2 * (t : Int) + 1) = 2 * t + 1 := i64_in (by omega) (by omega)
      have p1 : 2 * i < n := by omega
      have p2 : 2 * i + 1 < n := by omega
      have p3 : 2 * t < D.length := by omega
      have p4 : 2 * t + 1 < D.length := by omega
      have p5 : 2 * (i : Int) < n := by omega
      have p6 : 2 * (i : Int) + 1 < n := by omega
      have p7 : 2 * (t : Int) < D.length := by omega
      have p8 : 2 * (t : Int) + 1 < D.length := by omega
      have p9 : 2 * i < 2 * s.js.length := by omega
      have p10 : 2 * i + 1 < 2 * s.js.length := by omega
      have hst := dsp_step s.js D t i hi hf hx
      rw [getD_at _ _ _ p3, getD_at _ _ _ p4] at hst
      have hsv : ((fvs (dsp s.js D t)).set (2 * i) [fv D[2 * t]]).set (2 * i + 1) [fv D[2 * t + 1]] = fvs (dsp s.js D (t + 1)) := by
        rw [← hst]; simp [fvs, List.map_set]
      simp [h, ei]
      refine AW_mixedB mixedO bl (by simp [hg]) [0, 1, 2, 3, 4, 5, 6, 7, 8, 9, 10, 11, 12, 13, 14, 15, 16, 17, 18] 3 (by kernel_rfl) ?_
      simp [w1, w2, w3, w4, p1, p2, p3, p4, p5, p6, p7, p8, p9, p10, two0, two1, twoN0, twoN1]
      refine DAny_one (i := 19) (by kernel_rfl) rfl rfl ?_
      simp [w1, w2, w3, w4, p1, p2, p3, p4, p5, p6, p7, p8, p9, p10, two0, two1, twoN0, twoN1]
      refine ⟨by simp [hg], DAny_one (i := 20) (by kernel_rfl) rfl rfl ?_⟩
      simp [w1, w2, w3, w4, p1, p2, p3, p4, p5, p6, p7, p8, p9, p10, two0, two1, twoN0, twoN1]
      refine ⟨by simp [hg], DAny_one (i := 21) (by kernel_rfl) rfl rfl ?_⟩
      simp [w1, w2, w3, w4, p1, p2, p3, p4, p5, p6, p7, p8, p9, p10, two0, two1, twoN0, twoN1]
      refine ⟨by simp [hg], DAny_done (by kernel_rfl) ?_⟩
      simp (disch := omega) [i64_in, loopQ_normal]
      refine ⟨t + 1, by omega, by omega, rfl, by simp, ?_⟩
      intro z y hz
      simp only [upd_apply, hsv] at hz ⊢
      grind
    · have hi2 : t = (frees s.js).length := by omega
      subst hi2
      refine retRO [.lsl g 1 0 n, .bool true] 2 (by simp) (frz_tup2 (frz_slice (sz := 1) (n := n) hg0 hg (els := fvs (dspF s.js D)) ?_ (by simp [en]) (fvs_cl _))) (by simp [hg])
      simp [dspF]
end Go.Proofs.YtmbcofnnibpbeaaGreat.Vm

namespace Go.Proofs.YtmbcofnnibpbeaaGreat.Vm
open Go Go.Proofs
set_option linter.unusedSimpArgs false
set_option linter.unusedVariables false

def vsg (p : Int) (x : Option Rat) : Option Rat := if p < 0 then x.map (- ·) else x
def stI (acc : List (Option Rat)) (p : Int × Int) (x : Option Rat) : List (Option Rat) :=
  acc.set p.1.toNat (if (acc.getD p.1.toNat none).isSome = true then op2 (· + ·) (acc.getD p.1.toNat none) (vsg p.2 x) else vsg p.2 x)
def stS (acc : List (Option Rat)) (p : Int × Int) (x : Option Rat) : List (Option Rat) :=
  acc.set p.1.toNat (if 0 < p.2 then op2 (· + ·) (acc.getD p.1.toNat none) x else op2 (· - ·) (acc.getD p.1.toNat none) x)
def runI (ms : List Mb) (d : List (Option Rat)) (t : Nat) : List (Option Rat) := (List.range t).foldl (fun acc j => stI acc ((cols ms).getD j (0, 0)) (d.getD j none)) (List.replicate ms.length none)
def runS (ms : List Mb) (d : List (Option Rat)) (t : Nat) : List (Option Rat) := (List.range t).foldl (fun acc j => stS acc ((cols ms).getD j (0, 0)) (d.getD j none)) (List.replicate ms.length (some 0))
theorem runI_succ (ms : List Mb) (d : List (Option Rat)) (t : Nat) : runI ms d (t + 1) = stI (runI ms d t) ((cols ms).getD t (0, 0)) (d.getD t none) := by
  unfold runI; rw [List.range_succ, List.foldl_append]; rfl
theorem runS_succ (ms : List Mb) (d : List (Option Rat)) (t : Nat) : runS ms d (t + 1) = stS (runS ms d t) ((cols ms).getD t (0, 0)) (d.getD t none) := by
  unfold runS; rw [List.range_succ, List.foldl_append]; rfl
theorem runI_length (ms : List Mb) (d : List (Option Rat)) : ∀ t, (runI ms d t).length = ms.length
  | 0 => by simp [runI]
  | t + 1 => by rw [runI_succ, stI, List.length_set, runI_length ms d t]
theorem runS_length (ms : List Mb) (d : List (Option Rat)) : ∀ t, (runS ms d t).length = ms.length
  | 0 => by simp [runS]
  | t + 1 => by rw [runS_succ, stS, List.length_set, runS_length ms d t]
theorem okQ_none : okQ none := fun _ e => by cases e
theorem vsg_ok {p : Int} {x : Option Rat} (h : okQ x) : okQ (vsg p x) := by
  unfold vsg; split
  · exact okQ_neg h
  · exact h
theorem okL_set {xs : List (Option Rat)} (h : okL xs) (i : Nat) {x : Option Rat} (hx : okQ x) : okL (xs.set i x) := fun y hy => by
  rcases List.mem_or_eq_of_mem_set hy with h1 | h1
  · exact h y h1
  · rw [h1]; exact hx
theorem runI_ok (ms : List Mb) {d : List (Option Rat)} (hd : okL d) : ∀ t, okL (runI ms d t)
  | 0 => fun y hy => by
    have : y ∈ List.replicate ms.length (none : Option Rat) := hy
    rw [List.mem_replicate] at this
    rw [this.2]; exact okQ_none
  | t + 1 => by
    rw [runI_succ, stI]
    refine okL_set (runI_ok ms hd t) _ ?_
    split
    · exact okQ_op2 _ _ _
    · exact vsg_ok (getD_ok hd _)
theorem runS_ok (ms : List Mb) (d : List (Option Rat)) : ∀ t, okL (runS ms d t)
  | 0 => fun y hy => by
    have : y ∈ List.replicate ms.length (some 0 : Option Rat) := hy
    rw [List.mem_replicate] at this
    rw [this.2]; exact okQ_zero
  | t + 1 => by
    rw [runS_succ, stS]
    refine okL_set (runS_ok ms d t) _ ?_
    split
    · exact okQ_op2 _ _ _
    · exact okQ_op2 _ _ _
theorem cols_in {ms : List Mb} {p : Int × Int} : ∀ n, n ≤ ms.length → p ∈ colsTo ms n → ∃ k : Nat, p.1 = k ∧ k < ms.length ∧ (p.2 = 1 ∨ p.2 = -1) := by
  intro n
  induction n with
  | zero => intro _ h; simp [colsTo] at h
  | succ n ih =>
    intro hn h
    rw [colsTo_succ] at h
    rcases List.mem_append.1 h with h | h
    · exact ih (by omega) h
    · refine ⟨n, ?_⟩
      unfold colK at h
      rcases List.mem_append.1 h with h | h
      · split at h
        · cases h
        · obtain rfl : p = _ := by simpa using h
          exact ⟨rfl, by omega, .inl rfl⟩
      · split at h
        · cases h
        · obtain rfl : p = _ := by simpa using h
          exact ⟨rfl, by omega, .inr rfl⟩
theorem colsTo_get (ms : List Mb) (n : Nat) (j : Nat) (hj : j < (colsTo ms n).length) : ∀ N, n ≤ N → (colsTo ms N).getD j (0, 0) = (colsTo ms n).getD j (0, 0) ∧ (colsTo ms n).length ≤ (colsTo ms N).length := by
  intro N hN
  induction N with
  | zero => obtain rfl : n = 0 := by omega
            exact ⟨rfl, Nat.le_refl _⟩
  | succ N ih =>
    rcases Nat.lt_or_ge n (N + 1) with h | h
    · obtain ⟨h1, h2⟩ := ih (by omega)
      rw [colsTo_succ]
      refine ⟨?_, by rw [List.length_append]; omega⟩
      rw [← h1, List.getD_eq_getElem?_getD, List.getElem?_append_left (by omega)]
      exact (List.getD_eq_getElem?_getD ..).symm
    · obtain rfl : n = N + 1 := by omega
      exact ⟨rfl, Nat.le_refl _⟩
theorem getD_set_eq {xs : List (Option Rat)} {i : Nat} (h : i < xs.length) (x : Option Rat) : (xs.set i x).getD i none = x := by
  rw [List.getD_eq_getElem?_getD, List.getElem?_set_self h]; rfl
theorem getD_set_ne {xs : List (Option Rat)} {i k : Nat} (h : i ≠ k) (x : Option Rat) : (xs.set i x).getD k none = xs.getD k none := by
  rw [List.getD_eq_getElem?_getD, List.getElem?_set_ne h, List.getD_eq_getElem?_getD]
theorem op2_zero_add {x : Option Rat} (h : okQ x) : op2 (· + ·) (some 0) x = x := by
  cases x with
  | none => rfl
  | some q =>
    show fit (0 + q) = some q
    rw [Rat.zero_add]; unfold fit; rw [if_pos (h q rfl)]
theorem op2_zero_sub {x : Option Rat} (h : okQ x) : op2 (· - ·) (some 0) x = x.map (- ·) := by
  have hn := okQ_neg h
  cases x with
  | none => rfl
  | some q =>
    show fit (0 - q) = some (-q)
    rw [Rat.sub_eq_add_neg, Rat.zero_add]; unfold fit; rw [if_pos (hn (-q) rfl)]
theorem op2_add_neg (x y : Option Rat) : op2 (· + ·) x (y.map (- ·)) = op2 (· - ·) x y := by
  cases x with
  | none => rfl
  | some a =>
    cases y with
    | none => rfl
    | some b => show fit (a + -b) = fit (a - b); rw [Rat.sub_eq_add_neg]

def denInv (ms : List Mb) (A B : List (Option Rat)) (n : Nat) : Prop := ∀ k, k < ms.length → (k < n → A.getD k none = B.getD k none) ∧ (n ≤ k → A.getD k none = none ∧ B.getD k none = some 0)
theorem den_step (ms : List Mb) (d : List (Option Rat)) (hd : okL d) (hs : ∀ j, j < (cols ms).length → (d.getD j none).isSome = true) (hk : ∀ m, m ∈ ms → 1 ≤ m.kind ∧ m.kind ≤ 3) : ∀ n, n ≤ ms.length → denInv ms (runI ms d (colsTo ms n).length) (runS ms d (colsTo ms n).length) n := by
  intro n
  induction n with
  | zero =>
    intro _ k hk
    refine ⟨fun h => by omega, fun _ => ?_⟩
    simp [colsTo, runI, runS, hk]
  | succ n ih =>
    intro hn
    have H := ih (by omega)
    have hA := runI_length ms d (colsTo ms n).length
    have hB := runS_length ms d (colsTo ms n).length
    have hmn : ms.getD n default = ms[n] := getD_at _ _ _ (by omega)
    have hkk := hk _ (List.getElem_mem (show n < ms.length by omega))
    have hcs := colsTo_succ ms n
    rw [hmn] at hcs
    have hget : ∀ i, i < (colK ms[n] n).length → (cols ms).getD ((colsTo ms n).length + i) (0, 0) = (colK ms[n] n).getD i (0, 0) ∧ (colsTo ms n).length + i < (cols ms).length := by
      intro i hi
      have h1 := colsTo_get ms (n + 1) ((colsTo ms n).length + i) (by rw [hcs, List.length_append]; omega) ms.length (by omega)
      refine ⟨?_, ?_⟩
      · rw [show cols ms = colsTo ms ms.length from rfl, h1.1, hcs, List.getD_eq_getElem?_getD, List.getD_eq_getElem?_getD, List.getElem?_append_right (by omega)]
        simp
      · have h2 := h1.2
        rw [hcs, List.length_append] at h2
        show _ < (colsTo ms ms.length).length
        omega
    clear ih
    obtain ⟨L, hL⟩ : ∃ L, (colsTo ms n).length = L := ⟨_, rfl⟩
    rw [hL] at hA hB H hget
    have hAn := (H n (by omega)).2 (Nat.le_refl _)
    have one : ∀ A B : List (Option Rat), ∀ x, A.length = ms.length → B.length = ms.length → (∀ k, k < ms.length → k ≠ n → A.getD k none = (runI ms d L).getD k none ∧ B.getD k none = (runS ms d L).getD k none) → A.getD n none = x → B.getD n none = x → denInv ms A B (n + 1) := by
      intro A B x lA lB hne hx hy k hk
      by_cases e : k = n
      · subst e
        exact ⟨fun _ => by rw [hx, hy], fun h => by omega⟩
      · obtain ⟨e1, e2⟩ := hne k hk e
        have := H k hk
        rw [e1, e2]
        exact ⟨fun h => this.1 (by omega), fun h => this.2 (by omega)⟩
    rw [hcs, List.length_append, hL]
    by_cases k1 : ms[n].kind = 1
    · have ec : colK ms[n] n = [((n : Int), 1)] := by unfold colK; rw [k1]; rfl
      have g0 := hget 0 (by rw [ec]; simp)
      rw [ec] at g0 ⊢
      have s0 := hs _ g0.2
      have o0 := getD_ok hd (L + 0)
      simp only [Nat.add_zero] at g0 s0 o0
      show denInv ms (runI ms d (L + 1)) (runS ms d (L + 1)) (n + 1)
      rw [runI_succ, runS_succ, g0.1]
      generalize d.getD L none = x at *
      refine one _ _ x (by simp [stI, hA]) (by simp [stS, hB]) (fun k _ hk => ?_) ?_ ?_
      · unfold stI stS; simp only [List.getD_cons_zero, Int.toNat_natCast]
        rw [getD_set_ne (Ne.symm hk), getD_set_ne (Ne.symm hk)]; exact ⟨rfl, rfl⟩
      · unfold stI; simp only [List.getD_cons_zero, Int.toNat_natCast]
        rw [getD_set_eq (by omega), hAn.1]; rfl
      · unfold stS; simp only [List.getD_cons_zero, Int.toNat_natCast]
        rw [getD_set_eq (by omega), hAn.2, if_pos (by omega)]; exact op2_zero_add o0
    by_cases k2 : ms[n].kind = 2
    · have ec : colK ms[n] n = [((n : Int), -1)] := by unfold colK; rw [k2]; rfl
      have g0 := hget 0 (by rw [ec]; simp)
      rw [ec] at g0 ⊢
      have s0 := hs _ g0.2
      have o0 := getD_ok hd (L + 0)
      simp only [Nat.add_zero] at g0 s0 o0
      show denInv ms (runI ms d (L + 1)) (runS ms d (L + 1)) (n + 1)
      rw [runI_succ, runS_succ, g0.1]
      generalize d.getD L none = x at *
      refine one _ _ (x.map (- ·)) (by simp [stI, hA]) (by simp [stS, hB]) (fun k _ hk => ?_) ?_ ?_
      · unfold stI stS; simp only [List.getD_cons_zero, Int.toNat_natCast]
        rw [getD_set_ne (Ne.symm hk), getD_set_ne (Ne.symm hk)]; exact ⟨rfl, rfl⟩
      · unfold stI; simp only [List.getD_cons_zero, Int.toNat_natCast]
        rw [getD_set_eq (by omega), hAn.1]; rfl
      · unfold stS; simp only [List.getD_cons_zero, Int.toNat_natCast]
        rw [getD_set_eq (by omega), hAn.2, if_neg (by omega)]; exact op2_zero_sub o0
    have ec : colK ms[n] n = [((n : Int), 1), ((n : Int), -1)] := by unfold colK; rw [if_neg k2, if_neg k1]; rfl
    have g0 := hget 0 (by rw [ec]; simp)
    have g1 := hget 1 (by rw [ec]; simp)
    rw [ec] at g0 g1 ⊢
    have s0 := hs _ g0.2
    have s1 := hs _ g1.2
    have o0 := getD_ok hd (L + 0)
    have o1 := getD_ok hd (L + 1)
    simp only [Nat.add_zero] at g0 s0 o0
    show denInv ms (runI ms d (L + 1 + 1)) (runS ms d (L + 1 + 1)) (n + 1)
    rw [runI_succ, runS_succ, runI_succ, runS_succ, g0.1, g1.1]
    generalize d.getD L none = x at *
    generalize d.getD (L + 1) none = y at *
    have eI : (stI (runI ms d L) ((n : Int), 1) x).getD n none = x := by
      unfold stI; simp only [Int.toNat_natCast]
      rw [getD_set_eq (by omega), hAn.1]; rfl
    have eS : (stS (runS ms d L) ((n : Int), 1) x).getD n none = x := by
      unfold stS; simp only [Int.toNat_natCast]
      rw [getD_set_eq (by omega), hAn.2, if_pos (by omega)]; exact op2_zero_add o0
    have lI : (stI (runI ms d L) ((n : Int), 1) x).length = ms.length := by simp [stI, hA]
    have lS : (stS (runS ms d L) ((n : Int), 1) x).length = ms.length := by simp [stS, hB]
    refine one _ _ (op2 (· - ·) x y) (by simp [stI, hA]) (by simp [stS, hB]) (fun k _ hk => ?_) ?_ ?_
    · unfold stI stS; simp only [List.getD_cons_zero, List.getD_cons_succ, Int.toNat_natCast]
      rw [getD_set_ne (Ne.symm hk), getD_set_ne (Ne.symm hk), getD_set_ne (Ne.symm hk), getD_set_ne (Ne.symm hk)]; exact ⟨rfl, rfl⟩
    · show (stI (stI (runI ms d L) ((n : Int), 1) x) ((n : Int), -1) y).getD n none = _
      generalize stI (runI ms d L) ((n : Int), 1) x = A1 at *
      unfold stI; simp only [Int.toNat_natCast]
      rw [getD_set_eq (by omega), eI, if_pos s0, vsg, if_pos (by omega)]; exact op2_add_neg x y
    · show (stS (stS (runS ms d L) ((n : Int), 1) x) ((n : Int), -1) y).getD n none = _
      generalize stS (runS ms d L) ((n : Int), 1) x = B1 at *
      unfold stS; simp only [Int.toNat_natCast]
      rw [getD_set_eq (by omega), eS, if_neg (by omega)]
theorem run_eq (ms : List Mb) (d : List (Option Rat)) (hd : okL d) (hs : ∀ j, j < (cols ms).length → (d.getD j none).isSome = true) (hk : ∀ m, m ∈ ms → 1 ≤ m.kind ∧ m.kind ≤ 3) : runI ms d (cols ms).length = runS ms d (cols ms).length := by
  have H := den_step ms d hd hs hk ms.length (Nat.le_refl _)
  change denInv ms (runI ms d (cols ms).length) (runS ms d (cols ms).length) ms.length at H
  apply List.ext_getElem (by rw [runI_length, runS_length])
  intro k h1 h2
  have h3 := (H k (by rwa [runI_length] at h1)).1 (by rwa [runI_length] at h1)
  rw [getD_at _ _ _ h1, getD_at _ _ _ h2] at h3
  exact h3
end Go.Proofs.YtmbcofnnibpbeaaGreat.Vm

namespace Go.Proofs.YtmbcofnnibpbeaaGreat.Vm
open Go Go.Proofs
set_option linter.unusedSimpArgs false
set_option linter.unusedVariables false

theorem dT_sc (r : RT) (b : Bool) : (dT r b).sc = true := by simp [dT, D.sc, D.scL, dRT_sc, dR_sc, V.ow]
theorem dT_dep (r : RT) (b : Bool) : (dT r b).dep 3 := by
  unfold dT; rw [D.dep]; exact ⟨by omega, by simp [D.depL, D.dep, dR_dep]⟩
theorem dT_fz (r : RT) (b : Bool) : (dT r b).fz = .tup [.agg r.c, .bool b] := by simp [dT, D.fz, D.fzL, dR_fz]
end Go.Proofs.YtmbcofnnibpbeaaGreat.Vm

namespace Go.Proofs.YtmbcofnnibpbeaaGreat.Vm
open Go Go.Proofs
set_option linter.unusedSimpArgs false
set_option linter.unusedVariables false

def apX (s : Str) (d : List (Option Rat)) (m : Mb) : Option Rat := op2 (· - ·) (dX s.js d m.b.toNat) (dX s.js d m.a.toNat)
def apY (s : Str) (d : List (Option Rat)) (m : Mb) : Option Rat := op2 (· - ·) (dY s.js d m.b.toNat) (dY s.js d m.a.toNat)
def strQ (s : Str) (d : List (Option Rat)) (k : Nat) : Option Rat := op2 (· + ·) (op2 (· * ·) (some (vx s (mat s k) : Rat)) (apX s d (mat s k))) (op2 (· * ·) (some (vy s (mat s k) : Rat)) (apY s d (mat s k)))
theorem strQ_ok (s : Str) (d : List (Option Rat)) (k : Nat) : okQ (strQ s d k) := okQ_op2 _ _ _
theorem apart_ro (s : Str) (d : List (Option Rat)) (k : Nat) (hs : SOk s) (hd : okL d) (hk : k < s.ms.length) : RO Tryz.prog 131 [.ptr s.c, .int .i64 k, .sl (fvs (dspF s.js d))] (.tup [fv (apX s d (mat s k)), fv (apY s d (mat s k))]) := by
  have hm := mat_at s k hk
  obtain ⟨⟨a1, a2⟩, ⟨b1, b2⟩⟩ := hs.ix _ (List.getElem_mem hk)
  have hnj := hs.nj
  rw [hm]
  obtain ⟨a, ha⟩ : ∃ a : Nat, s.ms[k].a = a := ⟨s.ms[k].a.toNat, by omega⟩
  obtain ⟨b, hb⟩ : ∃ b : Nat, s.ms[k].b = b := ⟨s.ms[k].b.toNat, by omega⟩
  rw [ha] at a1 a2
  rw [hb] at b1 b2
  have ha' : a < s.js.length := by omega
  have hb' : b < s.js.length := by omega
  have w1 : IntKind.i64.wrap (2 * (a : Int)) = 2 * a := i64_in (by omega) (by omega)
  have w2 : IntKind.i64.wrap (2 * (a : Int) + 1) = 2 * a + 1 := i64_in (by omega) (by omega)
  have w3 : IntKind.i64.wrap (2 * (b : Int)) = 2 * b := i64_in (by omega) (by omega)
  have w4 : IntKind.i64.wrap (2 * (b : Int) + 1) = 2 * b + 1 := i64_in (by omega) (by omega)
  have p1 : 2 * a < 2 * s.js.length := by omega
  have p2 : 2 * a + 1 < 2 * s.js.length := by omega
  have p3 : 2 * b < 2 * s.js.length := by omega
  have p4 : 2 * b + 1 < 2 * s.js.length := by omega
  have p5 : 2 * (a : Int) < 2 * (s.js.length : Int) := by omega
  have p6 : 2 * (a : Int) + 1 < 2 * (s.js.length : Int) := by omega
  have p7 : 2 * (b : Int) < 2 * (s.js.length : Int) := by omega
  have p8 : 2 * (b : Int) + 1 < 2 * (s.js.length : Int) := by omega
  have x1 := dspF_X s.js d a ha' (by simpa using p1)
  have x2 := dspF_Y s.js d a ha' (by simpa using p2)
  have x3 := dspF_X s.js d b hb' (by simpa using p3)
  have x4 := dspF_Y s.js d b hb' (by simpa using p4)
  have hX := sub_ro _ _ (dX_ok s.js hd b) (dX_ok s.js hd a)
  have hY := sub_ro _ _ (dY_ok s.js hd b) (dY_ok s.js hd a)
  have eX : op2 (· - ·) (dX s.js d b) (dX s.js d a) = apX s d s.ms[k] := by unfold apX; rw [ha, hb]; rfl
  have eY : op2 (· - ·) (dY s.js d b) (dY s.js d a) = apY s d s.ms[k] := by unfold apY; rw [ha, hb]; rfl
  rw [eX] at hX
  rw [eY] at hY
  refine ro_of2 Tryz.func131 rfl rfl (by rw [Tryz.ntmps131]; simp) fun bl => ?_
  rw [Tryz.ntmps131, Tryz.results131]
  refine AW_runA ?_
  simp
  refine AW_runA ?_
  simp [Str.c, hk, Mb.c]
  intro g hg0 hg
  refine AW_run ?_
  refine AW_quiet mixedO (by kernel_rfl) ?_
  simp [ha, hb, w1, w2, w3, w4, p1, p2, p3, p4, p5, p6, p7, p8, x1, x2, x3, x4, two0, two1, twoN0, twoN1]
  refine hcQ_ro hX ?_
  simp [ha, hb, w1, w2, w3, w4, p1, p2, p3, p4, p5, p6, p7, p8, x1, x2, x3, x4, two0, two1, twoN0, twoN1]
  refine hcQ_ro hY ?_
  simp
  exact retRO [fv (apX s d s.ms[k]), fv (apY s d s.ms[k])] 1 (by simp) (by simp [frz, frzL]) (by simp [hg])
theorem stretch_ro (s : Str) (d : List (Option Rat)) (k : Nat) (hs : SOk s) (hd : okL d) (hk : k < s.ms.length) : RO Tryz.prog 75 [.ptr s.c, .int .i64 k, .sl (fvs (dspF s.js d))] (fv (strQ s d k)) := by
  have hm := mat_at s k hk
  have hnm := hs.nm
  have hle := vxy_le hs (List.getElem_mem hk)
  rw [← hm] at hle
  obtain ⟨⟨l1, l2⟩, ⟨l3, l4⟩⟩ := hle
  refine ro_of2 Tryz.func75 rfl rfl (by rw [Tryz.ntmps75]; simp) fun bl => ?_
  rw [Tryz.ntmps75, Tryz.results75]
  refine AW_run ?_
  simp
  refine callP_ro (vector_ro s k hs (by omega) (by omega)) ?_
  simp
  refine callP_ro (apart_ro s d k hs hd hk) ?_
  simp
  refine callP_ro (whole_ro (vx s (mat s k)) (by omega)) ?_
  simp
  refine callP_ro (mul_ro _ _ (okQ_int (by omega)) (okQ_op2 _ _ _)) ?_
  simp
  refine callP_ro (whole_ro (vy s (mat s k)) (by omega)) ?_
  simp
  refine callP_ro (mul_ro _ _ (okQ_int (by omega)) (okQ_op2 _ _ _)) ?_
  simp
  refine callP_ro (add_ro _ _ (okQ_op2 _ _ _) (okQ_op2 _ _ _)) ?_
  simp
  exact retRO [fv (strQ s d k)] 0 (by simp [strQ]) (frz_cl (fv_cl _)) (Sub.refl _)

/-- The stretch of member k, if there is one. -/
def strOk (s : Str) (k : Int) (d : List RT) : Bool := movOk s d && (decide (0 ≤ k) && decide (k < s.ms.length))
def strW (s : Str) (k : Int) (d : List RT) : Option Rat := if strOk s k d = true then strQ s (rdAll d) k.toNat else none
theorem strW_ok (s : Str) (k : Int) (d : List RT) : okQ (strW s k d) := by
  unfold strW; split
  · exact strQ_ok _ _ _
  · exact fun _ e => by cases e
theorem movOk_of {s : Str} {d : List RT} (h : movOk s d = true) : SOk s ∧ d.length = 2 * (frees s.js).length ∧ allOk d = true := by
  unfold movOk at h
  simp only [Bool.and_eq_true, decide_eq_true_eq] at h
  exact ⟨sOk_of h.1.1, h.1.2, h.2⟩
theorem impl_StretchOf_nw (s : Str) (k : Int) (d : List RT) (hj : s.js.length ≤ 140737488351232) (hm : s.ms.length ≤ 140737488351232) (hn : ∀ j, j ∈ s.js → j.name.size ≤ 140737488351232) (hd : fitQ d 1048576) : NW Tryz.prog 34 [.agg s.c, .int .i64 k, .sl (rv d)] (dT (ro (strW s k d)) (strW s k d).isSome) := by
  refine nw_of Tryz.func34 rfl rfl (by rw [Tryz.ntmps34]; simp) fun bl => ?_
  rw [Tryz.ntmps34, Tryz.results34]
  refine AW_runA ?_
  simp [Str.c]
  intro g hg0 hg g6 hg6 h6g hb6
  refine AW_frzAt 1 3 (.ptr s.c) (upd bl g6 (some ⟨3, [[.bool false, .nils, .nils]]⟩)) (by intro z b hz; simp only [upd_apply] at hz ⊢; grind) (by simp [frz, dropB, hg, h6g, Ne.symm h6g, Str.c, V.cl]) ?_
  refine AW_run ?_
  simp
  refine callP_ro (displacements_ro s d hj hm hn hd) ?_
  simp
  refine AW_way0 [(1, .int .i64 k), (2, .sl (rv d)), (3, .ptr s.c), (6, .loc g6 3 0 0), (7, .bool false), (8, .sl (fvs (if movOk s d = true then dspF s.js (rdAll d) else []))), (9, .bool (movOk s d))] _ (upd bl g6 (some ⟨3, [[.bool false, .nils, .nils]]⟩)) 27 (.bool (!strOk s k d)) ⟨rfl, by simp, Sub.refl _⟩ rfl ?_ ?_
  · cases hp : movOk s d
    · simp [strOk, hp]
    simp [strOk, hp, Str.c]
    by_cases h0 : 0 ≤ k
    · have h1 : ¬ k < 0 := by omega
      simp [h0, h1, Str.c]
      rw [Bool.eq_iff_iff]
      simp
    · have h1 : k < 0 := by omega
      simp [h0, h1]
  cases hw : strOk s k d
  · have hz : strW s k d = none := by unfold strW; rw [hw]; rfl
    rw [hz]
    simp
    refine retNW [.agg [.bool false, .nils, .nils], .bool false] [] (by simp) ?_ (by simp) (by simp [hb6])
    exact own_dT.2 ⟨_, rfl, own_rtL.2 ⟨.nils, .nils, [], [], rfl, rfl, by simp, own_iv.2 (.inl ⟨rfl, rfl, rfl⟩), own_iv.2 (.inl ⟨rfl, rfl, rfl⟩)⟩⟩
  have hz : strW s k d = strQ s (rdAll d) k.toNat := by unfold strW; rw [hw]; rfl
  unfold strOk at hw
  simp only [Bool.and_eq_true, decide_eq_true_eq] at hw
  obtain ⟨hmv, h0, h1⟩ := hw
  obtain ⟨hs, hlen, hall⟩ := movOk_of hmv
  obtain ⟨i, rfl⟩ : ∃ i : Nat, k = i := ⟨k.toNat, by omega⟩
  have hS := stretch_ro s (rdAll d) i hs (rdAll_ok d) (by omega)
  rw [show ((i : Int).toNat) = i from rfl] at hz
  rw [← hz] at hS
  have ho := strW_ok s i d
  rw [hmv]
  generalize strW s i d = x at *
  simp
  refine callP_ro hS ?_
  simp
  refine callP_new (told_nw x ho) fun v gs b' o f fr => ?_
  obtain ⟨vs, rfl, ol⟩ := own_dT.1 o
  obtain ⟨vm, vd, ga, gb, rfl, rfl, hd', om, od⟩ := own_rtL.1 ol
  obtain ⟨c1, c2⟩ := om.one
  obtain ⟨d1, d2⟩ := od.one
  have e1 : ∀ x, x ∈ ga ++ gb → x ≠ g6 ∧ bl x = none := fun x hx => by have := f x hx; simp only [upd_apply] at this; split at this <;> simp_all
  have n2 : b' g6 = some ⟨3, [[.bool false, .nils, .nils]]⟩ := new_keep f fr (by simp)
  have hsb : Sub bl b' := fun x y hy => by
    have z2 : x ≠ g6 := fun h => by rw [h, hb6] at hy; cases hy
    exact new_keep f fr (by simp [upd_apply, z2, hy])
  simp [n2, c1, d1]
  refine retNW [.agg [.bool (ro x).neg, vm, vd], .bool x.isSome] (ga ++ gb) (by simp [c1, d1]) ?_ (fun x hx => (e1 x hx).2) (hsb.upd hb6 _)
  refine own_dT.2 ⟨_, rfl, (own_rtL.2 ⟨vm, vd, ga, gb, rfl, rfl, hd', om, od⟩).frame fun x hx => by simp [upd_apply, (e1 x hx).1]⟩
theorem impl_StretchOf_ro (s : Str) (k : Int) (d : List RT) (hj : s.js.length ≤ 140737488351232) (hm : s.ms.length ≤ 140737488351232) (hn : ∀ j, j ∈ s.js → j.name.size ≤ 140737488351232) (hd : fitQ d 1048576) : RO Tryz.prog 34 [.agg s.c, .int .i64 k, .sl (rv d)] (.tup [.agg (ro (strW s k d)).c, .bool (strW s k d).isSome]) := by
  have := ro_of_nw 3 (impl_StretchOf_nw s k d hj hm hn hd) (dT_dep _ _)
  rwa [dT_fz] at this
end Go.Proofs.YtmbcofnnibpbeaaGreat.Vm

namespace Go.Proofs.YtmbcofnnibpbeaaGreat.Vm
open Go Go.Proofs
set_option linter.unusedSimpArgs false
set_option linter.unusedVariables false

theorem l05Bad_ro (r : RT) : RO Tryz.prog 184 [.agg r.c] (.bool (decide (r.d = []))) := by
  refine ro_of2 Tryz.func184 rfl rfl (by rw [Tryz.ntmps184]; simp) fun bl => ?_
  rw [Tryz.ntmps184, Tryz.results184]
  refine AW_run ?_
  simp [RT.c]
  intro g hg0 hg
  exact retRO [.bool (decide (r.d = []))] 0 (by simp [len_dec]) (by simp [frz]) (by simp [hg])
def fineQ (rs : List RT) : Bool := rs.all fun r => !decide (r.d = [])
theorem l05Fine_ro (rs : List RT) (hw : rs.length ≤ 1048576) : RO Tryz.prog 150 [.sl (rv rs)] (.bool (fineQ rs)) := by
  refine ro_of2 Tryz.func150 rfl rfl (by rw [Tryz.ntmps150]; simp) fun bl => ?_
  rw [Tryz.ntmps150, Tryz.results150]
  refine AW_run ?_
  simp
  refine AW_for (fun i : Nat => [(5, .sl (rv rs)), (6, .int .i64 rs.length), (7, .int .i64 i)]) (fun _ => bl) (fun i => i ≤ rs.length ∧ ∀ r, r ∈ rs.take i → r.d ≠ []) (fun i => rs.length - i) _ 0 ⟨Nat.zero_le _, by simp⟩ ⟨rfl, by simp, Sub.refl _⟩ ?_
  rintro i ⟨hi, hall⟩
  refine AW_run ?_
  simp
  refine ⟨fun h => ?_, fun h => ?_⟩
  · simp [h, RT.c]
    intro g2 hg2 hb2
    refine callP_ro (l05Bad_ro rs[i]) ?_
    simp
    refine ⟨fun hok => ?_, fun hok => ?_⟩
    · have hno : fineQ rs = false := by
        rw [Bool.eq_false_iff]
        intro hh
        have := List.all_eq_true.1 hh rs[i] (List.getElem_mem h)
        simp [hok] at this
      exact retRO [.bool false] 0 (by simp) (by simp [frz, hno]) (by simp [hb2])
    · simp (disch := omega) [i64_in, loopQ_normal]
      refine ⟨i + 1, ⟨by omega, fun r hr => ?_⟩, by omega, rfl, by simp, by simp [hb2]⟩
      rw [List.take_add_one, List.getElem?_eq_getElem h] at hr
      rcases List.mem_append.1 hr with hr | hr
      · exact hall r hr
      · obtain rfl : r = rs[i] := by simpa using hr
        exact hok
  · have hi2 : i = rs.length := by omega
    have hyes : fineQ rs = true := List.all_eq_true.2 fun r hr => by
      have := hall r (by rw [hi2, List.take_length]; exact hr)
      simp [this]
    exact retRO0 (by simp [hyes]) rfl rfl
theorem fine_ro (zs : List (Option Rat)) : fineQ (roAll zs) = allSome zs := by
  unfold fineQ roAll allSome
  rw [List.all_map]
  congr 1
  funext x
  cases x with
  | none => simp [ro, rz]
  | some q => simp [ro, rq, lim_nil, q.den_nz]
def pairOk (a b : List RT) : Bool := (vecOk a && vecOk b) && decide (a.length = b.length)
/-! ### Results -/
def addQs (a b : List RT) : List (Option Rat) := if pairOk a b = true then List.zipWith (op2 (· + ·)) (rdAll a) (rdAll b) else [none]
theorem pairOk_len {a b : List RT} (h : pairOk a b = true) : a.length = b.length ∧ a.length ≤ 24 ∧ allOk a = true ∧ allOk b = true := by
  unfold pairOk vecOk at h
  simp at h
  exact ⟨h.2, h.1.1.1, h.1.1.2, h.1.2.2⟩
theorem zip_ok (f : Rat → Rat → Rat) (xs ys : List (Option Rat)) : okL (List.zipWith (op2 f) xs ys) := by
  intro x hx
  obtain ⟨i, hi, rfl⟩ := List.getElem_of_mem hx
  rw [List.getElem_zipWith]
  exact okQ_op2 _ _ _
theorem addQs_ok (a b : List RT) : okL (addQs a b) ∧ (addQs a b).length ≤ 24 := by
  unfold addQs; split
  · rename_i h; exact ⟨zip_ok _ _ _, by have := pairOk_len h; simp; omega⟩
  · exact ⟨okL_none, by simp⟩
theorem ro_of_ok {rs : List RT} (h : allOk rs = true) (i : Nat) (hi : i < rs.length) : ∃ q, rd rs[i] = some q ∧ rs[i] = ro (some q) ∧ okQ (some q) := by
  have := List.all_eq_true.1 h rs[i] (List.getElem_mem hi)
  obtain ⟨q, hq⟩ := Option.isSome_iff_exists.1 this
  obtain ⟨h1, h2⟩ := rd_some hq
  exact ⟨q, hq, h1, fun x hx => by cases hx; exact h2⟩
def sclQs (r : RT) (q : List RT) : List (Option Rat) := if (r.ok ∧ vecOk q = true) then (rdAll q).map (op2 (· * ·) (rd r)) else [none]
theorem vecOk_len {q : List RT} (h : vecOk q = true) : q.length ≤ 24 ∧ allOk q = true := by
  unfold vecOk at h; simp at h; exact h
theorem sclQs_ok (r : RT) (q : List RT) : okL (sclQs r q) ∧ (sclQs r q).length ≤ 24 := by
  unfold sclQs; split
  · rename_i h
    refine ⟨fun x hx => ?_, by have := vecOk_len h.2; simp; omega⟩
    obtain ⟨y, _, rfl⟩ := List.mem_map.1 hx
    exact okQ_op2 _ _ _
  · exact ⟨okL_none, by simp⟩
end Go.Proofs.YtmbcofnnibpbeaaGreat.Vm

namespace Go.Proofs.YtmbcofnnibpbeaaGreat.Vm
open Go Go.Proofs
set_option linter.unusedSimpArgs false
set_option linter.unusedVariables false

theorem idx_succ (js : List J) (k : Nat) : idx js (k + 1) = idx js k + (if fxd js k = true then 0 else 1) := by
  unfold idx fxd
  rw [freesTo_succ]
  split <;> simp
theorem idx_le (js : List J) (k : Nat) : idx js k ≤ k := freesTo_le js k
def atW (s : Str) (i : Nat) : Int := if fxd s.js i = true then -1 else (idx s.js i : Int)
theorem ro_rd {rs : List RT} (h : allOk rs = true) (i : Nat) (hi : i < rs.length) : ro (rd rs[i]) = rs[i] := by
  obtain ⟨q, e1, e2, _⟩ := ro_of_ok h i hi
  rw [e1]; exact e2.symm
end Go.Proofs.YtmbcofnnibpbeaaGreat.Vm

namespace Go.Proofs.YtmbcofnnibpbeaaGreat.Vm
open Go Go.Proofs
set_option linter.unusedSimpArgs false
set_option linter.unusedVariables false

/-- Two new cells of three. -/
def twoNew (bl : Int → Option Blk) (g6 : Int) (p : Int × Int) : Prop := 0 ≤ p.1 ∧ 0 ≤ p.2 ∧ ¬ p.1 = p.2 ∧ ¬ p.1 = g6 ∧ ¬ p.2 = g6 ∧ bl p.1 = none ∧ bl p.2 = none
end Go.Proofs.YtmbcofnnibpbeaaGreat.Vm

namespace Go.Proofs.YtmbcofnnibpbeaaGreat.Vm
open Go Go.Proofs
set_option linter.unusedSimpArgs false
set_option linter.unusedVariables false

def refBad (m : Mb) (x : Option Rat) : Bool := (!x.isSome || (decide (m.kind ≠ 2) && decide (0 < sgq x))) || (decide (m.kind ≠ 1) && decide (sgq x < 0))
def memsOk (s : Str) (d : List (Option Rat)) : Bool := (List.range s.ms.length).all fun k => !refBad (mat s k) (strQ s d k)
def memsTo (s : Str) (d : List (Option Rat)) (n : Nat) : Prop := ∀ k : Nat, k < n → refBad (mat s k) (strQ s d k) = false
theorem memsOk_yes {s : Str} {d : List (Option Rat)} (h : memsTo s d s.ms.length) : memsOk s d = true := by
  unfold memsOk
  rw [List.all_eq_true]
  intro k hk
  rw [h k (by simpa using hk)]; rfl
theorem memsOk_no {s : Str} {d : List (Option Rat)} (k : Nat) (hk : k < s.ms.length) (h : refBad (mat s k) (strQ s d k) = true) : memsOk s d = false := by
  unfold memsOk
  rw [List.all_eq_false]
  exact ⟨k, by simpa using hk, by rw [h]; simp⟩
/-- The work of the load before free joint t. -/
def wkTo (s : Str) (l : List Int) (d : List (Option Rat)) : Nat → Option Rat
  | 0 => some 0
  | t + 1 => op2 (· + ·) (op2 (· + ·) (wkTo s l d t) (op2 (· * ·) (some (lN l (2 * ((frees s.js).getD t 0).toNat) : Rat)) (d.getD (2 * t) none))) (op2 (· * ·) (some (lN l (2 * ((frees s.js).getD t 0).toNat + 1) : Rat)) (d.getD (2 * t + 1) none))
theorem wkTo_ok (s : Str) (l : List Int) (d : List (Option Rat)) : ∀ t, okQ (wkTo s l d t)
  | 0 => okQ_zero
  | t + 1 => okQ_op2 _ _ _
def wkW (s : Str) (l : List Int) (d : List (Option Rat)) : Option Rat := wkTo s l d (frees s.js).length
def refW (s : Str) (l : List Int) (d : List RT) : Bool := (movOk s d && fitsL s.js l) && (memsOk s (rdAll d) && decide (0 < sgq (wkW s l (rdAll d))))

end Go.Proofs.YtmbcofnnibpbeaaGreat.Vm

namespace Go.Proofs.YtmbcofnnibpbeaaGreat.Vm
open Go Go.Proofs
set_option linter.unusedSimpArgs false
set_option linter.unusedVariables false

theorem cv_getE (cs : List (Int × Int)) (i : Nat) (h : i < (cv cs).length) : (cv cs)[i] = [.int .i64 (cs[i]'(by simpa using h)).1, .int .i64 (cs[i]'(by simpa using h)).2] := by simp [cv]
theorem fvs_set (xs : List (Option Rat)) (i : Nat) (x : Option Rat) : (fvs xs).set i [fv x] = fvs (xs.set i x) := by simp [fvs, List.map_set]
/-! ### Densities from columns -/
def denOk (s : Str) (d : List RT) : Bool := sOk s && (decide (d.length = (cols s.ms).length) && allOk d)
def denQ (s : Str) (d : List RT) : List (Option Rat) := if denOk s d = true then runI s.ms (rdAll d) (cols s.ms).length else [none]
theorem denOk_of {s : Str} {d : List RT} (h : denOk s d = true) : SOk s ∧ d.length = (cols s.ms).length ∧ allOk d = true := by
  unfold denOk at h
  simp only [Bool.and_eq_true, decide_eq_true_eq] at h
  exact ⟨sOk_of h.1, h.2.1, h.2.2⟩
theorem denQ_ok (s : Str) (d : List RT) : okL (denQ s d) ∧ (denQ s d).length ≤ 24 := by
  unfold denQ; split
  · rename_i h
    obtain ⟨hs, _, _⟩ := denOk_of h
    have := hs.nm
    exact ⟨runI_ok s.ms (rdAll_ok d) _, by rw [runI_length]; omega⟩
  · exact ⟨okL_none, by simp⟩
/-! ### The reference -/
theorem l05Zero_ro : RO Tryz.prog 151 [] (.agg (ro (some 0)).c) := by
  have w0 := RatFromInt_ro 0 (by omega)
  rw [zero_cast] at w0
  refine ro_of2 Tryz.func151 rfl rfl (by rw [Tryz.ntmps151]; simp) fun bl => ?_
  rw [Tryz.ntmps151, Tryz.results151]
  refine AW_run ?_
  generalize ro (some 0) = z at *
  simp
  intro g hg0 hg
  refine callP_ro w0 ?_
  simp [RT.c]
  exact retRO [.agg z.c] 1 (by simp [RT.c]) (by simp [frz, RT.c, V.cl]) (by simp [hg])
theorem rv_takeall (rs : List RT) : (rv rs).take rs.length = rv rs := by rw [← rv_length rs, List.take_length]
theorem rv_len3 (rs : List RT) : ∀ r, r ∈ rv rs → r.length = 3 := fun r hr => by
  obtain ⟨x, _, rfl⟩ := List.mem_map.1 hr; rfl
theorem own_rvF {bl : Int → Option Blk} {rs : List RT} {v : V} {gs : List Int} : OwnD bl (fl 3 (rv rs)) v gs ↔ (rs = [] ∧ v = .nils ∧ gs = []) ∨ ∃ g, v = .lsl g 3 0 rs.length ∧ gs = [g] ∧ bl g = some ⟨3, rv rs⟩ ∧ (g < 0 → rs = []) := by
  rw [own_fl (rv_cl rs) (rv_len3 rs)]
  simp [rv]
def zeros (n : Nat) : List RT := List.replicate n (ro (some 0))
theorem zeros_succ (n : Nat) : zeros (n + 1) = zeros n ++ [ro (some 0)] := by unfold zeros; rw [List.replicate_succ']
@[simp] theorem zeros_length (n : Nat) : (zeros n).length = n := by simp [zeros]
theorem l05Zeros_nw (n : Nat) (hn : n ≤ 1000) : NW Tryz.prog 104 [.int .i64 n] (fl 3 (rv (zeros n))) := by
  refine nw_of Tryz.func104 rfl rfl (by rw [Tryz.ntmps104]; simp) fun bl => ?_
  rw [Tryz.ntmps104, Tryz.results104]
  refine AW_run ?_
  simp
  intro g00 hg00 hb00
  refine AW_for (fun p : Nat × Int => [(0, .int .i64 n), (3, .lsl p.2 3 0 p.1)]) (fun p => upd bl p.2 (some ⟨3, rv (zeros p.1)⟩)) (fun p => p.1 ≤ n ∧ bl p.2 = none ∧ (p.2 < 0 → p.1 = 0)) (fun p => n - p.1) _ (0, g00) ⟨Nat.zero_le _, hb00, fun _ => rfl⟩ ⟨rfl, by simp, sub_eq (by simp [zeros, rv])⟩ ?_
  rintro ⟨i, g⟩ ⟨hi, hg, h0⟩
  simp only at hi hg h0
  refine AW_run ?_
  simp
  refine ⟨fun h => ?_, fun h => ?_⟩
  · refine callP_ro l05Zero_ro ?_
    have hz := zeros_succ i
    generalize ro (some 0) = z at *
    simp [RT.c]
    intro g2 hg2 h2g hb2
    simp [h2g, Ne.symm h2g, appV, elsV, Int.not_lt.2 hg2]
    refine ⟨by omega, fun g3 hg3 hb3 => ?_⟩
    have hb3' : bl g3 = none := by grind
    simp [loopQ_normal]
    refine ⟨i + 1, g3, ⟨by omega, hb3', by omega⟩, by omega, rfl, by simp, ?_⟩
    rw [hz, rv_append]
    exact sub_put (by rw [show (rv (zeros i)).take i = rv (zeros i) by have := rv_takeall (zeros i); rwa [zeros_length] at this]; simp [rv, RT.c]) (by simp [hg, hb2, h2g])
  · have hi2 : i = n := by omega
    subst hi2
    refine retNW [.lsl g 3 0 i] [g] (by simp) ?_ (by simpa using hg) (by simp [hg])
    exact own_rvF.2 (.inr ⟨g, by simp, rfl, by simp, fun h => by rw [h0 h]; rfl⟩)
end Go.Proofs.YtmbcofnnibpbeaaGreat.Vm

namespace Go.Proofs.YtmbcofnnibpbeaaGreat.Vm
open Go Go.Proofs
set_option linter.unusedSimpArgs false
set_option linter.unusedVariables false

theorem bigOk_small {neg : Bool} {a : Nat} (h : a ≤ 1000) (hn : neg = true → a ≠ 0) : bigOk neg (lim a) = true := by
  unfold bigOk
  rw [natOk_lim (lim_length_le.2 (Nat.lt_of_le_of_lt h (by decide +kernel)))]
  cases neg
  · rfl
  · simp [lim_nil, hn rfl]
theorem RatMake_ro (x y : Int) (hx : x.natAbs ≤ 1000) (hy : y.natAbs ≤ 1000) : RO Tryz.prog 137 [.agg (biC x), .agg (biC y)] (.agg (ro (lowQ (decide (x < 0) != decide (y < 0)) x.natAbs y.natAbs)).c) := by
  have lx : (lim x.natAbs).length ≤ 60 := lim_length_le.2 (Nat.lt_of_le_of_lt hx (by decide +kernel))
  have ly : (lim y.natAbs).length ≤ 60 := lim_length_le.2 (Nat.lt_of_le_of_lt hy (by decide +kernel))
  have kx := spec_BigIntOk_ro (decide (x < 0)) (lim x.natAbs) (by omega)
  have ky := spec_BigIntOk_ro (decide (y < 0)) (lim y.natAbs) (by omega)
  rw [bigOk_small hx (fun h => by simp at h; omega)] at kx
  rw [bigOk_small hy (fun h => by simp at h; omega)] at ky
  have hL := l04Low_ro (decide (x < 0) != decide (y < 0)) x.natAbs y.natAbs lx ly
  generalize ro (lowQ (decide (x < 0) != decide (y < 0)) x.natAbs y.natAbs) = z at hL ⊢
  refine ro_of2 Tryz.func137 rfl rfl (by rw [Tryz.ntmps137]; simp) fun bl => ?_
  rw [Tryz.ntmps137, Tryz.results137]
  refine AW_runA ?_
  simp [biC_def]
  intro g hg0 hg g2 hg2 h2g hb2 g3 hg3 h32 h3g hb3
  refine AW_runA ?_
  simp
  refine AW_way [(2, .loc g 2 0 0), (3, .loc g2 2 0 0), (4, .loc g3 3 0 0)] _ (upd (upd (upd bl g (some ⟨2, [biC x]⟩)) g2 (some ⟨2, [biC y]⟩)) g3 (some ⟨3, [[.bool false, .nils, .nils]]⟩)) 12 (.bool false) (upd (upd (upd bl g (some ⟨2, [biC x]⟩)) g2 (some ⟨2, [biC y]⟩)) g3 (some ⟨3, [[.bool false, .nils, .nils]]⟩)) ⟨rfl, by simp, sub_eq (by simp [biC_def])⟩ rfl ?_ ?_
  · simp [biC_def, h2g, Ne.symm h2g, h32, Ne.symm h32, h3g, Ne.symm h3g]
    refine callP_ro kx ?_
    simp [biC_def, h2g, Ne.symm h2g, h32, Ne.symm h32, h3g, Ne.symm h3g]
    refine callP_ro ky ?_
    simp
  simp
  refine AW_run ?_
  simp [biC_def, h2g, Ne.symm h2g, h32, Ne.symm h32, h3g, Ne.symm h3g]
  refine callP_ro hL ?_
  simp [RT.c]
  exact retRO [.agg z.c] 1 (by simp [RT.c]) (by simp [frz, RT.c, V.cl]) (by intro u b hz; simp only [upd_apply] at hz ⊢; grind)
theorem lowQ_q6 (n : Int) (d : Int) (hn : -10 ≤ n ∧ n ≤ 10) (hd : d = 1 ∨ d = 2 ∨ d = 3) : ∃ u : Int, lowQ (decide (n < 0) != decide (d < 0)) n.natAbs d.natAbs = q6 u ∧ -60 ≤ u ∧ u ≤ 60 := by
  have hd0 : decide (d < 0) = false := by rcases hd with rfl | rfl | rfl <;> rfl
  rw [hd0, Bool.bne_false]
  unfold lowQ
  rw [sg_self]
  rcases hd with rfl | rfl | rfl
  · refine ⟨n * 6, ?_, by omega, by omega⟩
    have : mkRat n (1 : Int).natAbs = r6 (n * 6) := (Rat.mkRat_mul_right (d := 1) (a := 6) (by decide)).symm
    rw [if_neg (by decide), this]; unfold fit q6; rw [if_pos (r6_fits (by omega))]
  · refine ⟨n * 3, ?_, by omega, by omega⟩
    have : mkRat n (2 : Int).natAbs = r6 (n * 3) := (Rat.mkRat_mul_right (d := 2) (a := 3) (by decide)).symm
    rw [if_neg (by decide), this]; unfold fit q6; rw [if_pos (r6_fits (by omega))]
  · refine ⟨n * 2, ?_, by omega, by omega⟩
    have : mkRat n (3 : Int).natAbs = r6 (n * 2) := (Rat.mkRat_mul_right (d := 3) (a := 2) (by decide)).symm
    rw [if_neg (by decide), this]; unfold fit q6; rw [if_pos (r6_fits (by omega))]
theorem RatOf_ro (n d : Int) (hn : -10 ≤ n ∧ n ≤ 10) (hd : d = 1 ∨ d = 2 ∨ d = 3) : ∃ u : Int, (-60 ≤ u ∧ u ≤ 60) ∧ RO Tryz.prog 81 [.int .i64 n, .int .i64 d] (.agg (ro (q6 u)).c) := by
  obtain ⟨u, eu, hu⟩ := lowQ_q6 n d hn hd
  refine ⟨u, hu, ?_⟩
  have h1 := BigIntOf_ro n (by omega)
  have h2 := BigIntOf_ro d (by omega)
  have h3 := RatMake_ro n d (by omega) (by omega)
  rw [eu] at h3
  generalize ro (q6 u) = z at h3 ⊢
  refine ro_of2 Tryz.func81 rfl rfl (by rw [Tryz.ntmps81]; simp) fun bl => ?_
  rw [Tryz.ntmps81, Tryz.results81]
  refine AW_run ?_
  simp
  intro g hg0 hg
  refine callP_ro h1 ?_
  simp
  refine callP_ro h2 ?_
  simp
  refine callP_ro h3 ?_
  simp [RT.c]
  exact retRO [.agg z.c] 1 (by simp [RT.c]) (by simp [frz, RT.c, V.cl]) (by simp [hg])
theorem l04Few_cp {bl : Int → Option Blk} {K : V → (Int → Option Blk) → Prop} (bs : List Int) (i h g : Int) (hc : CurOk bs i) (hb : bl g = some (cur bs i h))
    (hK : ∀ (u i' h' : Int) bl', -60 ≤ u ∧ u ≤ 60 → CurOk bs i' → bl' g = some (cur bs i' h') → (∀ x y, x ≠ g → bl x = some y → bl' x = some y) → K (.agg (ro (q6 u)).c) bl') : CallP Tryz.prog 39 [.loc g 3 0 0] bl K := by
  refine callP_of Tryz.func39 rfl rfl (by rw [Tryz.ntmps39]; simp) ?_
  rw [Tryz.ntmps39, Tryz.results39]
  refine AW_run ?_
  simp
  intro ga hga0 hga
  have nag : ga ≠ g := fun e => by rw [e, hb] at hga; cases hga
  refine l01Below_cp bs i h g 21 (by omega) hc (by simp [Ne.symm nag, hb]) fun x1 i1 h1 hx1 hc1 => ?_
  have w1 : IntKind.i64.wrap (x1 - 10) = x1 - 10 := i64_in (by omega) (by omega)
  simp [w1, nag, Ne.symm nag]
  intro g5 hg5 n5g n5a hb5
  refine l01Pick_cp bs i1 h1 g g5 [1, 1, 1, 2, 3] (by simp) hc1 (by simp [Ne.symm n5g]) (by simp [iv, show List.range 5 = [0, 1, 2, 3, 4] from rfl]) n5g hg5 fun x2 i2 h2 hx2 hc2 => ?_
  have hx2' : x2 = 1 ∨ x2 = 2 ∨ x2 = 3 := by simpa using hx2
  obtain ⟨u, hu, hR⟩ := RatOf_ro (x1 - 10) x2 (by omega) hx2'
  have hK2 := fun bl' => hK u i2 h2 bl' hu hc2
  generalize ro (q6 u) = z at hR hK2
  simp
  refine callP_ro hR ?_
  simp [RT.c, nag, Ne.symm nag, n5g, n5a, Ne.symm n5g, Ne.symm n5a]
  rw [retK_ret]
  refine ⟨[.agg z.c], by simp [RT.c], ?_⟩
  exact hK2 _ (by simp [Ne.symm nag]) (fun x y hx hy => by simp only [upd_apply]; grind)
theorem rv_one (r : RT) : rv [r] = [r.c] := rfl
structure MD where
  us : List Int
  g : Int
  i : Int
  h : Int
  b : Int → Option Blk
def rq6 (us : List Int) : List RT := us.map fun u => ro (q6 u)
@[simp] theorem rq6_length (us : List Int) : (rq6 us).length = us.length := by simp [rq6]
theorem MakeDensities_cp {bl : Int → Option Blk} {K : V → (Int → Option Blk) → Prop} (bs : List Int) (n : Nat) (s : Str) (hs : SOk s) (hn : bs.length ≤ 1048576) (hbs : ∀ x, x ∈ bs → 0 ≤ x ∧ x < 256) (hn2 : n ≤ 1048576)
    (hK : ∀ (us : List Int) bl', us.length = s.ms.length → (∀ u, u ∈ us → -60 ≤ u ∧ u ≤ 60) → Sub bl bl' → K (.sl (rv (rq6 us))) bl') :
    CallP Tryz.prog 10 [.sl (bv bs), .int .i64 n, .agg s.c] bl K := by
  have hnm := hs.nm
  refine callP_of Tryz.func10 rfl rfl (by rw [Tryz.ntmps10]; simp) ?_
  rw [Tryz.ntmps10, Tryz.results10]
  refine AW_runA ?_
  simp [Str.c]
  intro gs hgs0 hgs
  refine AW_frzAt 1 5 (.ptr s.c) bl (by simp [hgs]) (by simp [frz, dropB, hgs, Str.c, V.cl]) ?_
  refine AW_runA ?_
  simp
  refine l32New_cp bs n hn hbs hn2 fun g i h hg0 hg hc => ?_
  simp
  refine AW_runA ?_
  simp [Str.c]
  intro g0 hg00 n0g hb0
  refine AW_runA ?_
  simp [Str.c]
  refine AW_for (fun p : MD => [(7, .loc g 3 0 0), (8, .lsl p.g 3 0 p.us.length), (14, .sl (mv s.ms)), (15, .int .i64 s.ms.length), (16, .int .i64 p.us.length)]) (fun p => p.b)
    (fun p => p.us.length ≤ s.ms.length ∧ (∀ u, u ∈ p.us → -60 ≤ u ∧ u ≤ 60) ∧ CurOk bs p.i ∧ p.b g = some (cur bs p.i p.h) ∧ (0 ≤ p.g ∧ ¬ p.g = g ∧ bl p.g = none ∧ p.b p.g = some ⟨3, rv (rq6 p.us)⟩) ∧ Sub bl p.b) (fun p => s.ms.length - p.us.length) 25 ⟨[], g0, i, h, upd (upd bl g (some (cur bs i h))) g0 (some ⟨3, []⟩)⟩
    ⟨Nat.zero_le _, by simp, hc, by simp [Ne.symm n0g], ⟨hg00, n0g, hb0, by simp [rq6, rv]⟩, by intro z b hz; simp only [upd_apply]; grind⟩ ⟨rfl, by simp, by simp [iv]⟩ ?_
  rintro ⟨us, gq, ic, hcu, b⟩ ⟨hul, hub, hcc, hbg, ⟨hgq, nqg, hq0, hbq⟩, hsb⟩
  simp only at hul hub hcc hbg hgq nqg hq0 hbq hsb
  refine AW_run ?_
  simp
  refine ⟨fun hlt => ?_, fun hlt => ?_⟩
  · refine l04Few_cp bs ic hcu g hcc hbg fun u i1 h1 b1 hu hc1 hb1 hk1 => ?_
    have hbq1 : b1 gq = some ⟨3, rv (rq6 us)⟩ := hk1 gq _ nqg hbq
    have hsb1 : Sub bl b1 := fun x y hy => by
      have e : x ≠ g := fun e => by rw [e, hg] at hy; cases hy
      exact hk1 x y e (hsb x y hy)
    have eus : rq6 (us ++ [u]) = rq6 us ++ [ro (q6 u)] := by simp [rq6]
    generalize ro (q6 u) = z at *
    simp [RT.c]
    intro g2 hg2 hb2
    have n2g : g2 ≠ g := fun e => by rw [e, hb1] at hb2; cases hb2
    have n2q : g2 ≠ gq := fun e => by rw [e, hbq1] at hb2; cases hb2
    have hb20 : bl g2 = none := fresh_of hsb1 hb2
    simp [n2q, Ne.symm n2q, hbq1, appV, elsV, Int.not_lt.2 hgq, Int.not_lt.2 hg2]
    refine ⟨by omega, fun g3 hg3 hb3 => ?_⟩
    have wk : IntKind.i64.wrap ((us.length : Int) + 1) = (us.length : Int) + 1 := i64_in (by omega) (by omega)
    obtain ⟨n3g, hb30⟩ : ¬ g3 = g ∧ bl g3 = none := by
      by_cases e : g3 = gq
      · rw [e]; exact ⟨nqg, hq0⟩
      · have h3 := hb3 e
        have h4 : b1 g3 = none := by grind
        exact ⟨fun e => (by rw [e, hb1] at h4; cases h4), fresh_of hsb1 h4⟩
    clear hb3
    simp [wk, loopQ_normal]
    refine ⟨⟨us ++ [u], g3, i1, h1, upd (rem (upd b1 g2 (some ⟨3, [z.c]⟩)) gq) g3 (some ⟨3, rv (rq6 us) ++ [z.c]⟩)⟩, ⟨by simp; omega, fun v hv => ?_, hc1, ?_, ⟨hg3, n3g, hb30, ?_⟩, ?_⟩, by simp; omega, rfl, by simp, ?_⟩
    · rcases List.mem_append.1 hv with hv | hv
      · exact hub v hv
      · obtain rfl : v = u := by simpa using hv
        exact hu
    · simp [upd_apply, rem_apply, Ne.symm n3g, Ne.symm nqg, Ne.symm n2g, hb1]
    · simp only [upd_same, eus, rv_append]; rfl
    · intro x y hx
      have e1 : x ≠ g3 := fun e => by rw [e, hb30] at hx; cases hx
      have e2 : x ≠ g2 := fun e => by rw [e, hb20] at hx; cases hx
      have e3 : x ≠ gq := fun e => by rw [e, hq0] at hx; cases hx
      simp [upd_apply, rem_apply, e1, e2, e3, hsb1 x y hx]
    · have et : (rv (rq6 us)).take us.length = rv (rq6 us) := by have := rv_takeall (rq6 us); rwa [rq6_length] at this
      simp [et, RT.c]
  · have hul2 : us.length = s.ms.length := by omega
    refine AW_frzAt 1 8 (.sl (rv (rq6 us))) bl hsb (by
      have e := frz_slice (bl := b) (bl0 := bl) (sz := 3) (n := us.length) hgq hq0 (els := rv (rq6 us)) hbq (by simp) (rv_cl _)
      simpa using e) ?_
    refine AW_run ?_
    simp
    rw [retK_ret]
    exact ⟨[.sl (rv (rq6 us))], by simp, hK us _ hul2 hub (Sub.refl _)⟩
end Go.Proofs.YtmbcofnnibpbeaaGreat.Vm

namespace Go.Proofs.YtmbcofnnibpbeaaGreat.Vm
open Go Go.Proofs
set_option linter.unusedSimpArgs false
set_option linter.unusedVariables false

theorem roInts_append (a b : List Int) : roInts (a ++ b) = roInts a ++ roInts b := by simp [roInts]
@[simp] theorem roInts_length (a : List Int) : (roInts a).length = a.length := by simp [roInts]
theorem frz_sl3 {bl bl0 : Int → Option Blk} {g : Int} {n : Nat} {els : List (List V)} (h0 : 0 ≤ g ∨ n = 0) (hg : bl0 g = none) (hb : bl g = some ⟨3, els⟩) (hn : els.length = n) (hcl : els.all (fun e => e.all V.cl) = true) : frz (dropB bl bl0) 1 (.lsl g 3 0 n) = some (.sl els) := by
  rcases Int.lt_or_le g 0 with h | h
  · rcases h0 with h0 | h0
    · omega
    · have : els = [] := List.eq_nil_of_length_eq_zero (by omega)
      subst this
      simp [frz, h]
  · exact frz_slice h hg hb hn hcl
theorem MatrixOf_ro (r c : Nat) (l : List Int) (hr : r ≤ 24) (hc : c ≤ 24) (hl : l.length = r * c) (hs : ∀ n, n ∈ l → -100 ≤ n ∧ n ≤ 100) : RO Tryz.prog 108 [.int .i64 r, .int .i64 c, .sl (iv l)] (.agg [.int .i64 r, .int .i64 c, .sl (rv (roInts l))]) := by
  have hmul : r * c ≤ 24 * 24 := Nat.mul_le_mul hr hc
  have hw : IntKind.i64.wrap ((r : Int) * (c : Int)) = ((r * c : Nat) : Int) := by
    have : ((r : Int) * (c : Int)) = ((r * c : Nat) : Int) := by simp
    rw [this]; exact i64_in (by omega) (by omega)
  refine ro_of2 Tryz.func108 rfl rfl (by rw [Tryz.ntmps108]; simp) fun bl => ?_
  rw [Tryz.ntmps108, Tryz.results108]
  refine AW_runA ?_
  simp
  intro g6 hg6 hb6
  refine AW_runA ?_
  simp
  refine AW_way [(0, .int .i64 r), (1, .int .i64 c), (2, .sl (iv l)), (6, .loc g6 3 0 0)] _ (upd bl g6 (some ⟨3, [[.int .i64 0, .int .i64 0, .nils]]⟩)) 25 (.bool false) (upd bl g6 (some ⟨3, [[.int .i64 0, .int .i64 0, .nils]]⟩)) ⟨rfl, by simp, Sub.refl _⟩ rfl ?_ ?_
  · simp
    refine callP_ro (l01In_ro _ _ _) ?_
    have h1 : (0 : Int) ≤ r := by omega
    have h2 : (r : Int) ≤ 24 := by omega
    simp [h1, h2]
    refine callP_ro (l01In_ro _ _ _) ?_
    have h3 : (0 : Int) ≤ c := by omega
    have h4 : (c : Int) ≤ 24 := by omega
    simp [h3, h4, hw, hl]
  simp
  refine AW_runA ?_
  simp
  intro g7 hg7
  intros
  have h76 : ¬ g7 = g6 := by assumption
  have hb7 : bl g7 = none := by assumption
  try simp [h76, Ne.symm h76]
  refine AW_ghostCell (g := g7) (s := 3) (els := [[.int .i64 r, .int .i64 c, .nils]]) (e := [.int .i64 r, .int .i64 c, .nils]) 0 2 3 (by simp) rfl rfl fun ga hga hne => ?_
  simp [upd_apply] at hga
  obtain ⟨hga7, hga6, hbga⟩ : ga ≠ g7 ∧ ga ≠ g6 ∧ bl ga = none := by grind
  refine AW_run ?_
  simp [h76, Ne.symm h76]
  refine AW_for (fun p : Int × Nat => [(6, .loc g6 3 0 0), (7, .loc g7 3 0 0), (30, .sl (iv l)), (31, .int .i64 l.length), (32, .int .i64 p.2)]) (fun p => upd (upd (upd bl g6 (some ⟨3, [[.int .i64 0, .int .i64 0, .nils]]⟩)) g7 (some ⟨3, [[.int .i64 r, .int .i64 c, .lsl p.1 3 0 p.2]]⟩)) p.1 (some ⟨3, rv (roInts (l.take p.2))⟩))
    (fun p => p.2 ≤ l.length ∧ bl p.1 = none ∧ p.1 ≠ g6 ∧ p.1 ≠ g7 ∧ (0 ≤ p.1 ∨ p.2 = 0)) (fun p => l.length - p.2) _ (ga, 0) ⟨Nat.zero_le _, hbga, hga6, hga7, .inr rfl⟩ ⟨rfl, by simp, sub_eq (by simp [rv, roInts])⟩ ?_
  rintro ⟨g, i⟩ ⟨hi, hbg, n6, n7, hgi⟩
  simp only at hi hbg n6 n7 hgi
  refine AW_run ?_
  simp
  refine ⟨fun h => ?_, fun h => ?_⟩
  · have hb := hs _ (List.getElem_mem h)
    have hI := RatFromInt_ro l[i] (by omega)
    have hrow : (rv (roInts (l.take i))).take i ++ [[.bool (rq (l[i] : Rat)).neg, .sl (iv (rq (l[i] : Rat)).m), .sl (iv (rq (l[i] : Rat)).d)]] = rv (roInts (l.take (i + 1))) := by
      rw [List.take_add_one, List.getElem?_eq_getElem h, Option.toList_some, roInts_append, rv_append, List.take_of_length_le (by simp; omega)]
      rfl
    have hmin : min i l.length = i := by omega
    simp [h]
    refine AW_mixedBT mixedO (upd bl g7 (some ⟨3, [[.int .i64 r, .int .i64 c, .lsl g 3 0 i]]⟩)) (by intro z b hz; simp only [upd_apply] at hz ⊢; grind) [0, 1, 2, 3] 4 7 (by kernel_rfl) ?_
    simp
    refine hcQ_ro hI ?_
    simp [RT.c]
    refine DAny_one (i := 4) (by kernel_rfl) rfl rfl ?_
    simp [n6, Ne.symm n6, n7, Ne.symm n7, h76, Ne.symm h76]
    intro g2 hg2
    intros
    have h2g : ¬ g2 = g := by assumption
    have h27 : ¬ g2 = g7 := by assumption
    have h26 : ¬ g2 = g6 := by assumption
    have hb2 : bl g2 = none := by assumption
    refine ⟨by intro z b hz; simp only [upd_apply] at hz ⊢; grind, DAny_one (i := 5) (by kernel_rfl) rfl rfl ?_⟩
    simp [appV, elsV, Int.not_lt.2 hg2, h2g, Ne.symm h2g, n6, Ne.symm n6, n7, Ne.symm n7, hmin]
    refine ⟨by omega, fun g3 hg3 hb3 => ?_⟩
    have hb3' : bl g3 = none := by grind
    have h37 : ¬ g3 = g7 := by grind
    have h36 : ¬ g3 = g6 := by grind
    have h32 : ¬ g3 = g2 := by grind
    rw [hrow]
    refine ⟨by intro z b hz; simp only [upd_apply, rem_apply] at hz ⊢; grind, DAny_one (i := 6) (by kernel_rfl) rfl rfl ?_⟩
    simp
    refine ⟨by intro z b hz; simp only [upd_apply, rem_apply] at hz ⊢; grind, DAny_last (i := 7) (by kernel_rfl) rfl rfl rfl ?_⟩
    simp [h37, Ne.symm h37, h27, Ne.symm h27, n7, Ne.symm n7, h2g, Ne.symm h2g]
    refine DAny_done (by kernel_rfl) ?_
    simp (disch := omega) [i64_in, loopQ_normal]
    refine ⟨g3, i + 1, ⟨by omega, hb3', h36, h37, .inl hg3⟩, by omega, rfl, by simp, by intro z b hz; simp only [upd_apply, rem_apply] at hz ⊢; grind⟩
  · have hi2 : i = l.length := by omega
    subst hi2
    rw [List.take_length]
    simp [h76, Ne.symm h76, n6, Ne.symm n6, n7, Ne.symm n7]
    have hz := frz_sl3 (bl := upd (upd (upd (upd bl g6 (some ⟨3, [[.int .i64 0, .int .i64 0, .nils]]⟩)) g7 (some ⟨3, [[.int .i64 r, .int .i64 c, .lsl g 3 0 l.length]]⟩)) g (some ⟨3, rv (roInts l)⟩)) g6 (some ⟨3, [[.int .i64 r, .int .i64 c, .lsl g 3 0 l.length]]⟩)) (bl0 := bl) hgi hbg (els := rv (roInts l)) (by simp [n6]) (by simp) (rv_cl _)
    refine retRO [.agg [.int .i64 r, .int .i64 c, .lsl g 3 0 l.length]] 2 (by simp [h76, Ne.symm h76, n6, Ne.symm n6]) ?_ (by intro z b hz; simp only [upd_apply, rem_apply] at hz ⊢; grind)
    show frz _ 2 (.agg _) = _
    rw [frz_agg]
    simp only [List.mapM_cons, List.mapM_nil, hz, show ∀ (B : Int → Option Blk) (n : Int), frz B 1 (.int .i64 n) = some (.int .i64 n) from fun B n => by simp [frz]]
    rfl

theorem spec_EquilibriumMatrix_ro (s : Str) (hj : s.js.length ≤ 140737488351232) (hm : s.ms.length ≤ 140737488351232) (hn : ∀ j, j ∈ s.js → j.name.size ≤ 140737488351232) : RO Tryz.prog 55 [.agg s.c] (.agg (eqMx s).c3) := by
  refine ro_of2 Tryz.func55 rfl rfl (by rw [Tryz.ntmps55]; simp) fun bl => ?_
  rw [Tryz.ntmps55, Tryz.results55]
  refine AW_run ?_
  simp [Str.c]
  intro g hg0 hg g2 hg2 h2g hb2
  try simp [h2g, Ne.symm h2g]
  refine callP_ro (spec_StructureOk_ro s hj hm hn) ?_
  cases hk : sOk s
  · have hz : eqMx s = ⟨0, 0, []⟩ := by unfold eqMx; rw [hk]; rfl
    rw [hz]
    simp
    exact retRO [.agg [.int .i64 0, .int .i64 0, .nils]] 1 (by simp) (by simp [frz, MX.c3, V.cl, rv]) (by simp [hg, hb2])
  have hs := sOk_of hk
  obtain ⟨hsm, hlen⟩ := eqRows_small hs
  have hrl := eqRows_length s
  have hnj := hs.nj
  have hnm := hs.nm
  have hfl := freesTo_le s.js s.js.length
  change (frees s.js).length ≤ s.js.length at hfl
  have hz : eqMx s = ⟨(eqRows s).length, s.ms.length, roInts (rowsF s)⟩ := by unfold eqMx; rw [hk]; rfl
  have hw : IntKind.i64.wrap (2 * ((frees s.js).length : Int)) = (((eqRows s).length : Nat) : Int) := by
    rw [hrl, i64_in (by omega) (by omega)]; simp
  have hM := MatrixOf_ro (eqRows s).length s.ms.length (rowsF s) (by omega) (by omega) (by rw [rowsF_len, hrl]) (fun n hn => by
    rw [← eqRows_flat] at hn
    obtain ⟨w, hw, hn⟩ := List.mem_flatten.1 hn
    exact hsm w hw n hn)
  rw [hz]
  simp
  refine AW_mixedB mixedO (upd bl g (some ⟨2, [s.c]⟩)) (by (try simp only [Str.c]); intro z b hz; simp only [upd_apply, rem_apply] at hz ⊢; grind) [0, 1, 2, 3, 4, 5, 6, 7, 8, 9] 1 (by kernel_rfl) ?_
  simp [Str.c, h2g, Ne.symm h2g]
  refine hcQ_ro (l12Free_ro s (by omega)) ?_
  simp [Str.c, hw]
  refine hcQ_ro (l14Rows_ro s hs) ?_
  simp
  refine hcQ_ro hM ?_
  simp
  refine DAny_one (i := 10) (by kernel_rfl) rfl rfl ?_
  simp [h2g, Ne.symm h2g]
  refine ⟨by (try simp only [Str.c]); intro z b hz; simp only [upd_apply, rem_apply] at hz ⊢; grind, DAny_done (by kernel_rfl) ?_⟩
  simp
  exact retRO [.agg [.int .i64 (eqRows s).length, .int .i64 s.ms.length, .sl (rv (roInts (rowsF s)))]] 1 (by simp) (by simp [frz, MX.c3, V.cl]) (by simp [hg, hb2])

/-! ### Matrices in the laws -/
def MX.fit (m : MX) : Prop := fitQ m.cells 1048576 ∧ sumQ m.cells ≤ 100000000
theorem eqMx_fit (s : Str) (hm : s.ms.length ≤ 1048576) : (eqMx s).fit := by
  unfold eqMx
  split
  · rename_i hk
    have hs := sOk_of hk
    obtain ⟨hsm, hlen⟩ := eqRows_small hs
    have hnj := hs.nj
    have hnm := hs.nm
    have hfl := freesTo_le s.js s.js.length
    change (frees s.js).length ≤ s.js.length at hfl
    have hrf := rowsF_len s
    have hmul : 2 * (frees s.js).length * s.ms.length ≤ 12 * 8 := Nat.mul_le_mul (by omega) hnm
    have h1 : okL ((rowsF s).map fun (n : Int) => some (n : Rat)) := by
      intro x hx
      obtain ⟨n, hn, rfl⟩ := List.mem_map.1 hx
      rw [← eqRows_flat] at hn
      obtain ⟨w, hw, hn⟩ := List.mem_flatten.1 hn
      have := hsm w hw n hn
      exact okQ_int (by omega)
    have h2 := stQ_fit h1 (by rw [List.length_map]; omega)
    have h3 : stQ ((rowsF s).map fun (n : Int) => some (n : Rat)) = roInts (rowsF s) := by
      unfold stQ
      rw [if_pos (by simp [allSome])]
      simp [roAll, roInts]
    rw [h3] at h2
    exact h2
  · exact ⟨⟨by simp, fun r hr => by cases hr⟩, by simp [sumQ]⟩
def mkMx (k : Nat) (m : MX) : MX := ⟨m.r, m.c, mkQs k m.cells⟩
theorem frz_mx {bl : Int → Option Blk} {m : MX} {vs : List V} {gs : List Int} (h : OwnL bl (dMx m) vs gs) (n : Nat) : frz bl (n + 3) (.agg vs) = some (.agg m.c3) := by
  obtain ⟨w, rfl, ow⟩ := own_mx.1 h
  have hz := frz_rs ow n
  rw [frz_agg]
  simp only [List.mapM_cons, List.mapM_nil, hz, show ∀ (B : Int → Option Blk) (k : Nat) (n : Int), frz B k (.int .i64 n) = some (.int .i64 n) from fun B k n => by cases k <;> simp [frz]]
  rfl
theorem dMx_sc (m : MX) : (D.a (dMx m)).sc = true := by simp [D.sc, dMx, D.scL, dRs_sc, V.ow]
theorem impl_EquilibriumMatrix_ro (s : Str) (hj : s.js.length ≤ 140737488351232) (hm : s.ms.length ≤ 140737488351232) (hn : ∀ j, j ∈ s.js → j.name.size ≤ 140737488351232) : RO Tryz.prog 12 [.agg s.c] (.agg (eqMx s).c3) := by
  have := ro_of_nw 3 (impl_EquilibriumMatrix_nw s hj hm hn) (by rw [D.dep]; exact ⟨by omega, by simp [dMx, D.depL, D.dep, dRs_dep]⟩)
  rwa [D.fz, show D.fzL (dMx (eqMx s)) = (eqMx s).c3 by simp [dMx, D.fzL, D.fz, dRs_fz, MX.c3]] at this

end Go.Proofs.YtmbcofnnibpbeaaGreat.Vm

namespace Go.Proofs.YtmbcofnnibpbeaaGreat.Vm
open Go Go.Proofs
set_option linter.unusedSimpArgs false
set_option linter.unusedVariables false

theorem open1_ro (L : List (Option Rat)) (r c : Nat) (cells : List V) (hL : L.length = r * c) (hr : r ≤ 24) (hc : c ≤ 24) (i k : Nat) (hi : i < r) (hk : k < c) (x : V) : RO Tryz.prog 86 [.int .i64 i, .int .i64 k, .ptr [.sl (fvs L)], .ptr [.int .i64 r, .int .i64 c, x]] (fv (L.getD (i * c + k) none)) := by
  have hlt : i * c + k < r * c := by
    have h1 : (i + 1) * c ≤ r * c := Nat.mul_le_mul_right _ hi
    rw [Nat.add_mul, Nat.one_mul] at h1; omega
  have hm : r * c ≤ 24 * 24 := Nat.mul_le_mul hr hc
  have e0 : (i : Int) * (c : Int) = ((i * c : Nat) : Int) := (Int.natCast_mul i c).symm
  obtain ⟨t, ht⟩ : ∃ t, i * c + k = t := ⟨_, rfl⟩
  have w1 : IntKind.i64.wrap ((i : Int) * (c : Int)) = (i : Int) * (c : Int) := i64_in (by omega) (by omega)
  have w2 : IntKind.i64.wrap ((i : Int) * (c : Int) + (k : Int)) = (t : Int) := by rw [i64_in (by omega) (by omega)]; omega
  have hlt2 : t < L.length := by omega
  rw [ht, getD_at _ _ _ hlt2]
  refine ro_of2 Tryz.func86 rfl rfl (by rw [Tryz.ntmps86]; simp) fun bl => ?_
  rw [Tryz.ntmps86, Tryz.results86]
  refine AW_run ?_
  simp [w1, w2, hlt2]
  exact retRO [fv L[t]] 0 (by simp) (frz_cl (fv_cl _)) (Sub.refl _)
theorem open_ro (m : MX) (r c : Nat) (h1 : m.r = r) (h2 : m.c = c) (hr : r ≤ 24) (hc : c ≤ 24) (hl : m.cells.length = r * c) (ha : allOk m.cells = true) (hq : fitQ m.cells 1048576) : RO Tryz.prog 40 [.agg m.c3] (.tup [.agg [.int .i64 r, .int .i64 c, .sl (gv (gridOf r c fun i k => (rdAll m.cells).getD (i * c + k) none))], .bool true]) := by
  have hL := loads_ro m.cells hq
  rw [ha] at hL
  have hm : r * c ≤ 24 * 24 := Nat.mul_le_mul hr hc
  have e0 : (r : Int) * (c : Int) = ((r * c : Nat) : Int) := (Int.natCast_mul r c).symm
  have w1 : IntKind.i64.wrap ((r : Int) * (c : Int)) = ((r * c : Nat) : Int) := by rw [e0]; exact i64_in (by omega) (by omega)
  have hG := ro_of_nw 3 (newGrid_nw r c (by omega) (by omega) 86 [.ptr [.sl (fvs (rdAll m.cells))], .ptr [.int .i64 r, .int .i64 c, .sl (rv m.cells)]] (fun i k => (rdAll m.cells).getD (i * c + k) none) (fun i k hi hk => open1_ro (rdAll m.cells) r c [] (by simpa using hl) hr hc i k hi hk _)) (dG_dep _ _ _)
  rw [dG_fz] at hG
  have ec : m.c3 = [.int .i64 r, .int .i64 c, .sl (rv m.cells)] := by unfold MX.c3; rw [h1, h2]
  rw [ec]
  refine ro_of2 Tryz.func40 rfl rfl (by rw [Tryz.ntmps40]; simp) fun bl => ?_
  rw [Tryz.ntmps40, Tryz.results40]
  refine AW_runA ?_
  simp
  intro g hg0 hg g2 hg2 h2g hb2
  refine AW_frzAt 1 1 (.ptr [.int .i64 r, .int .i64 c, .sl (rv m.cells)]) (upd bl g2 (some ⟨3, [[.int .i64 0, .int .i64 0, .nils]]⟩)) (by intro z b hz; simp only [upd_apply] at hz ⊢; grind) (by simp [frz, dropB, hg, h2g, Ne.symm h2g, V.cl]) ?_
  refine AW_runA ?_
  simp
  refine AW_way0 [(1, .ptr [.int .i64 r, .int .i64 c, .sl (rv m.cells)]), (2, .loc g2 3 0 0), (3, .bool false)] _ (upd bl g2 (some ⟨3, [[.int .i64 0, .int .i64 0, .nils]]⟩)) 34 (.bool false) ⟨rfl, by simp, Sub.refl _⟩ rfl ?_ ?_
  · have n1 : ¬ (r : Int) < 0 := by omega
    have n2 : ¬ (24 : Int) < r := by omega
    have n3 : ¬ (c : Int) < 0 := by omega
    have n4 : ¬ (24 : Int) < c := by omega
    simp [n1, n2, n3, n4, w1, hl]
  simp
  refine AW_runA ?_
  simp
  refine callP_ro hL ?_
  simp
  intro g4 hg4 h42 hb4
  refine AW_frzAt 1 4 (.ptr [.sl (fvs (rdAll m.cells))]) (upd bl g2 (some ⟨3, [[.int .i64 0, .int .i64 0, .nils]]⟩)) (by intro z b hz; simp only [upd_apply] at hz ⊢; grind) (by simp [frz, dropB, hb4, h42, Ne.symm h42, V.cl]) ?_
  refine AW_run ?_
  simp
  refine callP_ro hG ?_
  simp
  exact retRO [.agg [.int .i64 r, .int .i64 c, .sl (gv (gridOf r c fun i k => (rdAll m.cells).getD (i * c + k) none))], .bool true] 2 (by simp) (by simp [frz, V.cl]) (by simp [hb2])

theorem inner_ro (a b : List (Option Rat)) (ha : okL a) (hb : okL b) (hl : a.length ≤ b.length) (hn : a.length ≤ 1000000) : RO Tryz.prog 88 [.sl (fvs a), .sl (fvs b)] (fv (inTo a b a.length)) := by
  have w0 := whole_ro 0 (by omega)
  rw [zero_cast] at w0
  refine ro_of2 Tryz.func88 rfl rfl (by rw [Tryz.ntmps88]; simp) fun bl => ?_
  rw [Tryz.ntmps88, Tryz.results88]
  refine AW_run ?_
  simp
  refine callP_ro w0 ?_
  simp
  refine AW_for (fun i : Nat => [(0, .sl (fvs a)), (1, .sl (fvs b)), (5, fv (inTo a b i)), (9, .int .i64 a.length), (10, .int .i64 i)]) (fun _ => bl) (fun i => i ≤ a.length) (fun i => a.length - i) _ 0 (Nat.zero_le _) ⟨rfl, by simp [inTo], Sub.refl _⟩ ?_
  intro i hi
  have wi : IntKind.i64.wrap ((i : Int) + 1) = (i : Int) + 1 := i64_in (by omega) (by omega)
  refine AW_run ?_
  simp
  refine ⟨fun h => ?_, fun h => ?_⟩
  · have h2 : i < b.length := by omega
    have e1 : inTo a b (i + 1) = op2 (· + ·) (inTo a b i) (op2 (· * ·) a[i] b[i]) := by rw [inTo, getD_at _ _ _ h, getD_at _ _ _ h2]
    have hA := add_ro _ _ (inTo_ok a b i) (okQ_op2 (· * ·) a[i] b[i])
    rw [← e1] at hA
    refine AW_quiet mixedO (by kernel_rfl) ?_
    simp [h, h2]
    refine hcQ_ro (mul_ro a[i] b[i] (ha _ (List.getElem_mem h)) (hb _ (List.getElem_mem h2))) ?_
    simp
    refine hcQ_ro hA ?_
    simp [wi, loopQ_normal]
    exact ⟨i + 1, by omega, by omega, rfl, by simp, Sub.refl _⟩
  · have hi2 : i = a.length := by omega
    subst hi2
    exact retRO [fv (inTo a b a.length)] 0 (by simp) (frz_cl (fv_cl _)) (Sub.refl _)
def appl (cells : List (List (Option Rat))) (v : List (Option Rat)) : List (Option Rat) := cells.map fun row => inTo row v row.length
theorem applied_ro (cells : List (List (Option Rat))) (c : Nat) (v : List (Option Rat)) (hn : cells.length ≤ 1000) (hv : okL v) (hc : ∀ w, w ∈ cells → okL w ∧ w.length = c) (hl : c ≤ v.length) (hc2 : c ≤ 1000000) : RO Tryz.prog 43 [.agg [.int .i64 cells.length, .int .i64 c, .sl (gv cells)], .sl (fvs v)] (.sl (fvs (appl cells v))) := by
  refine ro_of2 Tryz.func43 rfl rfl (by rw [Tryz.ntmps43]; simp) fun bl => ?_
  rw [Tryz.ntmps43, Tryz.results43]
  refine AW_runA ?_
  simp
  intro g hg0 hg
  refine AW_frzAt 1 2 (.ptr [.int .i64 cells.length, .int .i64 c, .sl (gv cells)]) bl (by simp [hg]) (by simp [frz, dropB, hg, gv, V.cl, fvs_cl]) ?_
  refine AW_run ?_
  simp
  refine ⟨by omega, by unfold maxLen; omega, fun g5 hg5 hb5 => ?_⟩
  refine AW_for (fun i : Nat => [(1, .sl (fvs v)), (2, .ptr [.int .i64 cells.length, .int .i64 c, .sl (gv cells)]), (5, .lsl g5 1 0 cells.length), (11, .int .i64 cells.length), (12, .int .i64 i)]) (fun i => upd bl g5 (some ⟨1, part (fvs (appl cells v)) [.nilp] i⟩)) (fun i => i ≤ cells.length) (fun i => cells.length - i) _ 0 (Nat.zero_le _) ⟨rfl, by simp, sub_eq (by simp [appl])⟩ ?_
  intro i hi
  have wi : IntKind.i64.wrap ((i : Int) + 1) = (i : Int) + 1 := i64_in (by omega) (by omega)
  refine AW_run ?_
  simp
  refine ⟨fun h => ?_, fun h => ?_⟩
  · have hi' : i < (fvs (appl cells v)).length := by simp [appl]; exact h
    have hpl : i < (part (fvs (appl cells v)) [.nilp] i).length := by simp [part, appl]; omega
    have hpi : (part (fvs (appl cells v)) [.nilp] i)[i]? = some [.nilp] := part_get _ _ _ hi'
    have hpe : (part (fvs (appl cells v)) [.nilp] i)[i] = [.nilp] := by
      rw [List.getElem?_eq_getElem hpl] at hpi; exact Option.some.inj hpi
    have hset : (part (fvs (appl cells v)) [.nilp] i).set i [fv (inTo cells[i] v cells[i].length)] = part (fvs (appl cells v)) [.nilp] (i + 1) := by
      rw [part_set _ _ _ hi']
      simp [appl]
    obtain ⟨q1, q2⟩ := hc _ (List.getElem_mem h)
    have hI := inner_ro cells[i] v q1 hv (by omega) (by omega)
    simp [h]
    refine callP_ro hI ?_
    simp [h, hpl, hpe, wi, loopQ_normal]
    refine ⟨i + 1, by omega, by omega, rfl, by simp, ?_⟩
    intro z y hz
    simp only [upd_apply, hset] at hz ⊢
    grind
  · have hi2 : i = cells.length := by omega
    subst hi2
    rw [part_all _ _ _ (by simp [appl])]
    exact retRO [.lsl g5 1 0 cells.length] 1 (by simp) (frz_slice (sz := 1) (n := cells.length) hg5 hb5 (els := fvs (appl cells v)) (by simp) (by simp [appl]) (fvs_cl _)) (by simp [hb5])
end Go.Proofs.YtmbcofnnibpbeaaGreat.Vm
