/- The force program of the reference. -/
import Derived.Test.YtpkphjoobeacfaaK39
namespace Go.Proofs.Ytpkphjoobeacfaa.Vm
open Go Go.Proofs
set_option linter.unusedSimpArgs false
set_option linter.unusedVariables false

/-- A linear program. -/
structure Pg where
  rows : Int
  cols : Int
  a : List Int
  b : List Int
  c : List Int
def Pg.v (p : Pg) : List V := [.int .i64 p.rows, .int .i64 p.cols, .sl (iv p.a), .sl (iv p.b), .sl (iv p.c)]
def nR (s : Str) : Nat := 2 * (frees s.js).length
def nC (s : Str) : Nat := (cols s.ms).length
def colAt (s : Str) (c : Nat) : Int × Int := (cols s.ms).getD c (0, 0)
def ent (s : Str) (i c : Nat) : Int := (colAt s c).2 * lat (rowsF s) (i * s.ms.length + (colAt s c).1.toNat)
def aTo (s : Str) (n : Nat) : List Int := (List.range n).map fun t => ent s (t / nC s) (t % nC s)
def fprog (s : Str) (l : List Int) : Pg := ⟨nR s, nC s, aTo s (nR s * nC s), right s l, List.replicate (nC s) 0⟩
@[simp] theorem aTo_length (s : Str) (n : Nat) : (aTo s n).length = n := by simp [aTo]
theorem aTo_succ (s : Str) (i c : Nat) (h : c < nC s) : aTo s (i * nC s + c + 1) = aTo s (i * nC s + c) ++ [ent s i c] := by
  unfold aTo
  rw [List.range_succ, List.map_append]
  congr 1
  simp only [List.map_cons, List.map_nil]
  rw [Nat.mul_comm i, Nat.mul_add_div (by omega), Nat.mul_add_mod, Nat.div_eq_of_lt h, Nat.mod_eq_of_lt h, Nat.add_zero]

theorem rowsF_length (s : Str) : (rowsF s).length = nR s * s.ms.length := by
  have e : rowsF s = rowsTo s (frees s.js).length := by simp [rowsF, rowsTo]
  rw [e, rowsTo_length s _ (Nat.le_refl _), nR, Nat.mul_right_comm]
theorem cols_mem {ms : List Mb} {n : Nat} {p : Int × Int} (h : p ∈ colsTo ms n) : (0 ≤ p.1 ∧ p.1 < n) ∧ (p.2 = 1 ∨ p.2 = -1) := by
  unfold colsTo at h
  obtain ⟨k, hk, hp⟩ := List.mem_flatMap.1 h
  have := List.mem_range.1 hk
  unfold colK at hp
  rcases List.mem_append.1 hp with hp | hp <;> split at hp <;> simp at hp <;> subst hp <;> simp <;> omega
theorem colAt_ok (s : Str) (c : Nat) (h : c < nC s) : (0 ≤ (colAt s c).1 ∧ (colAt s c).1 < s.ms.length) ∧ ((colAt s c).2 = 1 ∨ (colAt s c).2 = -1) := by
  unfold nC at h
  have : colAt s c = (cols s.ms)[c] := by simp [colAt, h]
  rw [this]
  exact cols_mem (List.getElem_mem h)
theorem who_at (s : Str) (c : Nat) (h : c < nC s) : (iv (who s))[c]? = some [.int .i64 (colAt s c).1] := by
  unfold nC at h
  simp [who, colAt, h, iv]
theorem sgn_at (s : Str) (c : Nat) (h : c < nC s) : (iv (sgn s))[c]? = some [.int .i64 (colAt s c).2] := by
  unfold nC at h
  simp [sgn, colAt, h, iv]
theorem rowsF_le {s : Str} (hs : SOk s) (n : Nat) : -100 ≤ lat (rowsF s) n ∧ lat (rowsF s) n ≤ 100 := by
  have key : ∀ x, x ∈ rowsF s → -100 ≤ x ∧ x ≤ 100 := by
    intro x hx
    unfold rowsF at hx
    obtain ⟨j, _, hx⟩ := List.mem_flatMap.1 hx
    rcases List.mem_append.1 hx with hx | hx
    · obtain ⟨m, hm, rfl⟩ := List.mem_map.1 hx
      have := v_le hs hm
      unfold eqX; split
      · omega
      · split <;> omega
    · obtain ⟨m, hm, rfl⟩ := List.mem_map.1 hx
      have := v_le hs hm
      unfold eqY; split
      · omega
      · split <;> omega
  unfold lat
  rw [List.getD_eq_getElem?_getD]
  cases h : (rowsF s)[n]? with
  | none => simp
  | some x => exact key x (List.mem_of_getElem? h)

/-- AW_mixedB where the last operations may store. -/
theorem AW_mixedBT {P : Program} {id : Nat} {ops : Array Oper} {K : Ex → St → Prop} {σ : St} (hm : P.follows .mixedOrders = true) (blK : Int → Option Blk) (hs : Sub blK σ.bl) (is : List Nat) (fuel n : Nat) (hn : (ops.size == fuel + is.length && is.all (fun i => decide (i < ops.size)) && hoistB ops is (Array.replicate ops.size false) && tailB ops (fun j => decide (n ≤ j)) is) = true)
    (h : HoistF P (ops.toList.map (·.dst)) blK (is.filterMap fun i => ops[i]?) (DAny P ops blK (fun j => decide (n ≤ j)) (K .normal) fuel (setAll is (Array.replicate ops.size false))) σ) : AW P (.region id ops true) K σ := by
  simp only [Bool.and_eq_true, beq_iff_eq] at hn
  exact AW_draw_mixed hm is fuel blK hs hn.1.1.1 hn.1.2 (tl := fun j => decide (n ≤ j)) (tailB_spec hn.2) (Hoist_is _ is σ (filter_some is hn.1.1.2) h)

structure PS where
  n : Nat
  g : Int
  b : Int → Option Blk
structure PI (bl : Int → Option Blk) (s : Str) (l : List Int) (gr gp gc : Int) (p : PS) : Prop where
  hr : p.b gr = some ⟨5, [[.int .i64 0, .int .i64 0, .nils, .nils, .nils]]⟩
  hp : p.b gp = some ⟨5, [[.int .i64 (nR s), .int .i64 (nC s), .lsl p.g 1 0 p.n, .sl (iv (right s l)), .lsl gc 1 0 (nC s)]]⟩
  hc : p.b gc = some ⟨1, iv (List.replicate (nC s) 0)⟩
  ha : p.b p.g = some ⟨1, iv (aTo s p.n)⟩
  pr : p.g ≠ gr
  pp : p.g ≠ gp
  pc : p.g ≠ gc
  f : bl p.g = none
  sub : Sub bl p.b
  neg : p.g < 0 → aTo s p.n = []

set_option maxHeartbeats 2000000 in
theorem l15Program_ro (s : Str) (l : List Int) (hL : LOk s l) : RO Try.prog 118 [.agg s.c, .sl (iv l)] (.agg (fprog s l).v) := by
  have hs := hL.sok
  have h6 := hs.nj
  have h8 := hs.nm
  have hfr := freesTo_le s.js s.js.length
  change (frees s.js).length ≤ s.js.length at hfr
  have hcn : nC s ≤ 2 * s.ms.length := colsTo_le s.ms s.ms.length
  have hrn : nR s ≤ 12 := by unfold nR; omega
  have ew : (who s).length = nC s := by simp [who, nC]
  have w0 : IntKind.i64.wrap (2 * ((frees s.js).length : Int)) = (nR s : Int) := by rw [i64_in (by omega) (by omega)]; unfold nR; omega
  refine ro_of2 Try.func118 rfl rfl (by rw [Try.ntmps118]; simp) fun bl => ?_
  rw [Try.ntmps118, Try.results118]
  refine AW_run ?_
  simp [Str.c]
  intro gs hgs0 hgs gr hgr0 hgrs hbr
  simp [hgrs, Ne.symm hgrs]
  refine callP_ro (l15Columns_ro s (by omega)) ?_
  simp [hgrs, Ne.symm hgrs]
  refine callP_ro (l14Rows_ro s hs) ?_
  simp [hgrs, Ne.symm hgrs]
  refine AW_mixed mixedO [0, 1, 2, 3, 4, 5, 6, 7, 8, 9, 10] 4 (by kernel_rfl) ?_
  simp [hgrs, Ne.symm hgrs]
  refine hcQ_ro (l12Free_ro s (by omega)) ?_
  simp [hgrs, Ne.symm hgrs, w0]
  refine hcQ_ro (l15Right_ro s l hL) ?_
  simp [ew]
  refine DAny_two (i := 11) (j := 13) (by kernel_rfl) rfl rfl rfl rfl ?_ ?_
  · simp
    refine ⟨by omega, by unfold maxLen; omega, fun gc hgc hcr hcs hbc => ⟨by simp [hcs, hcr, hbc], ?_⟩⟩
    refine DAny_two (i := 12) (j := 13) (by kernel_rfl) rfl rfl rfl rfl ?_ ?_
    · simp
      refine ⟨by simp [hcs, hcr, hbc], DAny_one (i := 13) (by kernel_rfl) rfl rfl ?_⟩
      simp
      intro gp hgp hpc hpr hps hbp
      refine ⟨by simp [hcs, hcr, hbc, hpc, hpr, hps, hbp], DAny_one (i := 14) (by kernel_rfl) rfl rfl ?_⟩
      simp
      refine ⟨by simp [hcs, hcr, hbc, hpc, hpr, hps, hbp], DAny_done (by kernel_rfl) ?_⟩
      simp [Str.c]
      refine AW_ghostCell (g := gp) 0 2 1 (s := 5) (els := [[.int .i64 (nR s), .int .i64 (nC s), .nils, .sl (iv (right s l)), .lsl gc 1 0 (nC s)]]) (by simp) rfl rfl fun ga hga hgap => ?_
      have hga' : bl ga = none ∧ ga ≠ gr ∧ ga ≠ gc := by simp [hgap] at hga; grind
      obtain ⟨hba, har, hac⟩ := hga'
      clear hga
      refine AW_for (fun p : Nat × PS => [(4, .loc gr 5 0 0), (5, .sl (iv (who s))), (6, .sl (iv (sgn s))), (7, .int .i64 s.ms.length), (8, .sl (iv (rowsF s))), (9, .loc gp 5 0 0), (10, .int .i64 p.1)]) (fun p => p.2.b) (fun p => p.1 ≤ nR s ∧ p.2.n = p.1 * nC s ∧ PI bl s l gr gp gc p.2) (fun p => nR s - p.1) 69 (0, ⟨0, ga, _⟩) ⟨Nat.zero_le _, by simp, ⟨?_, ?_, ?_, ?_, har, hgap, hac, hba, ?_, fun _ => rfl⟩⟩ ⟨rfl, by simp, sub_eq rfl⟩ ?_
      · simp [Ne.symm har, hpr, Ne.symm hpr, hcr, Ne.symm hcr]
      · simp [Ne.symm hgap]
      · simp [Ne.symm hac, hpc, Ne.symm hpc, iv]
      · simp [aTo, iv]
      · simp [hgs, hbr, hbc, hbp, hba]
      rintro ⟨i, n, g, b⟩ ⟨hi, hn, P⟩
      simp only at hi hn
      subst hn
      have hP := P.hp
      simp only at hP
      refine AW_run ?_
      simp [hP]
      refine ⟨fun h => ?_, fun h => ?_⟩
      · simp [ew]
        refine AW_for (fun p : Nat × PS => [(4, .loc gr 5 0 0), (5, .sl (iv (who s))), (6, .sl (iv (sgn s))), (7, .int .i64 s.ms.length), (8, .sl (iv (rowsF s))), (9, .loc gp 5 0 0), (10, .int .i64 i), (42, .sl (iv (who s))), (43, .int .i64 (nC s)), (44, .int .i64 p.1)]) (fun p => p.2.b) (fun p => p.1 ≤ nC s ∧ p.2.n = i * nC s + p.1 ∧ PI bl s l gr gp gc p.2) (fun p => nC s - p.1) 69 (0, ⟨i * nC s, g, b⟩) ⟨Nat.zero_le _, rfl, P⟩ ⟨rfl, by simp, sub_eq rfl⟩ ?_
        rintro ⟨c, n, g, b⟩ ⟨hc, hn, P⟩
        simp only at hc hn
        subst hn
        obtain ⟨hr, hp, hcc, ha, npr, npp, npc, hf, hsub, hneg⟩ := P
        simp only at hr hp hcc ha npr npp npc hf hsub hneg
        refine AW_run ?_
        simp
        refine ⟨fun hcl => ?_, fun hcl => ?_⟩
        · have qw := who_at s c hcl
          have qs := sgn_at s c hcl
          obtain ⟨⟨k0, k1⟩, k2⟩ := colAt_ok s c hcl
          simp [-iv_get, qw]
          obtain ⟨⟨k, sg⟩, hk⟩ : ∃ k, colAt s c = k := ⟨_, rfl⟩
          rw [hk] at qw qs k0 k1 k2 ⊢
          simp only at qw qs k0 k1 k2 ⊢
          have m1 : i * s.ms.length ≤ 12 * 8 := Nat.mul_le_mul (by omega) (by omega)
          have mi : ((i * s.ms.length : Nat) : Int) = (i : Int) * s.ms.length := by simp
          have w1 : IntKind.i64.wrap ((i : Int) * s.ms.length) = (i : Int) * s.ms.length := i64_in (by omega) (by omega)
          have w2 : IntKind.i64.wrap ((i : Int) * s.ms.length + k) = (i : Int) * s.ms.length + k := i64_in (by omega) (by omega)
          have e1 : ((i : Int) * s.ms.length + k).toNat = i * s.ms.length + k.toNat := by omega
          have ei : i * s.ms.length + k.toNat < (rowsF s).length := by
            rw [rowsF_length]
            have : (i + 1) * s.ms.length ≤ nR s * s.ms.length := Nat.mul_le_mul_right _ h
            rw [Nat.add_mul] at this; omega
          have qr := iv_at ei
          rw [← e1] at qr
          have bd := rowsF_le hs (i * s.ms.length + k.toNat)
          rw [← e1] at bd
          have en : ent s i c = sg * lat (rowsF s) ((i : Int) * s.ms.length + k).toNat := by unfold ent; rw [hk, e1]
          have w3 : IntKind.i64.wrap (sg * lat (rowsF s) ((i : Int) * s.ms.length + k).toNat) = ent s i c := by
            rw [en]; rcases k2 with rfl | rfl <;> exact i64_in (by omega) (by omega)
          have p1 : 0 ≤ (i : Int) * s.ms.length + k := by omega
          have hK : Sub (upd bl gp (some ⟨5, [[.int .i64 (nR s), .int .i64 (nC s), .lsl g 1 0 (i * nC s + c), .sl (iv (right s l)), .lsl gc 1 0 (nC s)]]⟩)) b := fun x y hx => by
            rw [upd_apply] at hx
            split at hx
            · rename_i e; rw [e, hp]; exact hx
            · exact hsub x y hx
          have mc : (i + 1) * nC s ≤ 12 * 16 := Nat.mul_le_mul (by omega) (by omega)
          rw [Nat.add_mul] at mc
          have tka : (iv (aTo s (i * nC s + c))).take (i * nC s + c) = iv (aTo s (i * nC s + c)) := List.take_of_length_le (by simp)
          refine AW_mixedBT mixedO _ hK [0, 1, 2, 3, 4, 5, 6, 7, 8, 9, 10, 11, 12, 13, 14] 4 18 (by kernel_rfl) ?_
          simp [-iv_get, w1, w2, w3, qs, qr, p1]
          refine DAny_one (i := 15) (by kernel_rfl) rfl rfl ?_
          simp
          intro g2 hg2 hb2
          have n2g : g2 ≠ g := fun e => by rw [e, ha] at hb2; cases hb2
          have n2p : g2 ≠ gp := fun e => by rw [e, hp] at hb2; cases hb2
          have hS : ∀ (u : Int) (B : Int → Option Blk), u ≠ gp → bl u = none → (∀ x y, x ≠ g → x ≠ g2 → x ≠ u → b x = some y → B x = some y) → Sub (upd bl gp (some ⟨5, [[.int .i64 (nR s), .int .i64 (nC s), .lsl g 1 0 (i * nC s + c), .sl (iv (right s l)), .lsl gc 1 0 (nC s)]]⟩)) B := by
            intro u B hu hbu hB x y hx
            refine hB x y ?_ ?_ ?_ (hK x y hx)
            · intro e; rw [e, upd_apply, if_neg npp, hf] at hx; cases hx
            · intro e; have := hK x y hx; rw [e, hb2] at this; cases this
            · intro e; rw [e, upd_apply, if_neg hu, hbu] at hx; cases hx
          refine ⟨hS g _ npp hf (fun x y h1 h2 h3 hx => by simp [h2, hx]), DAny_one (i := 16) (by kernel_rfl) rfl rfl ?_⟩
          simp [n2g, Ne.symm n2g, ha, tka, appV, elsV, Int.not_lt.2 hg2]
          refine ⟨by omega, fun g3 hg3 hb3 => ?_⟩
          have n3p : g3 ≠ gp := by grind
          have n3r : g3 ≠ gr := by grind
          have n3c : g3 ≠ gc := by grind
          have f3 : bl g3 = none := by
            by_cases e : g3 = g
            · rw [e]; exact hf
            · exact fresh_of hsub (hb3 e).2
          have n2r : g2 ≠ gr := fun e => by rw [e, hr] at hb2; cases hb2
          have n2c : g2 ≠ gc := fun e => by rw [e, hcc] at hb2; cases hb2
          refine ⟨hS g3 _ n3p f3 (fun x y h1 h2 h3 hx => by simp [h1, h2, h3, hx]), DAny_one (i := 17) (by kernel_rfl) rfl rfl ?_⟩
          simp
          refine ⟨hS g3 _ n3p f3 (fun x y h1 h2 h3 hx => by simp [h1, h2, h3, hx]), DAny_last (i := 18) (by kernel_rfl) rfl rfl rfl ?_⟩
          simp [n3p, Ne.symm n3p, n2p, Ne.symm n2p, npp, Ne.symm npp, hp]
          refine DAny_done (by kernel_rfl) ?_
          have w4 : IntKind.i64.wrap ((c : Int) + 1) = c + 1 := i64_in (by omega) (by omega)
          simp [w4, loopQ_normal]
          refine ⟨c + 1, ⟨i * nC s + c + 1, g3, _⟩, ⟨by omega, rfl, ⟨?_, ?_, ?_, ?_, n3r, n3p, n3c, f3, ?_, fun e => by simp only at e; omega⟩⟩, by omega, rfl, by simp, sub_eq rfl⟩
          · simp [n3r, Ne.symm n3r, n2r, Ne.symm n2r, npr, Ne.symm npr, hpr, Ne.symm hpr, hr]
          · simp
          · simp [n3c, Ne.symm n3c, n2c, Ne.symm n2c, npc, Ne.symm npc, hpc, Ne.symm hpc, hcc]
          · simp [n3p, aTo_succ s i c hcl, iv_append, iv_one]
          · intro x y hx
            have h1 : x ≠ g := fun e => by rw [e, hf] at hx; cases hx
            have h2 : x ≠ g2 := fun e => by have := hsub x y hx; rw [e, hb2] at this; cases this
            have h3 : x ≠ g3 := fun e => by rw [e, f3] at hx; cases hx
            have h4 : x ≠ gp := fun e => by rw [e, hbp] at hx; cases hx
            simp [h1, h2, h3, h4, hsub x y hx]
        · have : c = nC s := by omega
          subst this
          have w5 : IntKind.i64.wrap ((i : Int) + 1) = i + 1 := i64_in (by omega) (by omega)
          simp [w5, loopQ_normal]
          refine ⟨i + 1, ⟨i * nC s + nC s, g, b⟩, ⟨by omega, by rw [Nat.add_mul]; simp, ⟨hr, hp, hcc, ha, npr, npp, npc, hf, hsub, hneg⟩⟩, by omega, rfl, by simp, sub_eq rfl⟩
      · have : i = nR s := by omega
        subst this
        have hR := P.hr
        simp only at hR
        simp [hR]
        obtain ⟨hr, hp, hcc, ha, npr, npp, npc, hf, hsub, hneg⟩ := P
        simp only at hr hp hcc ha npr npp npc hf hsub hneg
        generalize hB : upd b gr (some ⟨5, [[.int .i64 (nR s), .int .i64 (nC s), .lsl g 1 0 (nR s * nC s), .sl (iv (right s l)), .lsl gc 1 0 (nC s)]]⟩) = B
        have oa : OwnD (dropB B bl) (fl 1 (iv (aTo s (nR s * nC s)))) (.lsl g 1 0 (nR s * nC s)) [g] := own_iv.2 (.inr ⟨g, by simp, rfl, by unfold dropB; rw [hf, ← hB]; simp [npr, ha], hneg⟩)
        have oc : OwnD (dropB B bl) (fl 1 (iv (List.replicate (nC s) 0))) (.lsl gc 1 0 (nC s)) [gc] := own_iv.2 (.inr ⟨gc, by simp, rfl, by unfold dropB; rw [hbc, ← hB]; simp [hcr, hcc], by omega⟩)
        refine retRO [.agg [.int .i64 (nR s), .int .i64 (nC s), .lsl g 1 0 (nR s * nC s), .sl (iv (right s l)), .lsl gc 1 0 (nC s)]] 2 (by simp [← hB]) ?_ ?_
        · show frz (dropB B bl) 2 (.agg [_, _, _, _, _]) = _
          rw [frz_agg, List.mapM_cons, frz_cl rfl, List.mapM_cons, frz_cl rfl, List.mapM_cons, frz_iv oa 0, List.mapM_cons, frz_cl (by simp [V.cl]), List.mapM_cons, frz_iv oc 0]
          simp [Pg.v, fprog]
        · rw [← hB]; simp [hbr, hsub]
    · simp
      intro gp hgp hpc hpr hps hbp
      refine ⟨by simp [hcs, hcr, hbc, hpc, hpr, hps, hbp], DAny_one (i := 12) (by kernel_rfl) rfl rfl ?_⟩
      simp
      refine ⟨by simp [hcs, hcr, hbc, hpc, hpr, hps, hbp], DAny_one (i := 14) (by kernel_rfl) rfl rfl ?_⟩
      simp
      refine ⟨by simp [hcs, hcr, hbc, hpc, hpr, hps, hbp], DAny_done (by kernel_rfl) ?_⟩
      simp [Str.c]
      refine AW_ghostCell (g := gp) 0 2 1 (s := 5) (els := [[.int .i64 (nR s), .int .i64 (nC s), .nils, .sl (iv (right s l)), .lsl gc 1 0 (nC s)]]) (by simp) rfl rfl fun ga hga hgap => ?_
      have hga' : bl ga = none ∧ ga ≠ gr ∧ ga ≠ gc := by simp [hgap] at hga; grind
      obtain ⟨hba, har, hac⟩ := hga'
      clear hga
      refine AW_for (fun p : Nat × PS => [(4, .loc gr 5 0 0), (5, .sl (iv (who s))), (6, .sl (iv (sgn s))), (7, .int .i64 s.ms.length), (8, .sl (iv (rowsF s))), (9, .loc gp 5 0 0), (10, .int .i64 p.1)]) (fun p => p.2.b) (fun p => p.1 ≤ nR s ∧ p.2.n = p.1 * nC s ∧ PI bl s l gr gp gc p.2) (fun p => nR s - p.1) 69 (0, ⟨0, ga, _⟩) ⟨Nat.zero_le _, by simp, ⟨?_, ?_, ?_, ?_, har, hgap, hac, hba, ?_, fun _ => rfl⟩⟩ ⟨rfl, by simp, sub_eq rfl⟩ ?_
      · simp [Ne.symm har, hpr, Ne.symm hpr, hcr, Ne.symm hcr]
      · simp [Ne.symm hgap]
      · simp [Ne.symm hac, hpc, Ne.symm hpc, iv]
      · simp [aTo, iv]
      · simp [hgs, hbr, hbc, hbp, hba]
      rintro ⟨i, n, g, b⟩ ⟨hi, hn, P⟩
      simp only at hi hn
      subst hn
      have hP := P.hp
      simp only at hP
      refine AW_run ?_
      simp [hP]
      refine ⟨fun h => ?_, fun h => ?_⟩
      · simp [ew]
        refine AW_for (fun p : Nat × PS => [(4, .loc gr 5 0 0), (5, .sl (iv (who s))), (6, .sl (iv (sgn s))), (7, .int .i64 s.ms.length), (8, .sl (iv (rowsF s))), (9, .loc gp 5 0 0), (10, .int .i64 i), (42, .sl (iv (who s))), (43, .int .i64 (nC s)), (44, .int .i64 p.1)]) (fun p => p.2.b) (fun p => p.1 ≤ nC s ∧ p.2.n = i * nC s + p.1 ∧ PI bl s l gr gp gc p.2) (fun p => nC s - p.1) 69 (0, ⟨i * nC s, g, b⟩) ⟨Nat.zero_le _, rfl, P⟩ ⟨rfl, by simp, sub_eq rfl⟩ ?_
        rintro ⟨c, n, g, b⟩ ⟨hc, hn, P⟩
        simp only at hc hn
        subst hn
        obtain ⟨hr, hp, hcc, ha, npr, npp, npc, hf, hsub, hneg⟩ := P
        simp only at hr hp hcc ha npr npp npc hf hsub hneg
        refine AW_run ?_
        simp
        refine ⟨fun hcl => ?_, fun hcl => ?_⟩
        · have qw := who_at s c hcl
          have qs := sgn_at s c hcl
          obtain ⟨⟨k0, k1⟩, k2⟩ := colAt_ok s c hcl
          simp [-iv_get, qw]
          obtain ⟨⟨k, sg⟩, hk⟩ : ∃ k, colAt s c = k := ⟨_, rfl⟩
          rw [hk] at qw qs k0 k1 k2 ⊢
          simp only at qw qs k0 k1 k2 ⊢
          have m1 : i * s.ms.length ≤ 12 * 8 := Nat.mul_le_mul (by omega) (by omega)
          have mi : ((i * s.ms.length : Nat) : Int) = (i : Int) * s.ms.length := by simp
          have w1 : IntKind.i64.wrap ((i : Int) * s.ms.length) = (i : Int) * s.ms.length := i64_in (by omega) (by omega)
          have w2 : IntKind.i64.wrap ((i : Int) * s.ms.length + k) = (i : Int) * s.ms.length + k := i64_in (by omega) (by omega)
          have e1 : ((i : Int) * s.ms.length + k).toNat = i * s.ms.length + k.toNat := by omega
          have ei : i * s.ms.length + k.toNat < (rowsF s).length := by
            rw [rowsF_length]
            have : (i + 1) * s.ms.length ≤ nR s * s.ms.length := Nat.mul_le_mul_right _ h
            rw [Nat.add_mul] at this; omega
          have qr := iv_at ei
          rw [← e1] at qr
          have bd := rowsF_le hs (i * s.ms.length + k.toNat)
          rw [← e1] at bd
          have en : ent s i c = sg * lat (rowsF s) ((i : Int) * s.ms.length + k).toNat := by unfold ent; rw [hk, e1]
          have w3 : IntKind.i64.wrap (sg * lat (rowsF s) ((i : Int) * s.ms.length + k).toNat) = ent s i c := by
            rw [en]; rcases k2 with rfl | rfl <;> exact i64_in (by omega) (by omega)
          have p1 : 0 ≤ (i : Int) * s.ms.length + k := by omega
          have hK : Sub (upd bl gp (some ⟨5, [[.int .i64 (nR s), .int .i64 (nC s), .lsl g 1 0 (i * nC s + c), .sl (iv (right s l)), .lsl gc 1 0 (nC s)]]⟩)) b := fun x y hx => by
            rw [upd_apply] at hx
            split at hx
            · rename_i e; rw [e, hp]; exact hx
            · exact hsub x y hx
          have mc : (i + 1) * nC s ≤ 12 * 16 := Nat.mul_le_mul (by omega) (by omega)
          rw [Nat.add_mul] at mc
          have tka : (iv (aTo s (i * nC s + c))).take (i * nC s + c) = iv (aTo s (i * nC s + c)) := List.take_of_length_le (by simp)
          refine AW_mixedBT mixedO _ hK [0, 1, 2, 3, 4, 5, 6, 7, 8, 9, 10, 11, 12, 13, 14] 4 18 (by kernel_rfl) ?_
          simp [-iv_get, w1, w2, w3, qs, qr, p1]
          refine DAny_one (i := 15) (by kernel_rfl) rfl rfl ?_
          simp
          intro g2 hg2 hb2
          have n2g : g2 ≠ g := fun e => by rw [e, ha] at hb2; cases hb2
          have n2p : g2 ≠ gp := fun e => by rw [e, hp] at hb2; cases hb2
          have hS : ∀ (u : Int) (B : Int → Option Blk), u ≠ gp → bl u = none → (∀ x y, x ≠ g → x ≠ g2 → x ≠ u → b x = some y → B x = some y) → Sub (upd bl gp (some ⟨5, [[.int .i64 (nR s), .int .i64 (nC s), .lsl g 1 0 (i * nC s + c), .sl (iv (right s l)), .lsl gc 1 0 (nC s)]]⟩)) B := by
            intro u B hu hbu hB x y hx
            refine hB x y ?_ ?_ ?_ (hK x y hx)
            · intro e; rw [e, upd_apply, if_neg npp, hf] at hx; cases hx
            · intro e; have := hK x y hx; rw [e, hb2] at this; cases this
            · intro e; rw [e, upd_apply, if_neg hu, hbu] at hx; cases hx
          refine ⟨hS g _ npp hf (fun x y h1 h2 h3 hx => by simp [h2, hx]), DAny_one (i := 16) (by kernel_rfl) rfl rfl ?_⟩
          simp [n2g, Ne.symm n2g, ha, tka, appV, elsV, Int.not_lt.2 hg2]
          refine ⟨by omega, fun g3 hg3 hb3 => ?_⟩
          have n3p : g3 ≠ gp := by grind
          have n3r : g3 ≠ gr := by grind
          have n3c : g3 ≠ gc := by grind
          have f3 : bl g3 = none := by
            by_cases e : g3 = g
            · rw [e]; exact hf
            · exact fresh_of hsub (hb3 e).2
          have n2r : g2 ≠ gr := fun e => by rw [e, hr] at hb2; cases hb2
          have n2c : g2 ≠ gc := fun e => by rw [e, hcc] at hb2; cases hb2
          refine ⟨hS g3 _ n3p f3 (fun x y h1 h2 h3 hx => by simp [h1, h2, h3, hx]), DAny_one (i := 17) (by kernel_rfl) rfl rfl ?_⟩
          simp
          refine ⟨hS g3 _ n3p f3 (fun x y h1 h2 h3 hx => by simp [h1, h2, h3, hx]), DAny_last (i := 18) (by kernel_rfl) rfl rfl rfl ?_⟩
          simp [n3p, Ne.symm n3p, n2p, Ne.symm n2p, npp, Ne.symm npp, hp]
          refine DAny_done (by kernel_rfl) ?_
          have w4 : IntKind.i64.wrap ((c : Int) + 1) = c + 1 := i64_in (by omega) (by omega)
          simp [w4, loopQ_normal]
          refine ⟨c + 1, ⟨i * nC s + c + 1, g3, _⟩, ⟨by omega, rfl, ⟨?_, ?_, ?_, ?_, n3r, n3p, n3c, f3, ?_, fun e => by simp only at e; omega⟩⟩, by omega, rfl, by simp, sub_eq rfl⟩
          · simp [n3r, Ne.symm n3r, n2r, Ne.symm n2r, npr, Ne.symm npr, hpr, Ne.symm hpr, hr]
          · simp
          · simp [n3c, Ne.symm n3c, n2c, Ne.symm n2c, npc, Ne.symm npc, hpc, Ne.symm hpc, hcc]
          · simp [n3p, aTo_succ s i c hcl, iv_append, iv_one]
          · intro x y hx
            have h1 : x ≠ g := fun e => by rw [e, hf] at hx; cases hx
            have h2 : x ≠ g2 := fun e => by have := hsub x y hx; rw [e, hb2] at this; cases this
            have h3 : x ≠ g3 := fun e => by rw [e, f3] at hx; cases hx
            have h4 : x ≠ gp := fun e => by rw [e, hbp] at hx; cases hx
            simp [h1, h2, h3, h4, hsub x y hx]
        · have : c = nC s := by omega
          subst this
          have w5 : IntKind.i64.wrap ((i : Int) + 1) = i + 1 := i64_in (by omega) (by omega)
          simp [w5, loopQ_normal]
          refine ⟨i + 1, ⟨i * nC s + nC s, g, b⟩, ⟨by omega, by rw [Nat.add_mul]; simp, ⟨hr, hp, hcc, ha, npr, npp, npc, hf, hsub, hneg⟩⟩, by omega, rfl, by simp, sub_eq rfl⟩
      · have : i = nR s := by omega
        subst this
        have hR := P.hr
        simp only at hR
        simp [hR]
        obtain ⟨hr, hp, hcc, ha, npr, npp, npc, hf, hsub, hneg⟩ := P
        simp only at hr hp hcc ha npr npp npc hf hsub hneg
        generalize hB : upd b gr (some ⟨5, [[.int .i64 (nR s), .int .i64 (nC s), .lsl g 1 0 (nR s * nC s), .sl (iv (right s l)), .lsl gc 1 0 (nC s)]]⟩) = B
        have oa : OwnD (dropB B bl) (fl 1 (iv (aTo s (nR s * nC s)))) (.lsl g 1 0 (nR s * nC s)) [g] := own_iv.2 (.inr ⟨g, by simp, rfl, by unfold dropB; rw [hf, ← hB]; simp [npr, ha], hneg⟩)
        have oc : OwnD (dropB B bl) (fl 1 (iv (List.replicate (nC s) 0))) (.lsl gc 1 0 (nC s)) [gc] := own_iv.2 (.inr ⟨gc, by simp, rfl, by unfold dropB; rw [hbc, ← hB]; simp [hcr, hcc], by omega⟩)
        refine retRO [.agg [.int .i64 (nR s), .int .i64 (nC s), .lsl g 1 0 (nR s * nC s), .sl (iv (right s l)), .lsl gc 1 0 (nC s)]] 2 (by simp [← hB]) ?_ ?_
        · show frz (dropB B bl) 2 (.agg [_, _, _, _, _]) = _
          rw [frz_agg, List.mapM_cons, frz_cl rfl, List.mapM_cons, frz_cl rfl, List.mapM_cons, frz_iv oa 0, List.mapM_cons, frz_cl (by simp [V.cl]), List.mapM_cons, frz_iv oc 0]
          simp [Pg.v, fprog]
        · rw [← hB]; simp [hbr, hsub]
  · simp
    intro gp hgp hpr hps hbp
    refine ⟨by simp [hpr, hps, hbp], DAny_one (i := 11) (by kernel_rfl) rfl rfl ?_⟩
    simp
    refine ⟨by omega, by unfold maxLen; omega, fun gc hgc hcp hcr hcs hbc => ⟨by simp [hcs, hcr, hcp, hpr, hps, hbp, hbc], ?_⟩⟩
    have hpc : ¬gp = gc := Ne.symm hcp
    refine DAny_one (i := 12) (by kernel_rfl) rfl rfl ?_
    simp
    refine ⟨by simp [hcs, hcr, hbc, hpc, hcp, hpr, hps, hbp], DAny_one (i := 14) (by kernel_rfl) rfl rfl ?_⟩
    simp [hpc, hcp]
    refine ⟨by simp [hcs, hcr, hbc, hpc, hcp, hpr, hps, hbp], DAny_done (by kernel_rfl) ?_⟩
    simp [Str.c]
    refine AW_ghostCell (g := gp) 0 2 1 (s := 5) (els := [[.int .i64 (nR s), .int .i64 (nC s), .nils, .sl (iv (right s l)), .lsl gc 1 0 (nC s)]]) (by simp) rfl rfl fun ga hga hgap => ?_
    have hga' : bl ga = none ∧ ga ≠ gr ∧ ga ≠ gc := by simp [hgap] at hga; grind
    obtain ⟨hba, har, hac⟩ := hga'
    clear hga
    refine AW_for (fun p : Nat × PS => [(4, .loc gr 5 0 0), (5, .sl (iv (who s))), (6, .sl (iv (sgn s))), (7, .int .i64 s.ms.length), (8, .sl (iv (rowsF s))), (9, .loc gp 5 0 0), (10, .int .i64 p.1)]) (fun p => p.2.b) (fun p => p.1 ≤ nR s ∧ p.2.n = p.1 * nC s ∧ PI bl s l gr gp gc p.2) (fun p => nR s - p.1) 69 (0, ⟨0, ga, _⟩) ⟨Nat.zero_le _, by simp, ⟨?_, ?_, ?_, ?_, har, hgap, hac, hba, ?_, fun _ => rfl⟩⟩ ⟨rfl, by simp, sub_eq rfl⟩ ?_
    · simp [Ne.symm har, hpr, Ne.symm hpr, hcr, Ne.symm hcr]
    · simp [Ne.symm hgap]
    · simp [Ne.symm hac, hpc, Ne.symm hpc, iv]
    · simp [aTo, iv]
    · simp [hgs, hbr, hbc, hbp, hba]
    rintro ⟨i, n, g, b⟩ ⟨hi, hn, P⟩
    simp only at hi hn
    subst hn
    have hP := P.hp
    simp only at hP
    refine AW_run ?_
    simp [hP]
    refine ⟨fun h => ?_, fun h => ?_⟩
    · simp [ew]
      refine AW_for (fun p : Nat × PS => [(4, .loc gr 5 0 0), (5, .sl (iv (who s))), (6, .sl (iv (sgn s))), (7, .int .i64 s.ms.length), (8, .sl (iv (rowsF s))), (9, .loc gp 5 0 0), (10, .int .i64 i), (42, .sl (iv (who s))), (43, .int .i64 (nC s)), (44, .int .i64 p.1)]) (fun p => p.2.b) (fun p => p.1 ≤ nC s ∧ p.2.n = i * nC s + p.1 ∧ PI bl s l gr gp gc p.2) (fun p => nC s - p.1) 69 (0, ⟨i * nC s, g, b⟩) ⟨Nat.zero_le _, rfl, P⟩ ⟨rfl, by simp, sub_eq rfl⟩ ?_
      rintro ⟨c, n, g, b⟩ ⟨hc, hn, P⟩
      simp only at hc hn
      subst hn
      obtain ⟨hr, hp, hcc, ha, npr, npp, npc, hf, hsub, hneg⟩ := P
      simp only at hr hp hcc ha npr npp npc hf hsub hneg
      refine AW_run ?_
      simp
      refine ⟨fun hcl => ?_, fun hcl => ?_⟩
      · have qw := who_at s c hcl
        have qs := sgn_at s c hcl
        obtain ⟨⟨k0, k1⟩, k2⟩ := colAt_ok s c hcl
        simp [-iv_get, qw]
        obtain ⟨⟨k, sg⟩, hk⟩ : ∃ k, colAt s c = k := ⟨_, rfl⟩
        rw [hk] at qw qs k0 k1 k2 ⊢
        simp only at qw qs k0 k1 k2 ⊢
        have m1 : i * s.ms.length ≤ 12 * 8 := Nat.mul_le_mul (by omega) (by omega)
        have mi : ((i * s.ms.length : Nat) : Int) = (i : Int) * s.ms.length := by simp
        have w1 : IntKind.i64.wrap ((i : Int) * s.ms.length) = (i : Int) * s.ms.length := i64_in (by omega) (by omega)
        have w2 : IntKind.i64.wrap ((i : Int) * s.ms.length + k) = (i : Int) * s.ms.length + k := i64_in (by omega) (by omega)
        have e1 : ((i : Int) * s.ms.length + k).toNat = i * s.ms.length + k.toNat := by omega
        have ei : i * s.ms.length + k.toNat < (rowsF s).length := by
          rw [rowsF_length]
          have : (i + 1) * s.ms.length ≤ nR s * s.ms.length := Nat.mul_le_mul_right _ h
          rw [Nat.add_mul] at this; omega
        have qr := iv_at ei
        rw [← e1] at qr
        have bd := rowsF_le hs (i * s.ms.length + k.toNat)
        rw [← e1] at bd
        have en : ent s i c = sg * lat (rowsF s) ((i : Int) * s.ms.length + k).toNat := by unfold ent; rw [hk, e1]
        have w3 : IntKind.i64.wrap (sg * lat (rowsF s) ((i : Int) * s.ms.length + k).toNat) = ent s i c := by
          rw [en]; rcases k2 with rfl | rfl <;> exact i64_in (by omega) (by omega)
        have p1 : 0 ≤ (i : Int) * s.ms.length + k := by omega
        have hK : Sub (upd bl gp (some ⟨5, [[.int .i64 (nR s), .int .i64 (nC s), .lsl g 1 0 (i * nC s + c), .sl (iv (right s l)), .lsl gc 1 0 (nC s)]]⟩)) b := fun x y hx => by
          rw [upd_apply] at hx
          split at hx
          · rename_i e; rw [e, hp]; exact hx
          · exact hsub x y hx
        have mc : (i + 1) * nC s ≤ 12 * 16 := Nat.mul_le_mul (by omega) (by omega)
        rw [Nat.add_mul] at mc
        have tka : (iv (aTo s (i * nC s + c))).take (i * nC s + c) = iv (aTo s (i * nC s + c)) := List.take_of_length_le (by simp)
        refine AW_mixedBT mixedO _ hK [0, 1, 2, 3, 4, 5, 6, 7, 8, 9, 10, 11, 12, 13, 14] 4 18 (by kernel_rfl) ?_
        simp [-iv_get, w1, w2, w3, qs, qr, p1]
        refine DAny_one (i := 15) (by kernel_rfl) rfl rfl ?_
        simp
        intro g2 hg2 hb2
        have n2g : g2 ≠ g := fun e => by rw [e, ha] at hb2; cases hb2
        have n2p : g2 ≠ gp := fun e => by rw [e, hp] at hb2; cases hb2
        have hS : ∀ (u : Int) (B : Int → Option Blk), u ≠ gp → bl u = none → (∀ x y, x ≠ g → x ≠ g2 → x ≠ u → b x = some y → B x = some y) → Sub (upd bl gp (some ⟨5, [[.int .i64 (nR s), .int .i64 (nC s), .lsl g 1 0 (i * nC s + c), .sl (iv (right s l)), .lsl gc 1 0 (nC s)]]⟩)) B := by
          intro u B hu hbu hB x y hx
          refine hB x y ?_ ?_ ?_ (hK x y hx)
          · intro e; rw [e, upd_apply, if_neg npp, hf] at hx; cases hx
          · intro e; have := hK x y hx; rw [e, hb2] at this; cases this
          · intro e; rw [e, upd_apply, if_neg hu, hbu] at hx; cases hx
        refine ⟨hS g _ npp hf (fun x y h1 h2 h3 hx => by simp [h2, hx]), DAny_one (i := 16) (by kernel_rfl) rfl rfl ?_⟩
        simp [n2g, Ne.symm n2g, ha, tka, appV, elsV, Int.not_lt.2 hg2]
        refine ⟨by omega, fun g3 hg3 hb3 => ?_⟩
        have n3p : g3 ≠ gp := by grind
        have n3r : g3 ≠ gr := by grind
        have n3c : g3 ≠ gc := by grind
        have f3 : bl g3 = none := by
          by_cases e : g3 = g
          · rw [e]; exact hf
          · exact fresh_of hsub (hb3 e).2
        have n2r : g2 ≠ gr := fun e => by rw [e, hr] at hb2; cases hb2
        have n2c : g2 ≠ gc := fun e => by rw [e, hcc] at hb2; cases hb2
        refine ⟨hS g3 _ n3p f3 (fun x y h1 h2 h3 hx => by simp [h1, h2, h3, hx]), DAny_one (i := 17) (by kernel_rfl) rfl rfl ?_⟩
        simp
        refine ⟨hS g3 _ n3p f3 (fun x y h1 h2 h3 hx => by simp [h1, h2, h3, hx]), DAny_last (i := 18) (by kernel_rfl) rfl rfl rfl ?_⟩
        simp [n3p, Ne.symm n3p, n2p, Ne.symm n2p, npp, Ne.symm npp, hp]
        refine DAny_done (by kernel_rfl) ?_
        have w4 : IntKind.i64.wrap ((c : Int) + 1) = c + 1 := i64_in (by omega) (by omega)
        simp [w4, loopQ_normal]
        refine ⟨c + 1, ⟨i * nC s + c + 1, g3, _⟩, ⟨by omega, rfl, ⟨?_, ?_, ?_, ?_, n3r, n3p, n3c, f3, ?_, fun e => by simp only at e; omega⟩⟩, by omega, rfl, by simp, sub_eq rfl⟩
        · simp [n3r, Ne.symm n3r, n2r, Ne.symm n2r, npr, Ne.symm npr, hpr, Ne.symm hpr, hr]
        · simp
        · simp [n3c, Ne.symm n3c, n2c, Ne.symm n2c, npc, Ne.symm npc, hpc, Ne.symm hpc, hcc]
        · simp [n3p, aTo_succ s i c hcl, iv_append, iv_one]
        · intro x y hx
          have h1 : x ≠ g := fun e => by rw [e, hf] at hx; cases hx
          have h2 : x ≠ g2 := fun e => by have := hsub x y hx; rw [e, hb2] at this; cases this
          have h3 : x ≠ g3 := fun e => by rw [e, f3] at hx; cases hx
          have h4 : x ≠ gp := fun e => by rw [e, hbp] at hx; cases hx
          simp [h1, h2, h3, h4, hsub x y hx]
      · have : c = nC s := by omega
        subst this
        have w5 : IntKind.i64.wrap ((i : Int) + 1) = i + 1 := i64_in (by omega) (by omega)
        simp [w5, loopQ_normal]
        refine ⟨i + 1, ⟨i * nC s + nC s, g, b⟩, ⟨by omega, by rw [Nat.add_mul]; simp, ⟨hr, hp, hcc, ha, npr, npp, npc, hf, hsub, hneg⟩⟩, by omega, rfl, by simp, sub_eq rfl⟩
    · have : i = nR s := by omega
      subst this
      have hR := P.hr
      simp only at hR
      simp [hR]
      obtain ⟨hr, hp, hcc, ha, npr, npp, npc, hf, hsub, hneg⟩ := P
      simp only at hr hp hcc ha npr npp npc hf hsub hneg
      generalize hB : upd b gr (some ⟨5, [[.int .i64 (nR s), .int .i64 (nC s), .lsl g 1 0 (nR s * nC s), .sl (iv (right s l)), .lsl gc 1 0 (nC s)]]⟩) = B
      have oa : OwnD (dropB B bl) (fl 1 (iv (aTo s (nR s * nC s)))) (.lsl g 1 0 (nR s * nC s)) [g] := own_iv.2 (.inr ⟨g, by simp, rfl, by unfold dropB; rw [hf, ← hB]; simp [npr, ha], hneg⟩)
      have oc : OwnD (dropB B bl) (fl 1 (iv (List.replicate (nC s) 0))) (.lsl gc 1 0 (nC s)) [gc] := own_iv.2 (.inr ⟨gc, by simp, rfl, by unfold dropB; rw [hbc, ← hB]; simp [hcr, hcc], by omega⟩)
      refine retRO [.agg [.int .i64 (nR s), .int .i64 (nC s), .lsl g 1 0 (nR s * nC s), .sl (iv (right s l)), .lsl gc 1 0 (nC s)]] 2 (by simp [← hB]) ?_ ?_
      · show frz (dropB B bl) 2 (.agg [_, _, _, _, _]) = _
        rw [frz_agg, List.mapM_cons, frz_cl rfl, List.mapM_cons, frz_cl rfl, List.mapM_cons, frz_iv oa 0, List.mapM_cons, frz_cl (by simp [V.cl]), List.mapM_cons, frz_iv oc 0]
        simp [Pg.v, fprog]
      · rw [← hB]; simp [hbr, hsub]

end Go.Proofs.Ytpkphjoobeacfaa.Vm
