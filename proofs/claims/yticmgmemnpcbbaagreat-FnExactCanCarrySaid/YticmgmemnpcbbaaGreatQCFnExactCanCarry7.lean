/- The force program of the reference. -/


import Derived.Test.YticmgmemnpcbbaaGreatQCFnExactCanCarry6

namespace Go.Proofs.YticmgmemnpcbbaaGreat.Vm
open Go Go.Proofs
set_option linter.unusedSimpArgs false
set_option linter.unusedVariables false

/-- A linear program. -/
structure Pg where
  rows : Int
  cols : Int
  a : List Int
  b : List Int
  c : List Int
def Pg.v (p : Pg) : List V := [.int .i64 p.rows, .int .i64 p.cols, .sl (iv p.a), .sl (iv p.b), .sl (iv p.c)]
def nR (s : Str) : Nat := 2 * (frees s.js).length
def nC (s : Str) : Nat := (cols s.ms).length
def colAt (s : Str) (c : Nat) : Int × Int := (cols s.ms).getD c (0, 0)
def ent (s : Str) (i c : Nat) : Int := (colAt s c).2 * lat (rowsF s) (i * s.ms.length + (colAt s c).1.toNat)
def aTo (s : Str) (n : Nat) : List Int := (List.range n).map fun t => ent s (t / nC s) (t % nC s)
def fprog (s : Str) (l : List Int) : Pg := ⟨nR s, nC s, aTo s (nR s * nC s), right s l, List.replicate (nC s) 0⟩
@[simp] theorem aTo_length (s : Str) (n : Nat) : (aTo s n).length = n := by simp [aTo]
theorem aTo_succ (s : Str) (i c : Nat) (h : c < nC s) : aTo s (i * nC s + c + 1) = aTo s (i * nC s + c) ++ [ent s i c] := by
  unfold aTo
  rw [List.range_succ, List.map_append]
  congr 1
  simp only [List.map_cons, List.map_nil]
  rw [Nat.mul_comm i, Nat.mul_add_div (by omega), Nat.mul_add_mod, Nat.div_eq_of_lt h, Nat.mod_eq_of_lt h, Nat.add_zero]

theorem rowsF_length (s : Str) : (rowsF s).length = nR s * s.ms.length := by
  have e : rowsF s = rowsTo s (frees s.js).length := by simp [rowsF, rowsTo]
  rw [e, rowsTo_length s _ (Nat.le_refl _), nR, Nat.mul_right_comm]
theorem cols_mem {ms : List Mb} {n : Nat} {p : Int × Int} (h : p ∈ colsTo ms n) : (0 ≤ p.1 ∧ p.1 < n) ∧ (p.2 = 1 ∨ p.2 = -1) := by
  unfold colsTo at h
  obtain ⟨k, hk, hp⟩ := List.mem_flatMap.1 h
  have := List.mem_range.1 hk
  unfold colK at hp
  rcases List.mem_append.1 hp with hp | hp <;> split at hp <;> simp at hp <;> subst hp <;> simp <;> omega
theorem colAt_ok (s : Str) (c : Nat) (h : c < nC s) : (0 ≤ (colAt s c).1 ∧ (colAt s c).1 < s.ms.length) ∧ ((colAt s c).2 = 1 ∨ (colAt s c).2 = -1) := by
  unfold nC at h
  have : colAt s c = (cols s.ms)[c] := by simp [colAt, h]
  rw [this]
  exact cols_mem (List.getElem_mem h)
theorem who_at (s : Str) (c : Nat) (h : c < nC s) : (iv (who s))[c]? = some [.int .i64 (colAt s c).1] := by
  unfold nC at h
  simp [who, colAt, h, iv]
theorem sgn_at (s : Str) (c : Nat) (h : c < nC s) : (iv (sgn s))[c]? = some [.int .i64 (colAt s c).2] := by
  unfold nC at h
  simp [sgn, colAt, h, iv]
theorem rowsF_le {s : Str} (hs : SOk s) (n : Nat) : -100 ≤ lat (rowsF s) n ∧ lat (rowsF s) n ≤ 100 := by
  have key : ∀ x, x ∈ rowsF s → -100 ≤ x ∧ x ≤ 100 := by
    intro x hx
    unfold rowsF at hx
    obtain ⟨j, _, hx⟩ := List.mem_flatMap.1 hx
    rcases List.mem_append.1 hx with hx | hx
    · obtain ⟨m, hm, rfl⟩ := List.mem_map.1 hx
      have := v_le hs hm
      unfold eqX; split
      · omega
      · split <;> omega
    · obtain ⟨m, hm, rfl⟩ := List.mem_map.1 hx
      have := v_le hs hm
      unfold eqY; split
      · omega
      · split <;> omega
  unfold lat
  rw [List.getD_eq_getElem?_getD]
  cases h : (rowsF s)[n]? with
  | none => simp
  | some x => exact key x (List.mem_of_getElem? h)

structure PS where
  n : Nat
  g : Int
  b : Int → Option Blk
structure PI (bl : Int → Option Blk) (s : Str) (l : List Int) (gr gp gc : Int) (p : PS) : Prop where
  hr : p.b gr = some ⟨5, [[.int .i64 0, .int .i64 0, .nils, .nils, .nils]]⟩
  hp : p.b gp = some ⟨5, [[.int .i64 (nR s), .int .i64 (nC s), .lsl p.g 1 0 p.n, .sl (iv (right s l)), .lsl gc 1 0 (nC s)]]⟩
  hc : p.b gc = some ⟨1, iv (List.replicate (nC s) 0)⟩
  ha : p.b p.g = some ⟨1, iv (aTo s p.n)⟩
  pr : p.g ≠ gr
  pp : p.g ≠ gp
  pc : p.g ≠ gc
  f : bl p.g = none
  sub : Sub bl p.b
  neg : p.g < 0 → aTo s p.n = []

set_option maxHeartbeats 2000000 in
theorem l15Program_ro (s : Str) (l : List Int) (hL : LOk s l) : RO Tryz.prog 117 [.agg s.c, .sl (iv l)] (.agg (fprog s l).v) := by
  have hs := hL.sok
  have h6 := hs.nj
  have h8 := hs.nm
  have hfr := freesTo_le s.js s.js.length
  change (frees s.js).length ≤ s.js.length at hfr
  have hcn : nC s ≤ 2 * s.ms.length := colsTo_le s.ms s.ms.length
  have hrn : nR s ≤ 12 := by unfold nR; omega
  have ew : (who s).length = nC s := by simp [who, nC]
  have w0 : IntKind.i64.wrap (2 * ((frees s.js).length : Int)) = (nR s : Int) := by rw [i64_in (by omega) (by omega)]; unfold nR; omega
  refine ro_of2 Tryz.func117 rfl rfl (by rw [Tryz.ntmps117]; simp) fun bl => ?_
  rw [Tryz.ntmps117, Tryz.results117]
  refine AW_run ?_
  simp [Str.c]
  intro gs hgs0 hgs gr hgr0 hgrs hbr
  simp [hgrs, Ne.symm hgrs]
  refine callP_ro (l15Columns_ro s (by omega)) ?_
  simp [hgrs, Ne.symm hgrs]
  refine callP_ro (l14Rows_ro s hs) ?_
  simp [hgrs, Ne.symm hgrs]
  refine AW_mixed mixedO [0, 1, 2, 3, 4, 5, 6, 7, 8, 9, 10] 4 (by kernel_rfl) ?_
  simp [hgrs, Ne.symm hgrs]
  refine hcQ_ro (l12Free_ro s (by omega)) ?_
  simp [hgrs, Ne.symm hgrs, w0]
  refine hcQ_ro (l15Right_ro s l hL) ?_
  simp [ew]
  refine DAny_two (i := 11) (j := 13) (by kernel_rfl) rfl rfl rfl rfl ?_ ?_
  · simp
    refine ⟨by omega, by unfold maxLen; omega, fun gc hgc hcr hcs hbc => ⟨by simp [hcs, hcr, hbc], ?_⟩⟩
    refine DAny_two (i := 12) (j := 13) (by kernel_rfl) rfl rfl rfl rfl ?_ ?_
    · simp
      refine ⟨by simp [hcs, hcr, hbc], DAny_one (i := 13) (by kernel_rfl) rfl rfl ?_⟩
      simp
      intro gp hgp hpc hpr hps hbp
      refine ⟨by simp [hcs, hcr, hbc, hpc, hpr, hps, hbp], DAny_one (i := 14) (by kernel_rfl) rfl rfl ?_⟩
      simp
      refine ⟨by simp [hcs, hcr, hbc, hpc, hpr, hps, hbp], DAny_done (by kernel_rfl) ?_⟩
      simp [Str.c]
      refine AW_ghostCell (g := gp) 0 2 1 (s := 5) (els := [[.int .i64 (nR s), .int .i64 (nC s), .nils, .sl (iv (right s l)), .lsl gc 1 0 (nC s)]]) (by simp) rfl rfl fun ga hga hgap => ?_
      have hga' : bl ga = none ∧ ga ≠ gr ∧ ga ≠ gc := by simp [hgap] at hga; grind
      obtain ⟨hba, har, hac⟩ := hga'
      clear hga
      refine AW_for (fun p : Nat × PS => [(4, .loc gr 5 0 0), (5, .sl (iv (who s))), (6, .sl (iv (sgn s))), (7, .int .i64 s.ms.length), (8, .sl (iv (rowsF s))), (9, .loc gp 5 0 0), (10, .int .i64 p.1)]) (fun p => p.2.b) (fun p => p.1 ≤ nR s ∧ p.2.n = p.1 * nC s ∧ PI bl s l gr gp gc p.2) (fun p => nR s - p.1) 69 (0, ⟨0, ga, _⟩) ⟨Nat.zero_le _, by simp, ⟨?_, ?_, ?_, ?_, har, hgap, hac, hba, ?_, fun _ => rfl⟩⟩ ⟨rfl, by simp, sub_eq rfl⟩ ?_
      · simp [Ne.symm har, hpr, Ne.symm hpr, hcr, Ne.symm hcr]
      · simp [Ne.symm hgap]
      · simp [Ne.symm hac, hpc, Ne.symm hpc, iv]
      · simp [aTo, iv]
      · simp [hgs, hbr, hbc, hbp, hba]
      rintro ⟨i, n, g, b⟩ ⟨hi, hn, P⟩
      simp only at hi hn
      subst hn
      have hP := P.hp
      simp only at hP
      refine AW_run ?_
      simp [hP]
      refine ⟨fun h => ?_, fun h => ?_⟩
      · simp [ew]
        refine AW_for (fun p : Nat × PS => [(4, .loc gr 5 0 0), (5, .sl (iv (who s))), (6, .sl (iv (sgn s))), (7, .int .i64 s.ms.length), (8, .sl (iv (rowsF s))), (9, .loc gp 5 0 0), (10, .int .i64 i), (42, .sl (iv (who s))), (43, .int .i64 (nC s)), (44, .int .i64 p.1)]) (fun p => p.2.b) (fun p => p.1 ≤ nC s ∧ p.2.n = i * nC s + p.1 ∧ PI bl s l gr gp gc p.2) (fun p => nC s - p.1) 69 (0, ⟨i * nC s, g, b⟩) ⟨Nat.zero_le _, rfl, P⟩ ⟨rfl, by simp, sub_eq rfl⟩ ?_
        rintro ⟨c, n, g, b⟩ ⟨hc, hn, P⟩
        simp only at hc hn
        subst hn
        obtain ⟨hr, hp, hcc, ha, npr, npp, npc, hf, hsub, hneg⟩ := P
        simp only at hr hp hcc ha npr npp npc hf hsub hneg
        refine AW_run ?_
        simp
        refine ⟨fun hcl => ?_, fun hcl => ?_⟩
        · have qw := who_at s c hcl
          have qs := sgn_at s c hcl
          obtain ⟨⟨k0, k1⟩, k2⟩ := colAt_ok s c hcl
          simp [-iv_get, qw]
          obtain ⟨⟨k, sg⟩, hk⟩ : ∃ k, colAt s c = k := ⟨_, rfl⟩
          rw [hk] at qw qs k0 k1 k2 ⊢
          simp only at qw qs k0 k1 k2 ⊢
          have m1 : i * s.ms.length ≤ 12 * 8 := Nat.mul_le_mul (by omega) (by omega)
          have mi : ((i * s.ms.length : Nat) : Int) = (i : Int) * s.ms.length := by simp
          have w1 : IntKind.i64.wrap ((i : Int) * s.ms.length) = (i : Int) * s.ms.length := i64_in (by omega) (by omega)
          have w2 : IntKind.i64.wrap ((i : Int) * s.ms.length + k) = (i : Int) * s.ms.length + k := i64_in (by omega) (by omega)
          have e1 : ((i : Int) * s.ms.length + k).toNat = i * s.ms.length + k.toNat := by omega
          have ei : i * s.ms.length + k.toNat < (rowsF s).length := by
            rw [rowsF_length]
            have : (i + 1) * s.ms.length ≤ nR s * s.ms.length := Nat.mul_le_mul_right _ h
            rw [Nat.add_mul] at this; omega
          have qr := iv_at ei
          rw [← e1] at qr
          have bd := rowsF_le hs (i * s.ms.length + k.toNat)
          rw [← e1] at bd
          have en : ent s i c = sg * lat (rowsF s) ((i : Int) * s.ms.length + k).toNat := by unfold ent; rw [hk, e1]
          have w3 : IntKind.i64.wrap (sg * lat (rowsF s) ((i : Int) * s.ms.length + k).toNat) = ent s i c := by
            rw [en]; rcases k2 with rfl | rfl <;> exact i64_in (by omega) (by omega)
          have p1 : 0 ≤ (i : Int) * s.ms.length + k := by omega
          have hK : Sub (upd bl gp (some ⟨5, [[.int .i64 (nR s), .int .i64 (nC s), .lsl g 1 0 (i * nC s + c), .sl (iv (right s l)), .lsl gc 1 0 (nC s)]]⟩)) b := fun x y hx => by
            rw [upd_apply] at hx
            split at hx
            · rename_i e; rw [e, hp]; exact hx
            · exact hsub x y hx
          have mc : (i + 1) * nC s ≤ 12 * 16 := Nat.mul_le_mul (by omega) (by omega)
          rw [Nat.add_mul] at mc
          have tka : (iv (aTo s (i * nC s + c))).take (i * nC s + c) = iv (aTo s (i * nC s + c)) := List.take_of_length_le (by simp)
          refine AW_mixedBT mixedO _ hK [0, 1, 2, 3, 4, 5, 6, 7, 8, 9, 10, 11, 12, 13, 14] 4 18 (by kernel_rfl) ?_
          simp [-iv_get, w1, w2, w3, qs, qr, p1]
          refine DAny_one (i := 15) (by kernel_rfl) rfl rfl ?_
          simp
          intro g2 hg2 hb2
          have n2g : g2 ≠ g := fun e => by rw [e, ha] at hb2; cases hb2
          have n2p : g2 ≠ gp := fun e => by rw [e, hp] at hb2; cases hb2
          have hS : ∀ (u : Int) (B : Int → Option Blk), u ≠ gp → bl u = none → (∀ x y, x ≠ g → x ≠ g2 → x ≠ u → b x = some y → B x = some y) → Sub (upd bl gp (some ⟨5, [[.int .i64 (nR s), .int .i64 (nC s), .lsl g 1 0 (i * nC s + c), .sl (iv (right s l)), .lsl gc 1 0 (nC s)]]⟩)) B := by
            intro u B hu hbu hB x y hx
            refine hB x y ?_ ?_ ?_ (hK x y hx)
            · intro e; rw [e, upd_apply, if_neg npp, hf] at hx; cases hx
            · intro e; have := hK x y hx; rw [e, hb2] at this; cases this
            · intro e; rw [e, upd_apply, if_neg hu, hbu] at hx; cases hx
          refine ⟨hS g _ npp hf (fun x y h1 h2 h3 hx => by simp [h2, hx]), DAny_one (i := 16) (by kernel_rfl) rfl rfl ?_⟩
          simp [n2g, Ne.symm n2g, ha, tka, appV, elsV, Int.not_lt.2 hg2]
          refine ⟨by omega, fun g3 hg3 hb3 => ?_⟩
          have n3p : g3 ≠ gp := by grind
          have n3r : g3 ≠ gr := by grind
          have n3c : g3 ≠ gc := by grind
          have f3 : bl g3 = none := by
            by_cases e : g3 = g
            · rw [e]; exact hf
            · exact fresh_of hsub (hb3 e).2
          have n2r : g2 ≠ gr := fun e => by rw [e, hr] at hb2; cases hb2
          have n2c : g2 ≠ gc := fun e => by rw [e, hcc] at hb2; cases hb2
          refine ⟨hS g3 _ n3p f3 (fun x y h1 h2 h3 hx => by simp [h1, h2, h3, hx]), DAny_one (i := 17) (by kernel_rfl) rfl rfl ?_⟩
          simp
          refine ⟨hS g3 _ n3p f3 (fun x y h1 h2 h3 hx => by simp [h1, h2, h3, hx]), DAny_last (i := 18) (by kernel_rfl) rfl rfl rfl ?_⟩
          simp [n3p, Ne.symm n3p, n2p, Ne.symm n2p, npp, Ne.symm npp, hp]
          refine DAny_done (by kernel_rfl) ?_
          have w4 : IntKind.i64.wrap ((c : Int) + 1) = c + 1 := i64_in (by omega) (by omega)
          simp [w4, loopQ_normal]
          refine ⟨c + 1, ⟨i * nC s + c + 1, g3, _⟩, ⟨by omega, rfl, ⟨?_, ?_, ?_, ?_, n3r, n3p, n3c, f3, ?_, fun e => by simp only at e; omega⟩⟩, by omega, rfl, by simp, sub_eq rfl⟩
          · simp [n3r, Ne.symm n3r, n2r, Ne.symm n2r, npr, Ne.symm npr, hpr, Ne.symm hpr, hr]
          · simp
          · simp [n3c, Ne.symm n3c, n2c, Ne.symm n2c, npc, Ne.symm npc, hpc, Ne.symm hpc, hcc]
          · simp [n3p, aTo_succ s i c hcl, iv_append, iv_one]
          · intro x y hx
            have h1 : x ≠ g := fun e => by rw [e, hf] at hx; cases hx
            have h2 : x ≠ g2 := fun e => by have := hsub x y hx; rw [e, hb2] at this; cases this
            have h3 : x ≠ g3 := fun e => by rw [e, f3] at hx; cases hx
            have h4 : x ≠ gp := fun e => by rw [e, hbp] at hx; cases hx
            simp [h1, h2, h3, h4, hsub x y hx]
        · have : c = nC s := by omega
          subst this
          have w5 : IntKind.i64.wrap ((i : Int) + 1) = i + 1 := i64_in (by omega) (by omega)
          simp [w5, loopQ_normal]
          refine ⟨i + 1, ⟨i * nC s + nC s, g, b⟩, ⟨by omega, by rw [Nat.add_mul]; simp, ⟨hr, hp, hcc, ha, npr, npp, npc, hf, hsub, hneg⟩⟩, by omega, rfl, by simp, sub_eq rfl⟩
      · have : i = nR s := by omega
        subst this
        have hR := P.hr
        simp only at hR
        simp [hR]
        obtain ⟨hr, hp, hcc, ha, npr, npp, npc, hf, hsub, hneg⟩ := P
        simp only at hr hp hcc ha npr npp npc hf hsub hneg
        generalize hB : upd b gr (some ⟨5, [[.int .i64 (nR s), .int .i64 (nC s), .lsl g 1 0 (nR s * nC s), .sl (iv (right s l)), .lsl gc 1 0 (nC s)]]⟩) = B
        have oa : OwnD (dropB B bl) (fl 1 (iv (aTo s (nR s * nC s)))) (.lsl g 1 0 (nR s * nC s)) [g] := own_iv.2 (.inr ⟨g, by simp, rfl, by unfold dropB; rw [hf, ← hB]; simp [npr, ha], hneg⟩)
        have oc : OwnD (dropB B bl) (fl 1 (iv (List.replicate (nC s) 0))) (.lsl gc 1 0 (nC s)) [gc] := own_iv.2 (.inr ⟨gc, by simp, rfl, by unfold dropB; rw [hbc, ← hB]; simp [hcr, hcc], by omega⟩)
        refine retRO [.agg [.int .i64 (nR s), .int .i64 (nC s), .lsl g 1 0 (nR s * nC s), .sl (iv (right s l)), .lsl gc 1 0 (nC s)]] 2 (by simp [← hB]) ?_ ?_
        · show frz (dropB B bl) 2 (.agg [_, _, _, _, _]) = _
          rw [frz_agg, List.mapM_cons, frz_cl rfl, List.mapM_cons, frz_cl rfl, List.mapM_cons, frz_iv oa 0, List.mapM_cons, frz_cl (by simp [V.cl]), List.mapM_cons, frz_iv oc 0]
          simp [Pg.v, fprog]
        · rw [← hB]; simp [hbr, hsub]
    · simp
      intro gp hgp hpc hpr hps hbp
      refine ⟨by simp [hcs, hcr, hbc, hpc, hpr, hps, hbp], DAny_one (i := 12) (by kernel_rfl) rfl rfl ?_⟩
      simp
      refine ⟨by simp [hcs, hcr, hbc, hpc, hpr, hps, hbp], DAny_one (i := 14) (by kernel_rfl) rfl rfl ?_⟩
      simp
      refine ⟨by simp [hcs, hcr, hbc, hpc, hpr, hps, hbp], DAny_done (by kernel_rfl) ?_⟩
      simp [Str.c]
      refine AW_ghostCell (g := gp) 0 2 1 (s := 5) (els := [[.int .i64 (nR s), .int .i64 (nC s), .nils, .sl (iv (right s l)), .lsl gc 1 0 (nC s)]]) (by simp) rfl rfl fun ga hga hgap => ?_
      have hga' : bl ga = none ∧ ga ≠ gr ∧ ga ≠ gc := by simp [hgap] at hga; grind
      obtain ⟨hba, har, hac⟩ := hga'
      clear hga
      refine AW_for (fun p : Nat × PS => [(4, .loc gr 5 0 0), (5, .sl (iv (who s))), (6, .sl (iv (sgn s))), (7, .int .i64 s.ms.length), (8, .sl (iv (rowsF s))), (9, .loc gp 5 0 0), (10, .int .i64 p.1)]) (fun p => p.2.b) (fun p => p.1 ≤ nR s ∧ p.2.n = p.1 * nC s ∧ PI bl s l gr gp gc p.2) (fun p => nR s - p.1) 69 (0, ⟨0, ga, _⟩) ⟨Nat.zero_le _, by simp, ⟨?_, ?_, ?_, ?_, har, hgap, hac, hba, ?_, fun _ => rfl⟩⟩ ⟨rfl, by simp, sub_eq rfl⟩ ?_
      · simp [Ne.symm har, hpr, Ne.symm hpr, hcr, Ne.symm hcr]
      · simp [Ne.symm hgap]
      · simp [Ne.symm hac, hpc, Ne.symm hpc, iv]
      · simp [aTo, iv]
      · simp [hgs, hbr, hbc, hbp, hba]
      rintro ⟨i, n, g, b⟩ ⟨hi, hn, P⟩
      simp only at hi hn
      subst hn
      have hP := P.hp
      simp only at hP
      refine AW_run ?_
      simp [hP]
      refine ⟨fun h => ?_, fun h => ?_⟩
      · simp [ew]
        refine AW_for (fun p : Nat × PS => [(4, .loc gr 5 0 0), (5, .sl (iv (who s))), (6, .sl (iv (sgn s))), (7, .int .i64 s.ms.length), (8, .sl (iv (rowsF s))), (9, .loc gp 5 0 0), (10, .int .i64 i), (42, .sl (iv (who s))), (43, .int .i64 (nC s)), (44, .int .i64 p.1)]) (fun p => p.2.b) (fun p => p.1 ≤ nC s ∧ p.2.n = i * nC s + p.1 ∧ PI bl s l gr gp gc p.2) (fun p => nC s - p.1) 69 (0, ⟨i * nC s, g, b⟩) ⟨Nat.zero_le _, rfl, P⟩ ⟨rfl, by simp, sub_eq rfl⟩ ?_
        rintro ⟨c, n, g, b⟩ ⟨hc, hn, P⟩
        simp only at hc hn
        subst hn
        obtain ⟨hr, hp, hcc, ha, npr, npp, npc, hf, hsub, hneg⟩ := P
        simp only at hr hp hcc ha npr npp npc hf hsub hneg
        refine AW_run ?_
        simp
        refine ⟨fun hcl => ?_, fun hcl => ?_⟩
        · have qw := who_at s c hcl
          have qs := sgn_at s c hcl
          obtain ⟨⟨k0, k1⟩, k2⟩ := colAt_ok s c hcl
          simp [-iv_get, qw]
          obtain ⟨⟨k, sg⟩, hk⟩ : ∃ k, colAt s c = k := ⟨_, rfl⟩
          rw [hk] at qw qs k0 k1 k2 ⊢
          simp only at qw qs k0 k1 k2 ⊢
          have m1 : i * s.ms.length ≤ 12 * 8 := Nat.mul_le_mul (by omega) (by omega)
          have mi : ((i * s.ms.length : Nat) : Int) = (i : Int) * s.ms.length := by simp
          have w1 : IntKind.i64.wrap ((i : Int) * s.ms.length) = (i : Int) * s.ms.length := i64_in (by omega) (by omega)
          have w2 : IntKind.i64.wrap ((i : Int) * s.ms.length + k) = (i : Int) * s.ms.length + k := i64_in (by omega) (by omega)
          have e1 : ((i : Int) * s.ms.length + k).toNat = i * s.ms.length + k.toNat := by omega
          have ei : i * s.ms.length + k.toNat < (rowsF s).length := by
            rw [rowsF_length]
            have : (i + 1) * s.ms.length ≤ nR s * s.ms.length := Nat.mul_le_mul_right _ h
            rw [Nat.add_mul] at this; omega
          have qr := iv_at ei
          rw [← e1] at qr
          have bd := rowsF_le hs (i * s.ms.length + k.toNat)
          rw [← e1] at bd
          have en : ent s i c = sg * lat (rowsF s) ((i : Int) * s.ms.length + k).toNat := by unfold ent; rw [hk, e1]
          have w3 : IntKind.i64.wrap (sg * lat (rowsF s) ((i : Int) * s.ms.length + k).toNat) = ent s i c := by
            rw [en]; rcases k2 with rfl | rfl <;> exact i64_in (by omega) (by omega)
          have p1 : 0 ≤ (i : Int) * s.ms.length + k := by omega
          have hK : Sub (upd bl gp (some ⟨5, [[.int .i64 (nR s), .int .i64 (nC s), .lsl g 1 0 (i * nC s + c), .sl (iv (right s l)), .lsl gc 1 0 (nC s)]]⟩)) b := fun x y hx => by
            rw [upd_apply] at hx
            split at hx
            · rename_i e; rw [e, hp]; exact hx
            · exact hsub x y hx
          have mc : (i + 1) * nC s ≤ 12 * 16 := Nat.mul_le_mul (by omega) (by omega)
          rw [Nat.add_mul] at mc
          have tka : (iv (aTo s (i * nC s + c))).take (i * nC s + c) = iv (aTo s (i * nC s + c)) := List.take_of_length_le (by simp)
          refine AW_mixedBT mixedO _ hK [0, 1, 2, 3, 4, 5, 6, 7, 8, 9, 10, 11, 12, 13, 14] 4 18 (by kernel_rfl) ?_
          simp [-iv_get, w1, w2, w3, qs, qr, p1]
          refine DAny_one (i := 15) (by kernel_rfl) rfl rfl ?_
          simp
          intro g2 hg2 hb2
          have n2g : g2 ≠ g := fun e => by rw [e, ha] at hb2; cases hb2
          have n2p : g2 ≠ gp := fun e => by rw [e, hp] at hb2; cases hb2
          have hS : ∀ (u : Int) (B : Int → Option Blk), u ≠ gp → bl u = none → (∀ x y, x ≠ g → x ≠ g2 → x ≠ u → b x = some y → B x = some y) → Sub (upd bl gp (some ⟨5, [[.int .i64 (nR s), .int .i64 (nC s), .lsl g 1 0 (i * nC s + c), .sl (iv (right s l)), .lsl gc 1 0 (nC s)]]⟩)) B := by
            intro u B hu hbu hB x y hx
            refine hB x y ?_ ?_ ?_ (hK x y hx)
            · intro e; rw [e, upd_apply, if_neg npp, hf] at hx; cases hx
            · intro e; have := hK x y hx; rw [e, hb2] at this; cases this
            · intro e; rw [e, upd_apply, if_neg hu, hbu] at hx; cases hx
          refine ⟨hS g _ npp hf (fun x y h1 h2 h3 hx => by simp [h2, hx]), DAny_one (i := 16) (by kernel_rfl) rfl rfl ?_⟩
          simp [n2g, Ne.symm n2g, ha, tka, appV, elsV, Int.not_lt.2 hg2]
          refine ⟨by omega, fun g3 hg3 hb3 => ?_⟩
          have n3p : g3 ≠ gp := by grind
          have n3r : g3 ≠ gr := by grind
          have n3c : g3 ≠ gc := by grind
          have f3 : bl g3 = none := by
            by_cases e : g3 = g
            · rw [e]; exact hf
            · exact fresh_of hsub (hb3 e).2
          have n2r : g2 ≠ gr := fun e => by rw [e, hr] at hb2; cases hb2
          have n2c : g2 ≠ gc := fun e => by rw [e, hcc] at hb2; cases hb2
          refine ⟨hS g3 _ n3p f3 (fun x y h1 h2 h3 hx => by simp [h1, h2, h3, hx]), DAny_one (i := 17) (by kernel_rfl) rfl rfl ?_⟩
          simp
          refine ⟨hS g3 _ n3p f3 (fun x y h1 h2 h3 hx => by simp [h1, h2, h3, hx]), DAny_last (i := 18) (by kernel_rfl) rfl rfl rfl ?_⟩
          simp [n3p, Ne.symm n3p, n2p, Ne.symm n2p, npp, Ne.symm npp, hp]
          refine DAny_done (by kernel_rfl) ?_
          have w4 : IntKind.i64.wrap ((c : Int) + 1) = c + 1 := i64_in (by omega) (by omega)
          simp [w4, loopQ_normal]
          refine ⟨c + 1, ⟨i * nC s + c + 1, g3, _⟩, ⟨by omega, rfl, ⟨?_, ?_, ?_, ?_, n3r, n3p, n3c, f3, ?_, fun e => by simp only at e; omega⟩⟩, by omega, rfl, by simp, sub_eq rfl⟩
          · simp [n3r, Ne.symm n3r, n2r, Ne.symm n2r, npr, Ne.symm npr, hpr, Ne.symm hpr, hr]
          · simp
          · simp [n3c, Ne.symm n3c, n2c, Ne.symm n2c, npc, Ne.symm npc, hpc, Ne.symm hpc, hcc]
          · simp [n3p, aTo_succ s i c hcl, iv_append, iv_one]
          · intro x y hx
            have h1 : x ≠ g := fun e => by rw [e, hf] at hx; cases hx
            have h2 : x ≠ g2 := fun e => by have := hsub x y hx; rw [e, hb2] at this; cases this
            have h3 : x ≠ g3 := fun e => by rw [e, f3] at hx; cases hx
            have h4 : x ≠ gp := fun e => by rw [e, hbp] at hx; cases hx
            simp [h1, h2, h3, h4, hsub x y hx]
        · have : c = nC s := by omega
          subst this
          have w5 : IntKind.i64.wrap ((i : Int) + 1) = i + 1 := i64_in (by omega) (by omega)
          simp [w5, loopQ_normal]
          refine ⟨i + 1, ⟨i * nC s + nC s, g, b⟩, ⟨by omega, by rw [Nat.add_mul]; simp, ⟨hr, hp, hcc, ha, npr, npp, npc, hf, hsub, hneg⟩⟩, by omega, rfl, by simp, sub_eq rfl⟩
      · have : i = nR s := by omega
        subst this
        have hR := P.hr
        simp only at hR
        simp [hR]
        obtain ⟨hr, hp, hcc, ha, npr, npp, npc, hf, hsub, hneg⟩ := P
        simp only at hr hp hcc ha npr npp npc hf hsub hneg
        generalize hB : upd b gr (some ⟨5, [[.int .i64 (nR s), .int .i64 (nC s), .lsl g 1 0 (nR s * nC s), .sl (iv (right s l)), .lsl gc 1 0 (nC s)]]⟩) = B
        have oa : OwnD (dropB B bl) (fl 1 (iv (aTo s (nR s * nC s)))) (.lsl g 1 0 (nR s * nC s)) [g] := own_iv.2 (.inr ⟨g, by simp, rfl, by unfold dropB; rw [hf, ← hB]; simp [npr, ha], hneg⟩)
        have oc : OwnD (dropB B bl) (fl 1 (iv (List.replicate (nC s) 0))) (.lsl gc 1 0 (nC s)) [gc] := own_iv.2 (.inr ⟨gc, by simp, rfl, by unfold dropB; rw [hbc, ← hB]; simp [hcr, hcc], by omega⟩)
        refine retRO [.agg [.int .i64 (nR s), .int .i64 (nC s), .lsl g 1 0 (nR s * nC s), .sl (iv (right s l)), .lsl gc 1 0 (nC s)]] 2 (by simp [← hB]) ?_ ?_
        · show frz (dropB B bl) 2 (.agg [_, _, _, _, _]) = _
          rw [frz_agg, List.mapM_cons, frz_cl rfl, List.mapM_cons, frz_cl rfl, List.mapM_cons, frz_iv oa 0, List.mapM_cons, frz_cl (by simp [V.cl]), List.mapM_cons, frz_iv oc 0]
          simp [Pg.v, fprog]
        · rw [← hB]; simp [hbr, hsub]
  · simp
    intro gp hgp hpr hps hbp
    refine ⟨by simp [hpr, hps, hbp], DAny_one (i := 11) (by kernel_rfl) rfl rfl ?_⟩
    simp
    refine ⟨by omega, by unfold maxLen; omega, fun gc hgc hcp hcr hcs hbc => ⟨by simp [hcs, hcr, hcp, hpr, hps, hbp, hbc], ?_⟩⟩
    have hpc : ¬gp = gc := Ne.symm hcp
    refine DAny_one (i := 12) (by kernel_rfl) rfl rfl ?_
    simp
    refine ⟨by simp [hcs, hcr, hbc, hpc, hcp, hpr, hps, hbp], DAny_one (i := 14) (by kernel_rfl) rfl rfl ?_⟩
    simp [hpc, hcp]
    refine ⟨by simp [hcs, hcr, hbc, hpc, hcp, hpr, hps, hbp], DAny_done (by kernel_rfl) ?_⟩
    simp [Str.c]
    refine AW_ghostCell (g := gp) 0 2 1 (s := 5) (els := [[.int .i64 (nR s), .int .i64 (nC s), .nils, .sl (iv (right s l)), .lsl gc 1 0 (nC s)]]) (by simp) rfl rfl fun ga hga hgap => ?_
    have hga' : bl ga = none ∧ ga ≠ gr ∧ ga ≠ gc := by simp [hgap] at hga; grind
    obtain ⟨hba, har, hac⟩ := hga'
    clear hga
    refine AW_for (fun p : Nat × PS => [(4, .loc gr 5 0 0), (5, .sl (iv (who s))), (6, .sl (iv (sgn s))), (7, .int .i64 s.ms.length), (8, .sl (iv (rowsF s))), (9, .loc gp 5 0 0), (10, .int .i64 p.1)]) (fun p => p.2.b) (fun p => p.1 ≤ nR s ∧ p.2.n = p.1 * nC s ∧ PI bl s l gr gp gc p.2) (fun p => nR s - p.1) 69 (0, ⟨0, ga, _⟩) ⟨Nat.zero_le _, by simp, ⟨?_, ?_, ?_, ?_, har, hgap, hac, hba, ?_, fun _ => rfl⟩⟩ ⟨rfl, by simp, sub_eq rfl⟩ ?_
    · simp [Ne.symm har, hpr, Ne.symm hpr, hcr, Ne.symm hcr]
    · simp [Ne.symm hgap]
    · simp [Ne.symm hac, hpc, Ne.symm hpc, iv]
    · simp [aTo, iv]
    · simp [hgs, hbr, hbc, hbp, hba]
    rintro ⟨i, n, g, b⟩ ⟨hi, hn, P⟩
    simp only at hi hn
    subst hn
    have hP := P.hp
    simp only at hP
    refine AW_run ?_
    simp [hP]
    refine ⟨fun h => ?_, fun h => ?_⟩
    · simp [ew]
      refine AW_for (fun p : Nat × PS => [(4, .loc gr 5 0 0), (5, .sl (iv (who s))), (6, .sl (iv (sgn s))), (7, .int .i64 s.ms.length), (8, .sl (iv (rowsF s))), (9, .loc gp 5 0 0), (10, .int .i64 i), (42, .sl (iv (who s))), (43, .int .i64 (nC s)), (44, .int .i64 p.1)]) (fun p => p.2.b) (fun p => p.1 ≤ nC s ∧ p.2.n = i * nC s + p.1 ∧ PI bl s l gr gp gc p.2) (fun p => nC s - p.1) 69 (0, ⟨i * nC s, g, b⟩) ⟨Nat.zero_le _, rfl, P⟩ ⟨rfl, by simp, sub_eq rfl⟩ ?_
      rintro ⟨c, n, g, b⟩ ⟨hc, hn, P⟩
      simp only at hc hn
      subst hn
      obtain ⟨hr, hp, hcc, ha, npr, npp, npc, hf, hsub, hneg⟩ := P
      simp only at hr hp hcc ha npr npp npc hf hsub hneg
      refine AW_run ?_
      simp
      refine ⟨fun hcl => ?_, fun hcl => ?_⟩
      · have qw := who_at s c hcl
        have qs := sgn_at s c hcl
        obtain ⟨⟨k0, k1⟩, k2⟩ := colAt_ok s c hcl
        simp [-iv_get, qw]
        obtain ⟨⟨k, sg⟩, hk⟩ : ∃ k, colAt s c = k := ⟨_, rfl⟩
        rw [hk] at qw qs k0 k1 k2 ⊢
        simp only at qw qs k0 k1 k2 ⊢
        have m1 : i * s.ms.length ≤ 12 * 8 := Nat.mul_le_mul (by omega) (by omega)
        have mi : ((i * s.ms.length : Nat) : Int) = (i : Int) * s.ms.length := by simp
        have w1 : IntKind.i64.wrap ((i : Int) * s.ms.length) = (i : Int) * s.ms.length := i64_in (by omega) (by omega)
        have w2 : IntKind.i64.wrap ((i : Int) * s.ms.length + k) = (i : Int) * s.ms.length + k := i64_in (by omega) (by omega)
        have e1 : ((i : Int) * s.ms.length + k).toNat = i * s.ms.length + k.toNat := by omega
        have ei : i * s.ms.length + k.toNat < (rowsF s).length := by
          rw [rowsF_length]
          have : (i + 1) * s.ms.length ≤ nR s * s.ms.length := Nat.mul_le_mul_right _ h
          rw [Nat.add_mul] at this; omega
        have qr := iv_at ei
        rw [← e1] at qr
        have bd := rowsF_le hs (i * s.ms.length + k.toNat)
        rw [← e1] at bd
        have en : ent s i c = sg * lat (rowsF s) ((i : Int) * s.ms.length + k).toNat := by unfold ent; rw [hk, e1]
        have w3 : IntKind.i64.wrap (sg * lat (rowsF s) ((i : Int) * s.ms.length + k).toNat) = ent s i c := by
          rw [en]; rcases k2 with rfl | rfl <;> exact i64_in (by omega) (by omega)
        have p1 : 0 ≤ (i : Int) * s.ms.length + k := by omega
        have hK : Sub (upd bl gp (some ⟨5, [[.int .i64 (nR s), .int .i64 (nC s), .lsl g 1 0 (i * nC s + c), .sl (iv (right s l)), .lsl gc 1 0 (nC s)]]⟩)) b := fun x y hx => by
          rw [upd_apply] at hx
          split at hx
          · rename_i e; rw [e, hp]; exact hx
          · exact hsub x y hx
        have mc : (i + 1) * nC s ≤ 12 * 16 := Nat.mul_le_mul (by omega) (by omega)
        rw [Nat.add_mul] at mc
        have tka : (iv (aTo s (i * nC s + c))).take (i * nC s + c) = iv (aTo s (i * nC s + c)) := List.take_of_length_le (by simp)
        refine AW_mixedBT mixedO _ hK [0, 1, 2, 3, 4, 5, 6, 7, 8, 9, 10, 11, 12, 13, 14] 4 18 (by kernel_rfl) ?_
        simp [-iv_get, w1, w2, w3, qs, qr, p1]
        refine DAny_one (i := 15) (by kernel_rfl) rfl rfl ?_
        simp
        intro g2 hg2 hb2
        have n2g : g2 ≠ g := fun e => by rw [e, ha] at hb2; cases hb2
        have n2p : g2 ≠ gp := fun e => by rw [e, hp] at hb2; cases hb2
        have hS : ∀ (u : Int) (B : Int → Option Blk), u ≠ gp → bl u = none → (∀ x y, x ≠ g → x ≠ g2 → x ≠ u → b x = some y → B x = some y) → Sub (upd bl gp (some ⟨5, [[.int .i64 (nR s), .int .i64 (nC s), .lsl g 1 0 (i * nC s + c), .sl (iv (right s l)), .lsl gc 1 0 (nC s)]]⟩)) B := by
          intro u B hu hbu hB x y hx
          refine hB x y ?_ ?_ ?_ (hK x y hx)
          · intro e; rw [e, upd_apply, if_neg npp, hf] at hx; cases hx
          · intro e; have := hK x y hx; rw [e, hb2] at this; cases this
          · intro e; rw [e, upd_apply, if_neg hu, hbu] at hx; cases hx
        refine ⟨hS g _ npp hf (fun x y h1 h2 h3 hx => by simp [h2, hx]), DAny_one (i := 16) (by kernel_rfl) rfl rfl ?_⟩
        simp [n2g, Ne.symm n2g, ha, tka, appV, elsV, Int.not_lt.2 hg2]
        refine ⟨by omega, fun g3 hg3 hb3 => ?_⟩
        have n3p : g3 ≠ gp := by grind
        have n3r : g3 ≠ gr := by grind
        have n3c : g3 ≠ gc := by grind
        have f3 : bl g3 = none := by
          by_cases e : g3 = g
          · rw [e]; exact hf
          · exact fresh_of hsub (hb3 e).2
        have n2r : g2 ≠ gr := fun e => by rw [e, hr] at hb2; cases hb2
        have n2c : g2 ≠ gc := fun e => by rw [e, hcc] at hb2; cases hb2
        refine ⟨hS g3 _ n3p f3 (fun x y h1 h2 h3 hx => by simp [h1, h2, h3, hx]), DAny_one (i := 17) (by kernel_rfl) rfl rfl ?_⟩
        simp
        refine ⟨hS g3 _ n3p f3 (fun x y h1 h2 h3 hx => by simp [h1, h2, h3, hx]), DAny_last (i := 18) (by kernel_rfl) rfl rfl rfl ?_⟩
        simp [n3p, Ne.symm n3p, n2p, Ne.symm n2p, npp, Ne.symm npp, hp]
        refine DAny_done (by kernel_rfl) ?_
        have w4 : IntKind.i64.wrap ((c : Int) + 1) = c + 1 := i64_in (by omega) (by omega)
        simp [w4, loopQ_normal]
        refine ⟨c + 1, ⟨i * nC s + c + 1, g3, _⟩, ⟨by omega, rfl, ⟨?_, ?_, ?_, ?_, n3r, n3p, n3c, f3, ?_, fun e => by simp only at e; omega⟩⟩, by omega, rfl, by simp, sub_eq rfl⟩
        · simp [n3r, Ne.symm n3r, n2r, Ne.symm n2r, npr, Ne.symm npr, hpr, Ne.symm hpr, hr]
        · simp
        · simp [n3c, Ne.symm n3c, n2c, Ne.symm n2c, npc, Ne.symm npc, hpc, Ne.symm hpc, hcc]
        · simp [n3p, aTo_succ s i c hcl, iv_append, iv_one]
        · intro x y hx
          have h1 : x ≠ g := fun e => by rw [e, hf] at hx; cases hx
          have h2 : x ≠ g2 := fun e => by have := hsub x y hx; rw [e, hb2] at this; cases this
          have h3 : x ≠ g3 := fun e => by rw [e, f3] at hx; cases hx
          have h4 : x ≠ gp := fun e => by rw [e, hbp] at hx; cases hx
          simp [h1, h2, h3, h4, hsub x y hx]
      · have : c = nC s := by omega
        subst this
        have w5 : IntKind.i64.wrap ((i : Int) + 1) = i + 1 := i64_in (by omega) (by omega)
        simp [w5, loopQ_normal]
        refine ⟨i + 1, ⟨i * nC s + nC s, g, b⟩, ⟨by omega, by rw [Nat.add_mul]; simp, ⟨hr, hp, hcc, ha, npr, npp, npc, hf, hsub, hneg⟩⟩, by omega, rfl, by simp, sub_eq rfl⟩
    · have : i = nR s := by omega
      subst this
      have hR := P.hr
      simp only at hR
      simp [hR]
      obtain ⟨hr, hp, hcc, ha, npr, npp, npc, hf, hsub, hneg⟩ := P
      simp only at hr hp hcc ha npr npp npc hf hsub hneg
      generalize hB : upd b gr (some ⟨5, [[.int .i64 (nR s), .int .i64 (nC s), .lsl g 1 0 (nR s * nC s), .sl (iv (right s l)), .lsl gc 1 0 (nC s)]]⟩) = B
      have oa : OwnD (dropB B bl) (fl 1 (iv (aTo s (nR s * nC s)))) (.lsl g 1 0 (nR s * nC s)) [g] := own_iv.2 (.inr ⟨g, by simp, rfl, by unfold dropB; rw [hf, ← hB]; simp [npr, ha], hneg⟩)
      have oc : OwnD (dropB B bl) (fl 1 (iv (List.replicate (nC s) 0))) (.lsl gc 1 0 (nC s)) [gc] := own_iv.2 (.inr ⟨gc, by simp, rfl, by unfold dropB; rw [hbc, ← hB]; simp [hcr, hcc], by omega⟩)
      refine retRO [.agg [.int .i64 (nR s), .int .i64 (nC s), .lsl g 1 0 (nR s * nC s), .sl (iv (right s l)), .lsl gc 1 0 (nC s)]] 2 (by simp [← hB]) ?_ ?_
      · show frz (dropB B bl) 2 (.agg [_, _, _, _, _]) = _
        rw [frz_agg, List.mapM_cons, frz_cl rfl, List.mapM_cons, frz_cl rfl, List.mapM_cons, frz_iv oa 0, List.mapM_cons, frz_cl (by simp [V.cl]), List.mapM_cons, frz_iv oc 0]
        simp [Pg.v, fprog]
      · rw [← hB]; simp [hbr, hsub]

end Go.Proofs.YticmgmemnpcbbaaGreat.Vm

namespace Go.Proofs.YticmgmemnpcbbaaGreat.Vm
open Go Go.Proofs
set_option linter.unusedSimpArgs false
set_option linter.unusedVariables false

theorem flat_at {n : Nat} : ∀ (rs : List (List Int)), (∀ r, r ∈ rs → r.length = n) → ∀ (i k : Nat) (hi : i < rs.length), k < n → lat rs.flatten (i * n + k) = lat rs[i] k
  | [], _, i, k, hi, _ => by simp at hi
  | r :: rs, h, 0, k, hi, hk => by
    have := h r List.mem_cons_self
    simp [lat, List.flatten_cons, List.getElem?_append_left (show k < r.length by omega)]
  | r :: rs, h, i + 1, k, hi, hk => by
    have hr := h r List.mem_cons_self
    have ih := flat_at rs (fun r hr => h r (List.mem_cons_of_mem _ hr)) i k (by simpa using hi) hk
    have e : (i + 1) * n + k = r.length + (i * n + k) := by rw [hr, Nat.add_mul]; omega
    rw [List.flatten_cons, e]
    simp only [lat, List.getD_eq_getElem?_getD] at ih ⊢
    rw [List.getElem?_append_right (by omega), Nat.add_sub_cancel_left, ih]; rfl
theorem rowsF_flat (s : Str) : rowsF s = (eqRows s).flatten := by
  unfold rowsF eqRows
  induction frees s.js with
  | nil => rfl
  | cons j js ih => simp [ih]
theorem eqRows_len (s : Str) : ∀ r, r ∈ eqRows s → r.length = s.ms.length := by
  intro r hr
  unfold eqRows at hr
  obtain ⟨j, _, hr⟩ := List.mem_flatMap.1 hr
  simp at hr
  rcases hr with rfl | rfl <;> simp
theorem aTo_at (s : Str) (n m : Nat) (h : m < n) : (iv (aTo s n))[m]'(by simpa using h) = [.int .i64 (ent s (m / nC s) (m % nC s))] := by simp [aTo]
theorem right_length (s : Str) (l : List Int) : (right s l).length = nR s := by
  have e : right s l = rightTo s l (frees s.js).length := by simp [right, rightTo]
  rw [e, rightTo_length s l _ (Nat.le_refl _)]; rfl
theorem right_at (s : Str) (l : List Int) : ∀ (fs : List Int) (i : Nat) (h : i < fs.length), lat (fs.flatMap fun j => [-lat l (2 * j).toNat, -lat l (2 * j + 1).toNat]) (2 * i) = -lat l (2 * fs[i]).toNat ∧ lat (fs.flatMap fun j => [-lat l (2 * j).toNat, -lat l (2 * j + 1).toNat]) (2 * i + 1) = -lat l (2 * fs[i] + 1).toNat
  | [], i, h => by simp at h
  | f :: fs, 0, _ => by simp [lat]
  | f :: fs, i + 1, h => by
    have ih := right_at s l fs i (by simpa using h)
    have e1 : 2 * (i + 1) = (2 * i) + 1 + 1 := by omega
    have e2 : 2 * (i + 1) + 1 = (2 * i + 1) + 1 + 1 := by omega
    rw [e2, e1]
    simpa [lat] using ih

theorem equilibrium_ro (s : Str) (hs : SOk s) : RO Tryz.prog 148 [.ptr s.c] (.sl (ivv (eqRows s))) := by
  have := ro_of_nw 2 (equilibrium_nw s hs) (dII_dep _)
  rwa [dII_fz] at this

def dPg (p : Pg) : D := .a [.c (.int .i64 p.rows), .c (.int .i64 p.cols), fl 1 (iv p.a), fl 1 (iv p.b), fl 1 (iv p.c)]

structure ABC where
  a : Int
  b : Int
  c : Int
structure abcOk (bl : Int → Option Blk) (gr gp : Int) (p : ABC) : Prop where
  a0 : 0 ≤ p.a
  b0 : 0 ≤ p.b
  c0 : 0 ≤ p.c
  ba : ¬p.b = p.a
  ca : ¬p.c = p.a
  cb : ¬p.c = p.b
  ar : ¬p.a = gr
  ap : ¬p.a = gp
  br : ¬p.b = gr
  bp : ¬p.b = gp
  cr : ¬p.c = gr
  cp : ¬p.c = gp
  fa : bl p.a = none
  fb : bl p.b = none
  fc : bl p.c = none

set_option maxHeartbeats 4000000 in
theorem forceProgram_nw (s : Str) (l : List Int) (hL : LOk s l) : NW Tryz.prog 72 [.ptr s.c, .sl (iv l), .int .i64 0, .int .i64 0] (dPg (fprog s l)) := by
  have hs := hL.sok
  have h6 := hs.nj
  have h8 := hs.nm
  have hfr := freesTo_le s.js s.js.length
  change (frees s.js).length ≤ s.js.length at hfr
  have hcn : nC s ≤ 2 * s.ms.length := colsTo_le s.ms s.ms.length
  have hrn : nR s ≤ 12 := by unfold nR; omega
  have er : (eqRows s).length = nR s := by
    have e : eqRows s = eqTo s (frees s.js).length := by simp [eqTo, eqRows]
    rw [e, eqTo_length s _ (Nat.le_refl _)]; rfl
  have ec : (cols s.ms).length = nC s := rfl
  refine nw_of Tryz.func72 rfl rfl (by rw [Tryz.ntmps72]; simp) fun bl => ?_
  rw [Tryz.ntmps72, Tryz.results72]
  refine AW_runA ?_
  simp
  intro gr hgr0 hbr
  refine AW_runA ?_
  simp
  refine callP_ro (equilibrium_ro s hs) ?_
  simp
  refine callP_ro (columns_ro s (by omega)) ?_
  simp
  refine AW_runA ?_
  have w1 : IntKind.i64.wrap (nR s : Int) = nR s := i64_in (by omega) (by omega)
  have w2 : IntKind.i64.wrap (nC s : Int) = nC s := i64_in (by omega) (by omega)
  simp [er, ec, w1, w2]
  intro gp hgp0 hpr hbp
  obtain ⟨nA, hA⟩ : ∃ n : Nat, n = nR s * nC s := ⟨_, rfl⟩
  have hA2 : nA ≤ 12 * 16 := by rw [hA]; exact Nat.mul_le_mul (by omega) (by omega)
  have w3 : IntKind.i64.wrap ((nR s : Int) * nC s) = nA := by
    rw [hA]
    have : ((nR s * nC s : Nat) : Int) = nR s * nC s := by simp
    rw [← this]
    exact i64_in (by omega) (by omega)
  let S : ABC → List (Nat × V) := fun _ => [(0, .ptr s.c), (1, .sl (iv l)), (8, .loc gr 5 0 0), (9, .sl (ivv (eqRows s))), (10, .sl (cv (cols s.ms))), (11, .loc gp 5 0 0)]
  let B : ABC → Int → Option Blk := fun p => upd (upd (upd (upd (upd bl gr (some ⟨5, [[.int .i64 0, .int .i64 0, .nils, .nils, .nils]]⟩)) gp (some ⟨5, [[.int .i64 (nR s), .int .i64 (nC s), .lsl p.a 1 0 nA, .lsl p.b 1 0 (nR s), .lsl p.c 1 0 (nC s)]]⟩)) p.a (some ⟨1, List.replicate nA [.int .i64 0]⟩)) p.b (some ⟨1, List.replicate (nR s) [.int .i64 0]⟩)) p.c (some ⟨1, List.replicate (nC s) [.int .i64 0]⟩)
  have leaf : ∀ (n : Nat) (σ : St) (ga gb gc : Int), 0 ≤ ga → 0 ≤ gb → 0 ≤ gc → ¬gb = ga → ¬gc = ga → ¬gc = gb → ¬ga = gr → ¬ga = gp → ¬gb = gr → ¬gb = gp → ¬gc = gr → ¬gc = gp → bl ga = none → bl gb = none → bl gc = none → σ.n = n → (∀ p, p ∈ S ⟨ga, gb, gc⟩ → σ.sl p.1 = p.2) → Sub (B ⟨ga, gb, gc⟩) σ.bl →
      ∃ a, abcOk bl gr gp a ∧ Fit (S a) n (B a) σ := fun n σ ga gb gc h1 h2 h3 h4 h5 h6 h7 h8 h9 h10 h11 h12 h13 h14 h15 h16 h17 h18 => ⟨⟨ga, gb, gc⟩, ⟨h1, h2, h3, h4, h5, h6, h7, h8, h9, h10, h11, h12, h13, h14, h15⟩, h16, h17, h18⟩
  refine AW_mid S B (abcOk bl gr gp) 113 ?_ ?_
  · refine AW_mixedL mixedO _ (Sub.refl _) [0, 1, 2, 3, 4, 6, 7, 9, 10] 9 12 (by kernel_rfl) ?_
    simp [w3]
    refine DL_three (i := 5) (j := 8) (m := 11) false false false (by kernel_rfl) rfl rfl (by kernel_rfl) rfl rfl (by kernel_rfl) rfl rfl (by kernel_rfl) ?_ ?_ ?_
    · simp [hpr, Ne.symm hpr, hbr, hbp]
      refine ⟨by omega, by unfold maxLen; omega, ?_⟩
      intro ga hga
      intros
      have n_ga_gr : ¬ga = gr := by assumption
      have n_ga_gp : ¬ga = gp := by assumption
      have hb_ga : bl ga = none := by assumption
      refine ⟨by simp [hpr, Ne.symm hpr, n_ga_gr, Ne.symm n_ga_gr, n_ga_gp, Ne.symm n_ga_gp, hbr, hbp, hb_ga], ?_⟩
      refine DL_three (i := 8) (j := 11) (m := 12) false false true (by kernel_rfl) rfl rfl (by kernel_rfl) rfl rfl (by kernel_rfl) rfl rfl (by kernel_rfl) ?_ ?_ ?_
      · simp [hpr, Ne.symm hpr, n_ga_gr, Ne.symm n_ga_gr, n_ga_gp, Ne.symm n_ga_gp, hbr, hbp, hb_ga]
        refine ⟨by omega, by unfold maxLen; omega, ?_⟩
        intro gb hgb
        intros
        have n_gb_gr : ¬gb = gr := by assumption
        have n_gb_gp : ¬gb = gp := by assumption
        have n_gb_ga : ¬gb = ga := by assumption
        have hb_gb : bl gb = none := by assumption
        refine ⟨by simp [hpr, Ne.symm hpr, n_ga_gr, Ne.symm n_ga_gr, n_ga_gp, Ne.symm n_ga_gp, n_gb_gr, Ne.symm n_gb_gr, n_gb_gp, Ne.symm n_gb_gp, n_gb_ga, Ne.symm n_gb_ga, hbr, hbp, hb_ga, hb_gb], ?_⟩
        refine DL_two (i := 11) (j := 12) false true (by kernel_rfl) rfl rfl (by kernel_rfl) rfl rfl (by kernel_rfl) ?_ ?_
        · simp [hpr, Ne.symm hpr, n_ga_gr, Ne.symm n_ga_gr, n_ga_gp, Ne.symm n_ga_gp, n_gb_gr, Ne.symm n_gb_gr, n_gb_gp, Ne.symm n_gb_gp, n_gb_ga, Ne.symm n_gb_ga, hbr, hbp, hb_ga, hb_gb]
          refine ⟨by omega, by unfold maxLen; omega, ?_⟩
          intro gc hgc
          intros
          have n_gc_gr : ¬gc = gr := by assumption
          have n_gc_gp : ¬gc = gp := by assumption
          have n_gc_ga : ¬gc = ga := by assumption
          have n_gc_gb : ¬gc = gb := by assumption
          have hb_gc : bl gc = none := by assumption
          refine ⟨by simp [hpr, Ne.symm hpr, n_ga_gr, Ne.symm n_ga_gr, n_ga_gp, Ne.symm n_ga_gp, n_gb_gr, Ne.symm n_gb_gr, n_gb_gp, Ne.symm n_gb_gp, n_gb_ga, Ne.symm n_gb_ga, n_gc_gr, Ne.symm n_gc_gr, n_gc_gp, Ne.symm n_gc_gp, n_gc_ga, Ne.symm n_gc_ga, n_gc_gb, Ne.symm n_gc_gb, hbr, hbp, hb_ga, hb_gb, hb_gc], ?_⟩
          refine DL_one (i := 12) true (by kernel_rfl) rfl rfl (by kernel_rfl) ?_
          simp [hpr, Ne.symm hpr, n_ga_gr, Ne.symm n_ga_gr, n_ga_gp, Ne.symm n_ga_gp, n_gb_gr, Ne.symm n_gb_gr, n_gb_gp, Ne.symm n_gb_gp, n_gb_ga, Ne.symm n_gb_ga, n_gc_gr, Ne.symm n_gc_gr, n_gc_gp, Ne.symm n_gc_gp, n_gc_ga, Ne.symm n_gc_ga, n_gc_gb, Ne.symm n_gc_gb, hbr, hbp, hb_ga, hb_gb, hb_gc]
          refine DL_one (i := 13) true (by kernel_rfl) rfl rfl (by kernel_rfl) ?_
          simp [hpr, Ne.symm hpr, n_ga_gr, Ne.symm n_ga_gr, n_ga_gp, Ne.symm n_ga_gp, n_gb_gr, Ne.symm n_gb_gr, n_gb_gp, Ne.symm n_gb_gp, n_gb_ga, Ne.symm n_gb_ga, n_gc_gr, Ne.symm n_gc_gr, n_gc_gp, Ne.symm n_gc_gp, n_gc_ga, Ne.symm n_gc_ga, n_gc_gb, Ne.symm n_gc_gb, hbr, hbp, hb_ga, hb_gb, hb_gc]
          refine DL_one (i := 14) true (by kernel_rfl) rfl rfl (by kernel_rfl) ?_
          simp [hpr, Ne.symm hpr, n_ga_gr, Ne.symm n_ga_gr, n_ga_gp, Ne.symm n_ga_gp, n_gb_gr, Ne.symm n_gb_gr, n_gb_gp, Ne.symm n_gb_gp, n_gb_ga, Ne.symm n_gb_ga, n_gc_gr, Ne.symm n_gc_gr, n_gc_gp, Ne.symm n_gc_gp, n_gc_ga, Ne.symm n_gc_ga, n_gc_gb, Ne.symm n_gc_gb, hbr, hbp, hb_ga, hb_gb, hb_gc]
          refine DL_one (i := 15) true (by kernel_rfl) rfl rfl (by kernel_rfl) ?_
          simp [hpr, Ne.symm hpr, n_ga_gr, Ne.symm n_ga_gr, n_ga_gp, Ne.symm n_ga_gp, n_gb_gr, Ne.symm n_gb_gr, n_gb_gp, Ne.symm n_gb_gp, n_gb_ga, Ne.symm n_gb_ga, n_gc_gr, Ne.symm n_gc_gr, n_gc_gp, Ne.symm n_gc_gp, n_gc_ga, Ne.symm n_gc_ga, n_gc_gb, Ne.symm n_gc_gb, hbr, hbp, hb_ga, hb_gb, hb_gc]
          refine DL_one (i := 16) true (by kernel_rfl) rfl rfl (by kernel_rfl) ?_
          simp [hpr, Ne.symm hpr, n_ga_gr, Ne.symm n_ga_gr, n_ga_gp, Ne.symm n_ga_gp, n_gb_gr, Ne.symm n_gb_gr, n_gb_gp, Ne.symm n_gb_gp, n_gb_ga, Ne.symm n_gb_ga, n_gc_gr, Ne.symm n_gc_gr, n_gc_gp, Ne.symm n_gc_gp, n_gc_ga, Ne.symm n_gc_ga, n_gc_gb, Ne.symm n_gc_gb, hbr, hbp, hb_ga, hb_gb, hb_gc]
          refine DL_one (i := 17) true (by kernel_rfl) rfl rfl (by kernel_rfl) ?_
          simp [hpr, Ne.symm hpr, n_ga_gr, Ne.symm n_ga_gr, n_ga_gp, Ne.symm n_ga_gp, n_gb_gr, Ne.symm n_gb_gr, n_gb_gp, Ne.symm n_gb_gp, n_gb_ga, Ne.symm n_gb_ga, n_gc_gr, Ne.symm n_gc_gr, n_gc_gp, Ne.symm n_gc_gp, n_gc_ga, Ne.symm n_gc_ga, n_gc_gb, Ne.symm n_gc_gb, hbr, hbp, hb_ga, hb_gb, hb_gc]
          refine DL_done (by kernel_rfl) ?_
          rw [midQ_normal]
          exact leaf _ _ ga gb gc hga hgb hgc (by first | exact n_gb_ga | exact Ne.symm n_ga_gb) (by first | exact n_gc_ga | exact Ne.symm n_ga_gc) (by first | exact n_gc_gb | exact Ne.symm n_gb_gc) n_ga_gr n_ga_gp n_gb_gr n_gb_gp n_gc_gr n_gc_gp hb_ga hb_gb hb_gc rfl (by simp [S]) (by intro x y hx; simp only [B, upd_apply] at hx ⊢; grind)
        · simp [hpr, Ne.symm hpr, n_ga_gr, Ne.symm n_ga_gr, n_ga_gp, Ne.symm n_ga_gp, n_gb_gr, Ne.symm n_gb_gr, n_gb_gp, Ne.symm n_gb_gp, n_gb_ga, Ne.symm n_gb_ga, hbr, hbp, hb_ga, hb_gb]
          refine DL_two (i := 11) (j := 13) true true (by kernel_rfl) rfl rfl (by kernel_rfl) rfl rfl (by kernel_rfl) ?_ ?_
          · simp [hpr, Ne.symm hpr, n_ga_gr, Ne.symm n_ga_gr, n_ga_gp, Ne.symm n_ga_gp, n_gb_gr, Ne.symm n_gb_gr, n_gb_gp, Ne.symm n_gb_gp, n_gb_ga, Ne.symm n_gb_ga, hbr, hbp, hb_ga, hb_gb]
            refine ⟨by omega, by unfold maxLen; omega, ?_⟩
            intro gc hgc
            intros
            have n_gc_gr : ¬gc = gr := by assumption
            have n_gc_gp : ¬gc = gp := by assumption
            have n_gc_ga : ¬gc = ga := by assumption
            have n_gc_gb : ¬gc = gb := by assumption
            have hb_gc : bl gc = none := by assumption
            refine DL_one (i := 13) true (by kernel_rfl) rfl rfl (by kernel_rfl) ?_
            simp [hpr, Ne.symm hpr, n_ga_gr, Ne.symm n_ga_gr, n_ga_gp, Ne.symm n_ga_gp, n_gb_gr, Ne.symm n_gb_gr, n_gb_gp, Ne.symm n_gb_gp, n_gb_ga, Ne.symm n_gb_ga, n_gc_gr, Ne.symm n_gc_gr, n_gc_gp, Ne.symm n_gc_gp, n_gc_ga, Ne.symm n_gc_ga, n_gc_gb, Ne.symm n_gc_gb, hbr, hbp, hb_ga, hb_gb, hb_gc]
            refine DL_one (i := 14) true (by kernel_rfl) rfl rfl (by kernel_rfl) ?_
            simp [hpr, Ne.symm hpr, n_ga_gr, Ne.symm n_ga_gr, n_ga_gp, Ne.symm n_ga_gp, n_gb_gr, Ne.symm n_gb_gr, n_gb_gp, Ne.symm n_gb_gp, n_gb_ga, Ne.symm n_gb_ga, n_gc_gr, Ne.symm n_gc_gr, n_gc_gp, Ne.symm n_gc_gp, n_gc_ga, Ne.symm n_gc_ga, n_gc_gb, Ne.symm n_gc_gb, hbr, hbp, hb_ga, hb_gb, hb_gc]
            refine DL_one (i := 15) true (by kernel_rfl) rfl rfl (by kernel_rfl) ?_
            simp [hpr, Ne.symm hpr, n_ga_gr, Ne.symm n_ga_gr, n_ga_gp, Ne.symm n_ga_gp, n_gb_gr, Ne.symm n_gb_gr, n_gb_gp, Ne.symm n_gb_gp, n_gb_ga, Ne.symm n_gb_ga, n_gc_gr, Ne.symm n_gc_gr, n_gc_gp, Ne.symm n_gc_gp, n_gc_ga, Ne.symm n_gc_ga, n_gc_gb, Ne.symm n_gc_gb, hbr, hbp, hb_ga, hb_gb, hb_gc]
            refine DL_one (i := 16) true (by kernel_rfl) rfl rfl (by kernel_rfl) ?_
            simp [hpr, Ne.symm hpr, n_ga_gr, Ne.symm n_ga_gr, n_ga_gp, Ne.symm n_ga_gp, n_gb_gr, Ne.symm n_gb_gr, n_gb_gp, Ne.symm n_gb_gp, n_gb_ga, Ne.symm n_gb_ga, n_gc_gr, Ne.symm n_gc_gr, n_gc_gp, Ne.symm n_gc_gp, n_gc_ga, Ne.symm n_gc_ga, n_gc_gb, Ne.symm n_gc_gb, hbr, hbp, hb_ga, hb_gb, hb_gc]
            refine DL_one (i := 17) true (by kernel_rfl) rfl rfl (by kernel_rfl) ?_
            simp [hpr, Ne.symm hpr, n_ga_gr, Ne.symm n_ga_gr, n_ga_gp, Ne.symm n_ga_gp, n_gb_gr, Ne.symm n_gb_gr, n_gb_gp, Ne.symm n_gb_gp, n_gb_ga, Ne.symm n_gb_ga, n_gc_gr, Ne.symm n_gc_gr, n_gc_gp, Ne.symm n_gc_gp, n_gc_ga, Ne.symm n_gc_ga, n_gc_gb, Ne.symm n_gc_gb, hbr, hbp, hb_ga, hb_gb, hb_gc]
            refine DL_done (by kernel_rfl) ?_
            rw [midQ_normal]
            exact leaf _ _ ga gb gc hga hgb hgc (by first | exact n_gb_ga | exact Ne.symm n_ga_gb) (by first | exact n_gc_ga | exact Ne.symm n_ga_gc) (by first | exact n_gc_gb | exact Ne.symm n_gb_gc) n_ga_gr n_ga_gp n_gb_gr n_gb_gp n_gc_gr n_gc_gp hb_ga hb_gb hb_gc rfl (by simp [S]) (by intro x y hx; simp only [B, upd_apply] at hx ⊢; grind)
          · simp [hpr, Ne.symm hpr, n_ga_gr, Ne.symm n_ga_gr, n_ga_gp, Ne.symm n_ga_gp, n_gb_gr, Ne.symm n_gb_gr, n_gb_gp, Ne.symm n_gb_gp, n_gb_ga, Ne.symm n_gb_ga, hbr, hbp, hb_ga, hb_gb]
            refine DL_two (i := 11) (j := 14) true true (by kernel_rfl) rfl rfl (by kernel_rfl) rfl rfl (by kernel_rfl) ?_ ?_
            · simp [hpr, Ne.symm hpr, n_ga_gr, Ne.symm n_ga_gr, n_ga_gp, Ne.symm n_ga_gp, n_gb_gr, Ne.symm n_gb_gr, n_gb_gp, Ne.symm n_gb_gp, n_gb_ga, Ne.symm n_gb_ga, hbr, hbp, hb_ga, hb_gb]
              refine ⟨by omega, by unfold maxLen; omega, ?_⟩
              intro gc hgc
              intros
              have n_gc_gr : ¬gc = gr := by assumption
              have n_gc_gp : ¬gc = gp := by assumption
              have n_gc_ga : ¬gc = ga := by assumption
              have n_gc_gb : ¬gc = gb := by assumption
              have hb_gc : bl gc = none := by assumption
              refine DL_one (i := 14) true (by kernel_rfl) rfl rfl (by kernel_rfl) ?_
              simp [hpr, Ne.symm hpr, n_ga_gr, Ne.symm n_ga_gr, n_ga_gp, Ne.symm n_ga_gp, n_gb_gr, Ne.symm n_gb_gr, n_gb_gp, Ne.symm n_gb_gp, n_gb_ga, Ne.symm n_gb_ga, n_gc_gr, Ne.symm n_gc_gr, n_gc_gp, Ne.symm n_gc_gp, n_gc_ga, Ne.symm n_gc_ga, n_gc_gb, Ne.symm n_gc_gb, hbr, hbp, hb_ga, hb_gb, hb_gc]
              refine DL_one (i := 15) true (by kernel_rfl) rfl rfl (by kernel_rfl) ?_
              simp [hpr, Ne.symm hpr, n_ga_gr, Ne.symm n_ga_gr, n_ga_gp, Ne.symm n_ga_gp, n_gb_gr, Ne.symm n_gb_gr, n_gb_gp, Ne.symm n_gb_gp, n_gb_ga, Ne.symm n_gb_ga, n_gc_gr, Ne.symm n_gc_gr, n_gc_gp, Ne.symm n_gc_gp, n_gc_ga, Ne.symm n_gc_ga, n_gc_gb, Ne.symm n_gc_gb, hbr, hbp, hb_ga, hb_gb, hb_gc]
              refine DL_one (i := 16) true (by kernel_rfl) rfl rfl (by kernel_rfl) ?_
              simp [hpr, Ne.symm hpr, n_ga_gr, Ne.symm n_ga_gr, n_ga_gp, Ne.symm n_ga_gp, n_gb_gr, Ne.symm n_gb_gr, n_gb_gp, Ne.symm n_gb_gp, n_gb_ga, Ne.symm n_gb_ga, n_gc_gr, Ne.symm n_gc_gr, n_gc_gp, Ne.symm n_gc_gp, n_gc_ga, Ne.symm n_gc_ga, n_gc_gb, Ne.symm n_gc_gb, hbr, hbp, hb_ga, hb_gb, hb_gc]
              refine DL_one (i := 17) true (by kernel_rfl) rfl rfl (by kernel_rfl) ?_
              simp [hpr, Ne.symm hpr, n_ga_gr, Ne.symm n_ga_gr, n_ga_gp, Ne.symm n_ga_gp, n_gb_gr, Ne.symm n_gb_gr, n_gb_gp, Ne.symm n_gb_gp, n_gb_ga, Ne.symm n_gb_ga, n_gc_gr, Ne.symm n_gc_gr, n_gc_gp, Ne.symm n_gc_gp, n_gc_ga, Ne.symm n_gc_ga, n_gc_gb, Ne.symm n_gc_gb, hbr, hbp, hb_ga, hb_gb, hb_gc]
              refine DL_done (by kernel_rfl) ?_
              rw [midQ_normal]
              exact leaf _ _ ga gb gc hga hgb hgc (by first | exact n_gb_ga | exact Ne.symm n_ga_gb) (by first | exact n_gc_ga | exact Ne.symm n_ga_gc) (by first | exact n_gc_gb | exact Ne.symm n_gb_gc) n_ga_gr n_ga_gp n_gb_gr n_gb_gp n_gc_gr n_gc_gp hb_ga hb_gb hb_gc rfl (by simp [S]) (by intro x y hx; simp only [B, upd_apply] at hx ⊢; grind)
            · simp [hpr, Ne.symm hpr, n_ga_gr, Ne.symm n_ga_gr, n_ga_gp, Ne.symm n_ga_gp, n_gb_gr, Ne.symm n_gb_gr, n_gb_gp, Ne.symm n_gb_gp, n_gb_ga, Ne.symm n_gb_ga, hbr, hbp, hb_ga, hb_gb]
              refine DL_two (i := 11) (j := 15) true true (by kernel_rfl) rfl rfl (by kernel_rfl) rfl rfl (by kernel_rfl) ?_ ?_
              · simp [hpr, Ne.symm hpr, n_ga_gr, Ne.symm n_ga_gr, n_ga_gp, Ne.symm n_ga_gp, n_gb_gr, Ne.symm n_gb_gr, n_gb_gp, Ne.symm n_gb_gp, n_gb_ga, Ne.symm n_gb_ga, hbr, hbp, hb_ga, hb_gb]
                refine ⟨by omega, by unfold maxLen; omega, ?_⟩
                intro gc hgc
                intros
                have n_gc_gr : ¬gc = gr := by assumption
                have n_gc_gp : ¬gc = gp := by assumption
                have n_gc_ga : ¬gc = ga := by assumption
                have n_gc_gb : ¬gc = gb := by assumption
                have hb_gc : bl gc = none := by assumption
                refine DL_one (i := 15) true (by kernel_rfl) rfl rfl (by kernel_rfl) ?_
                simp [hpr, Ne.symm hpr, n_ga_gr, Ne.symm n_ga_gr, n_ga_gp, Ne.symm n_ga_gp, n_gb_gr, Ne.symm n_gb_gr, n_gb_gp, Ne.symm n_gb_gp, n_gb_ga, Ne.symm n_gb_ga, n_gc_gr, Ne.symm n_gc_gr, n_gc_gp, Ne.symm n_gc_gp, n_gc_ga, Ne.symm n_gc_ga, n_gc_gb, Ne.symm n_gc_gb, hbr, hbp, hb_ga, hb_gb, hb_gc]
                refine DL_one (i := 16) true (by kernel_rfl) rfl rfl (by kernel_rfl) ?_
                simp [hpr, Ne.symm hpr, n_ga_gr, Ne.symm n_ga_gr, n_ga_gp, Ne.symm n_ga_gp, n_gb_gr, Ne.symm n_gb_gr, n_gb_gp, Ne.symm n_gb_gp, n_gb_ga, Ne.symm n_gb_ga, n_gc_gr, Ne.symm n_gc_gr, n_gc_gp, Ne.symm n_gc_gp, n_gc_ga, Ne.symm n_gc_ga, n_gc_gb, Ne.symm n_gc_gb, hbr, hbp, hb_ga, hb_gb, hb_gc]
                refine DL_one (i := 17) true (by kernel_rfl) rfl rfl (by kernel_rfl) ?_
                simp [hpr, Ne.symm hpr, n_ga_gr, Ne.symm n_ga_gr, n_ga_gp, Ne.symm n_ga_gp, n_gb_gr, Ne.symm n_gb_gr, n_gb_gp, Ne.symm n_gb_gp, n_gb_ga, Ne.symm n_gb_ga, n_gc_gr, Ne.symm n_gc_gr, n_gc_gp, Ne.symm n_gc_gp, n_gc_ga, Ne.symm n_gc_ga, n_gc_gb, Ne.symm n_gc_gb, hbr, hbp, hb_ga, hb_gb, hb_gc]
                refine DL_done (by kernel_rfl) ?_
                rw [midQ_normal]
                exact leaf _ _ ga gb gc hga hgb hgc (by first | exact n_gb_ga | exact Ne.symm n_ga_gb) (by first | exact n_gc_ga | exact Ne.symm n_ga_gc) (by first | exact n_gc_gb | exact Ne.symm n_gb_gc) n_ga_gr n_ga_gp n_gb_gr n_gb_gp n_gc_gr n_gc_gp hb_ga hb_gb hb_gc rfl (by simp [S]) (by intro x y hx; simp only [B, upd_apply] at hx ⊢; grind)
              · simp [hpr, Ne.symm hpr, n_ga_gr, Ne.symm n_ga_gr, n_ga_gp, Ne.symm n_ga_gp, n_gb_gr, Ne.symm n_gb_gr, n_gb_gp, Ne.symm n_gb_gp, n_gb_ga, Ne.symm n_gb_ga, hbr, hbp, hb_ga, hb_gb]
                refine DL_one (i := 11) true (by kernel_rfl) rfl rfl (by kernel_rfl) ?_
                simp [hpr, Ne.symm hpr, n_ga_gr, Ne.symm n_ga_gr, n_ga_gp, Ne.symm n_ga_gp, n_gb_gr, Ne.symm n_gb_gr, n_gb_gp, Ne.symm n_gb_gp, n_gb_ga, Ne.symm n_gb_ga, hbr, hbp, hb_ga, hb_gb]
                refine ⟨by omega, by unfold maxLen; omega, ?_⟩
                intro gc hgc
                intros
                have n_gc_gr : ¬gc = gr := by assumption
                have n_gc_gp : ¬gc = gp := by assumption
                have n_gc_ga : ¬gc = ga := by assumption
                have n_gc_gb : ¬gc = gb := by assumption
                have hb_gc : bl gc = none := by assumption
                refine DL_one (i := 16) true (by kernel_rfl) rfl rfl (by kernel_rfl) ?_
                simp [hpr, Ne.symm hpr, n_ga_gr, Ne.symm n_ga_gr, n_ga_gp, Ne.symm n_ga_gp, n_gb_gr, Ne.symm n_gb_gr, n_gb_gp, Ne.symm n_gb_gp, n_gb_ga, Ne.symm n_gb_ga, n_gc_gr, Ne.symm n_gc_gr, n_gc_gp, Ne.symm n_gc_gp, n_gc_ga, Ne.symm n_gc_ga, n_gc_gb, Ne.symm n_gc_gb, hbr, hbp, hb_ga, hb_gb, hb_gc]
                refine DL_one (i := 17) true (by kernel_rfl) rfl rfl (by kernel_rfl) ?_
                simp [hpr, Ne.symm hpr, n_ga_gr, Ne.symm n_ga_gr, n_ga_gp, Ne.symm n_ga_gp, n_gb_gr, Ne.symm n_gb_gr, n_gb_gp, Ne.symm n_gb_gp, n_gb_ga, Ne.symm n_gb_ga, n_gc_gr, Ne.symm n_gc_gr, n_gc_gp, Ne.symm n_gc_gp, n_gc_ga, Ne.symm n_gc_ga, n_gc_gb, Ne.symm n_gc_gb, hbr, hbp, hb_ga, hb_gb, hb_gc]
                refine DL_done (by kernel_rfl) ?_
                rw [midQ_normal]
                exact leaf _ _ ga gb gc hga hgb hgc (by first | exact n_gb_ga | exact Ne.symm n_ga_gb) (by first | exact n_gc_ga | exact Ne.symm n_ga_gc) (by first | exact n_gc_gb | exact Ne.symm n_gb_gc) n_ga_gr n_ga_gp n_gb_gr n_gb_gp n_gc_gr n_gc_gp hb_ga hb_gb hb_gc rfl (by simp [S]) (by intro x y hx; simp only [B, upd_apply] at hx ⊢; grind)
      · simp [hpr, Ne.symm hpr, n_ga_gr, Ne.symm n_ga_gr, n_ga_gp, Ne.symm n_ga_gp, hbr, hbp, hb_ga]
        refine ⟨by omega, by unfold maxLen; omega, ?_⟩
        intro gc hgc
        intros
        have n_gc_gr : ¬gc = gr := by assumption
        have n_gc_gp : ¬gc = gp := by assumption
        have n_gc_ga : ¬gc = ga := by assumption
        have hb_gc : bl gc = none := by assumption
        refine ⟨by simp [hpr, Ne.symm hpr, n_ga_gr, Ne.symm n_ga_gr, n_ga_gp, Ne.symm n_ga_gp, n_gc_gr, Ne.symm n_gc_gr, n_gc_gp, Ne.symm n_gc_gp, n_gc_ga, Ne.symm n_gc_ga, hbr, hbp, hb_ga, hb_gc], ?_⟩
        refine DL_two (i := 8) (j := 12) false true (by kernel_rfl) rfl rfl (by kernel_rfl) rfl rfl (by kernel_rfl) ?_ ?_
        · simp [hpr, Ne.symm hpr, n_ga_gr, Ne.symm n_ga_gr, n_ga_gp, Ne.symm n_ga_gp, n_gc_gr, Ne.symm n_gc_gr, n_gc_gp, Ne.symm n_gc_gp, n_gc_ga, Ne.symm n_gc_ga, hbr, hbp, hb_ga, hb_gc]
          refine ⟨by omega, by unfold maxLen; omega, ?_⟩
          intro gb hgb
          intros
          have n_gb_gr : ¬gb = gr := by assumption
          have n_gb_gp : ¬gb = gp := by assumption
          have n_gb_ga : ¬gb = ga := by assumption
          have n_gb_gc : ¬gb = gc := by assumption
          have hb_gb : bl gb = none := by assumption
          refine ⟨by simp [hpr, Ne.symm hpr, n_ga_gr, Ne.symm n_ga_gr, n_ga_gp, Ne.symm n_ga_gp, n_gc_gr, Ne.symm n_gc_gr, n_gc_gp, Ne.symm n_gc_gp, n_gc_ga, Ne.symm n_gc_ga, n_gb_gr, Ne.symm n_gb_gr, n_gb_gp, Ne.symm n_gb_gp, n_gb_ga, Ne.symm n_gb_ga, n_gb_gc, Ne.symm n_gb_gc, hbr, hbp, hb_ga, hb_gc, hb_gb], ?_⟩
          refine DL_one (i := 12) true (by kernel_rfl) rfl rfl (by kernel_rfl) ?_
          simp [hpr, Ne.symm hpr, n_ga_gr, Ne.symm n_ga_gr, n_ga_gp, Ne.symm n_ga_gp, n_gc_gr, Ne.symm n_gc_gr, n_gc_gp, Ne.symm n_gc_gp, n_gc_ga, Ne.symm n_gc_ga, n_gb_gr, Ne.symm n_gb_gr, n_gb_gp, Ne.symm n_gb_gp, n_gb_ga, Ne.symm n_gb_ga, n_gb_gc, Ne.symm n_gb_gc, hbr, hbp, hb_ga, hb_gc, hb_gb]
          refine DL_one (i := 13) true (by kernel_rfl) rfl rfl (by kernel_rfl) ?_
          simp [hpr, Ne.symm hpr, n_ga_gr, Ne.symm n_ga_gr, n_ga_gp, Ne.symm n_ga_gp, n_gc_gr, Ne.symm n_gc_gr, n_gc_gp, Ne.symm n_gc_gp, n_gc_ga, Ne.symm n_gc_ga, n_gb_gr, Ne.symm n_gb_gr, n_gb_gp, Ne.symm n_gb_gp, n_gb_ga, Ne.symm n_gb_ga, n_gb_gc, Ne.symm n_gb_gc, hbr, hbp, hb_ga, hb_gc, hb_gb]
          refine DL_one (i := 14) true (by kernel_rfl) rfl rfl (by kernel_rfl) ?_
          simp [hpr, Ne.symm hpr, n_ga_gr, Ne.symm n_ga_gr, n_ga_gp, Ne.symm n_ga_gp, n_gc_gr, Ne.symm n_gc_gr, n_gc_gp, Ne.symm n_gc_gp, n_gc_ga, Ne.symm n_gc_ga, n_gb_gr, Ne.symm n_gb_gr, n_gb_gp, Ne.symm n_gb_gp, n_gb_ga, Ne.symm n_gb_ga, n_gb_gc, Ne.symm n_gb_gc, hbr, hbp, hb_ga, hb_gc, hb_gb]
          refine DL_one (i := 15) true (by kernel_rfl) rfl rfl (by kernel_rfl) ?_
          simp [hpr, Ne.symm hpr, n_ga_gr, Ne.symm n_ga_gr, n_ga_gp, Ne.symm n_ga_gp, n_gc_gr, Ne.symm n_gc_gr, n_gc_gp, Ne.symm n_gc_gp, n_gc_ga, Ne.symm n_gc_ga, n_gb_gr, Ne.symm n_gb_gr, n_gb_gp, Ne.symm n_gb_gp, n_gb_ga, Ne.symm n_gb_ga, n_gb_gc, Ne.symm n_gb_gc, hbr, hbp, hb_ga, hb_gc, hb_gb]
          refine DL_one (i := 16) true (by kernel_rfl) rfl rfl (by kernel_rfl) ?_
          simp [hpr, Ne.symm hpr, n_ga_gr, Ne.symm n_ga_gr, n_ga_gp, Ne.symm n_ga_gp, n_gc_gr, Ne.symm n_gc_gr, n_gc_gp, Ne.symm n_gc_gp, n_gc_ga, Ne.symm n_gc_ga, n_gb_gr, Ne.symm n_gb_gr, n_gb_gp, Ne.symm n_gb_gp, n_gb_ga, Ne.symm n_gb_ga, n_gb_gc, Ne.symm n_gb_gc, hbr, hbp, hb_ga, hb_gc, hb_gb]
          refine DL_one (i := 17) true (by kernel_rfl) rfl rfl (by kernel_rfl) ?_
          simp [hpr, Ne.symm hpr, n_ga_gr, Ne.symm n_ga_gr, n_ga_gp, Ne.symm n_ga_gp, n_gc_gr, Ne.symm n_gc_gr, n_gc_gp, Ne.symm n_gc_gp, n_gc_ga, Ne.symm n_gc_ga, n_gb_gr, Ne.symm n_gb_gr, n_gb_gp, Ne.symm n_gb_gp, n_gb_ga, Ne.symm n_gb_ga, n_gb_gc, Ne.symm n_gb_gc, hbr, hbp, hb_ga, hb_gc, hb_gb]
          refine DL_done (by kernel_rfl) ?_
          rw [midQ_normal]
          exact leaf _ _ ga gb gc hga hgb hgc (by first | exact n_gb_ga | exact Ne.symm n_ga_gb) (by first | exact n_gc_ga | exact Ne.symm n_ga_gc) (by first | exact n_gc_gb | exact Ne.symm n_gb_gc) n_ga_gr n_ga_gp n_gb_gr n_gb_gp n_gc_gr n_gc_gp hb_ga hb_gb hb_gc rfl (by simp [S]) (by intro x y hx; simp only [B, upd_apply] at hx ⊢; grind)
        · simp [hpr, Ne.symm hpr, n_ga_gr, Ne.symm n_ga_gr, n_ga_gp, Ne.symm n_ga_gp, n_gc_gr, Ne.symm n_gc_gr, n_gc_gp, Ne.symm n_gc_gp, n_gc_ga, Ne.symm n_gc_ga, hbr, hbp, hb_ga, hb_gc]
          refine DL_two (i := 8) (j := 13) true true (by kernel_rfl) rfl rfl (by kernel_rfl) rfl rfl (by kernel_rfl) ?_ ?_
          · simp [hpr, Ne.symm hpr, n_ga_gr, Ne.symm n_ga_gr, n_ga_gp, Ne.symm n_ga_gp, n_gc_gr, Ne.symm n_gc_gr, n_gc_gp, Ne.symm n_gc_gp, n_gc_ga, Ne.symm n_gc_ga, hbr, hbp, hb_ga, hb_gc]
            refine ⟨by omega, by unfold maxLen; omega, ?_⟩
            intro gb hgb
            intros
            have n_gb_gr : ¬gb = gr := by assumption
            have n_gb_gp : ¬gb = gp := by assumption
            have n_gb_ga : ¬gb = ga := by assumption
            have n_gb_gc : ¬gb = gc := by assumption
            have hb_gb : bl gb = none := by assumption
            refine DL_one (i := 13) true (by kernel_rfl) rfl rfl (by kernel_rfl) ?_
            simp [hpr, Ne.symm hpr, n_ga_gr, Ne.symm n_ga_gr, n_ga_gp, Ne.symm n_ga_gp, n_gc_gr, Ne.symm n_gc_gr, n_gc_gp, Ne.symm n_gc_gp, n_gc_ga, Ne.symm n_gc_ga, n_gb_gr, Ne.symm n_gb_gr, n_gb_gp, Ne.symm n_gb_gp, n_gb_ga, Ne.symm n_gb_ga, n_gb_gc, Ne.symm n_gb_gc, hbr, hbp, hb_ga, hb_gc, hb_gb]
            refine DL_one (i := 14) true (by kernel_rfl) rfl rfl (by kernel_rfl) ?_
            simp [hpr, Ne.symm hpr, n_ga_gr, Ne.symm n_ga_gr, n_ga_gp, Ne.symm n_ga_gp, n_gc_gr, Ne.symm n_gc_gr, n_gc_gp, Ne.symm n_gc_gp, n_gc_ga, Ne.symm n_gc_ga, n_gb_gr, Ne.symm n_gb_gr, n_gb_gp, Ne.symm n_gb_gp, n_gb_ga, Ne.symm n_gb_ga, n_gb_gc, Ne.symm n_gb_gc, hbr, hbp, hb_ga, hb_gc, hb_gb]
            refine DL_one (i := 15) true (by kernel_rfl) rfl rfl (by kernel_rfl) ?_
            simp [hpr, Ne.symm hpr, n_ga_gr, Ne.symm n_ga_gr, n_ga_gp, Ne.symm n_ga_gp, n_gc_gr, Ne.symm n_gc_gr, n_gc_gp, Ne.symm n_gc_gp, n_gc_ga, Ne.symm n_gc_ga, n_gb_gr, Ne.symm n_gb_gr, n_gb_gp, Ne.symm n_gb_gp, n_gb_ga, Ne.symm n_gb_ga, n_gb_gc, Ne.symm n_gb_gc, hbr, hbp, hb_ga, hb_gc, hb_gb]
            refine DL_one (i := 16) true (by kernel_rfl) rfl rfl (by kernel_rfl) ?_
            simp [hpr, Ne.symm hpr, n_ga_gr, Ne.symm n_ga_gr, n_ga_gp, Ne.symm n_ga_gp, n_gc_gr, Ne.symm n_gc_gr, n_gc_gp, Ne.symm n_gc_gp, n_gc_ga, Ne.symm n_gc_ga, n_gb_gr, Ne.symm n_gb_gr, n_gb_gp, Ne.symm n_gb_gp, n_gb_ga, Ne.symm n_gb_ga, n_gb_gc, Ne.symm n_gb_gc, hbr, hbp, hb_ga, hb_gc, hb_gb]
            refine DL_one (i := 17) true (by kernel_rfl) rfl rfl (by kernel_rfl) ?_
            simp [hpr, Ne.symm hpr, n_ga_gr, Ne.symm n_ga_gr, n_ga_gp, Ne.symm n_ga_gp, n_gc_gr, Ne.symm n_gc_gr, n_gc_gp, Ne.symm n_gc_gp, n_gc_ga, Ne.symm n_gc_ga, n_gb_gr, Ne.symm n_gb_gr, n_gb_gp, Ne.symm n_gb_gp, n_gb_ga, Ne.symm n_gb_ga, n_gb_gc, Ne.symm n_gb_gc, hbr, hbp, hb_ga, hb_gc, hb_gb]
            refine DL_done (by kernel_rfl) ?_
            rw [midQ_normal]
            exact leaf _ _ ga gb gc hga hgb hgc (by first | exact n_gb_ga | exact Ne.symm n_ga_gb) (by first | exact n_gc_ga | exact Ne.symm n_ga_gc) (by first | exact n_gc_gb | exact Ne.symm n_gb_gc) n_ga_gr n_ga_gp n_gb_gr n_gb_gp n_gc_gr n_gc_gp hb_ga hb_gb hb_gc rfl (by simp [S]) (by intro x y hx; simp only [B, upd_apply] at hx ⊢; grind)
          · simp [hpr, Ne.symm hpr, n_ga_gr, Ne.symm n_ga_gr, n_ga_gp, Ne.symm n_ga_gp, n_gc_gr, Ne.symm n_gc_gr, n_gc_gp, Ne.symm n_gc_gp, n_gc_ga, Ne.symm n_gc_ga, hbr, hbp, hb_ga, hb_gc]
            refine DL_one (i := 8) true (by kernel_rfl) rfl rfl (by kernel_rfl) ?_
            simp [hpr, Ne.symm hpr, n_ga_gr, Ne.symm n_ga_gr, n_ga_gp, Ne.symm n_ga_gp, n_gc_gr, Ne.symm n_gc_gr, n_gc_gp, Ne.symm n_gc_gp, n_gc_ga, Ne.symm n_gc_ga, hbr, hbp, hb_ga, hb_gc]
            refine ⟨by omega, by unfold maxLen; omega, ?_⟩
            intro gb hgb
            intros
            have n_gb_gr : ¬gb = gr := by assumption
            have n_gb_gp : ¬gb = gp := by assumption
            have n_gb_ga : ¬gb = ga := by assumption
            have n_gb_gc : ¬gb = gc := by assumption
            have hb_gb : bl gb = none := by assumption
            refine DL_one (i := 14) true (by kernel_rfl) rfl rfl (by kernel_rfl) ?_
            simp [hpr, Ne.symm hpr, n_ga_gr, Ne.symm n_ga_gr, n_ga_gp, Ne.symm n_ga_gp, n_gc_gr, Ne.symm n_gc_gr, n_gc_gp, Ne.symm n_gc_gp, n_gc_ga, Ne.symm n_gc_ga, n_gb_gr, Ne.symm n_gb_gr, n_gb_gp, Ne.symm n_gb_gp, n_gb_ga, Ne.symm n_gb_ga, n_gb_gc, Ne.symm n_gb_gc, hbr, hbp, hb_ga, hb_gc, hb_gb]
            refine DL_one (i := 15) true (by kernel_rfl) rfl rfl (by kernel_rfl) ?_
            simp [hpr, Ne.symm hpr, n_ga_gr, Ne.symm n_ga_gr, n_ga_gp, Ne.symm n_ga_gp, n_gc_gr, Ne.symm n_gc_gr, n_gc_gp, Ne.symm n_gc_gp, n_gc_ga, Ne.symm n_gc_ga, n_gb_gr, Ne.symm n_gb_gr, n_gb_gp, Ne.symm n_gb_gp, n_gb_ga, Ne.symm n_gb_ga, n_gb_gc, Ne.symm n_gb_gc, hbr, hbp, hb_ga, hb_gc, hb_gb]
            refine DL_one (i := 16) true (by kernel_rfl) rfl rfl (by kernel_rfl) ?_
            simp [hpr, Ne.symm hpr, n_ga_gr, Ne.symm n_ga_gr, n_ga_gp, Ne.symm n_ga_gp, n_gc_gr, Ne.symm n_gc_gr, n_gc_gp, Ne.symm n_gc_gp, n_gc_ga, Ne.symm n_gc_ga, n_gb_gr, Ne.symm n_gb_gr, n_gb_gp, Ne.symm n_gb_gp, n_gb_ga, Ne.symm n_gb_ga, n_gb_gc, Ne.symm n_gb_gc, hbr, hbp, hb_ga, hb_gc, hb_gb]
            refine DL_one (i := 17) true (by kernel_rfl) rfl rfl (by kernel_rfl) ?_
            simp [hpr, Ne.symm hpr, n_ga_gr, Ne.symm n_ga_gr, n_ga_gp, Ne.symm n_ga_gp, n_gc_gr, Ne.symm n_gc_gr, n_gc_gp, Ne.symm n_gc_gp, n_gc_ga, Ne.symm n_gc_ga, n_gb_gr, Ne.symm n_gb_gr, n_gb_gp, Ne.symm n_gb_gp, n_gb_ga, Ne.symm n_gb_ga, n_gb_gc, Ne.symm n_gb_gc, hbr, hbp, hb_ga, hb_gc, hb_gb]
            refine DL_done (by kernel_rfl) ?_
            rw [midQ_normal]
            exact leaf _ _ ga gb gc hga hgb hgc (by first | exact n_gb_ga | exact Ne.symm n_ga_gb) (by first | exact n_gc_ga | exact Ne.symm n_ga_gc) (by first | exact n_gc_gb | exact Ne.symm n_gb_gc) n_ga_gr n_ga_gp n_gb_gr n_gb_gp n_gc_gr n_gc_gp hb_ga hb_gb hb_gc rfl (by simp [S]) (by intro x y hx; simp only [B, upd_apply] at hx ⊢; grind)
      · simp [hpr, Ne.symm hpr, n_ga_gr, Ne.symm n_ga_gr, n_ga_gp, Ne.symm n_ga_gp, hbr, hbp, hb_ga]
        refine DL_three (i := 8) (j := 11) (m := 13) true true true (by kernel_rfl) rfl rfl (by kernel_rfl) rfl rfl (by kernel_rfl) rfl rfl (by kernel_rfl) ?_ ?_ ?_
        · simp [hpr, Ne.symm hpr, n_ga_gr, Ne.symm n_ga_gr, n_ga_gp, Ne.symm n_ga_gp, hbr, hbp, hb_ga]
          refine ⟨by omega, by unfold maxLen; omega, ?_⟩
          intro gb hgb
          intros
          have n_gb_gr : ¬gb = gr := by assumption
          have n_gb_gp : ¬gb = gp := by assumption
          have n_gb_ga : ¬gb = ga := by assumption
          have hb_gb : bl gb = none := by assumption
          refine DL_two (i := 11) (j := 13) true true (by kernel_rfl) rfl rfl (by kernel_rfl) rfl rfl (by kernel_rfl) ?_ ?_
          · simp [hpr, Ne.symm hpr, n_ga_gr, Ne.symm n_ga_gr, n_ga_gp, Ne.symm n_ga_gp, n_gb_gr, Ne.symm n_gb_gr, n_gb_gp, Ne.symm n_gb_gp, n_gb_ga, Ne.symm n_gb_ga, hbr, hbp, hb_ga, hb_gb]
            refine ⟨by omega, by unfold maxLen; omega, ?_⟩
            intro gc hgc
            intros
            have n_gc_gr : ¬gc = gr := by assumption
            have n_gc_gp : ¬gc = gp := by assumption
            have n_gc_ga : ¬gc = ga := by assumption
            have n_gc_gb : ¬gc = gb := by assumption
            have hb_gc : bl gc = none := by assumption
            refine DL_one (i := 13) true (by kernel_rfl) rfl rfl (by kernel_rfl) ?_
            simp [hpr, Ne.symm hpr, n_ga_gr, Ne.symm n_ga_gr, n_ga_gp, Ne.symm n_ga_gp, n_gb_gr, Ne.symm n_gb_gr, n_gb_gp, Ne.symm n_gb_gp, n_gb_ga, Ne.symm n_gb_ga, n_gc_gr, Ne.symm n_gc_gr, n_gc_gp, Ne.symm n_gc_gp, n_gc_ga, Ne.symm n_gc_ga, n_gc_gb, Ne.symm n_gc_gb, hbr, hbp, hb_ga, hb_gb, hb_gc]
            refine DL_one (i := 14) true (by kernel_rfl) rfl rfl (by kernel_rfl) ?_
            simp [hpr, Ne.symm hpr, n_ga_gr, Ne.symm n_ga_gr, n_ga_gp, Ne.symm n_ga_gp, n_gb_gr, Ne.symm n_gb_gr, n_gb_gp, Ne.symm n_gb_gp, n_gb_ga, Ne.symm n_gb_ga, n_gc_gr, Ne.symm n_gc_gr, n_gc_gp, Ne.symm n_gc_gp, n_gc_ga, Ne.symm n_gc_ga, n_gc_gb, Ne.symm n_gc_gb, hbr, hbp, hb_ga, hb_gb, hb_gc]
            refine DL_one (i := 15) true (by kernel_rfl) rfl rfl (by kernel_rfl) ?_
            simp [hpr, Ne.symm hpr, n_ga_gr, Ne.symm n_ga_gr, n_ga_gp, Ne.symm n_ga_gp, n_gb_gr, Ne.symm n_gb_gr, n_gb_gp, Ne.symm n_gb_gp, n_gb_ga, Ne.symm n_gb_ga, n_gc_gr, Ne.symm n_gc_gr, n_gc_gp, Ne.symm n_gc_gp, n_gc_ga, Ne.symm n_gc_ga, n_gc_gb, Ne.symm n_gc_gb, hbr, hbp, hb_ga, hb_gb, hb_gc]
            refine DL_one (i := 16) true (by kernel_rfl) rfl rfl (by kernel_rfl) ?_
            simp [hpr, Ne.symm hpr, n_ga_gr, Ne.symm n_ga_gr, n_ga_gp, Ne.symm n_ga_gp, n_gb_gr, Ne.symm n_gb_gr, n_gb_gp, Ne.symm n_gb_gp, n_gb_ga, Ne.symm n_gb_ga, n_gc_gr, Ne.symm n_gc_gr, n_gc_gp, Ne.symm n_gc_gp, n_gc_ga, Ne.symm n_gc_ga, n_gc_gb, Ne.symm n_gc_gb, hbr, hbp, hb_ga, hb_gb, hb_gc]
            refine DL_one (i := 17) true (by kernel_rfl) rfl rfl (by kernel_rfl) ?_
            simp [hpr, Ne.symm hpr, n_ga_gr, Ne.symm n_ga_gr, n_ga_gp, Ne.symm n_ga_gp, n_gb_gr, Ne.symm n_gb_gr, n_gb_gp, Ne.symm n_gb_gp, n_gb_ga, Ne.symm n_gb_ga, n_gc_gr, Ne.symm n_gc_gr, n_gc_gp, Ne.symm n_gc_gp, n_gc_ga, Ne.symm n_gc_ga, n_gc_gb, Ne.symm n_gc_gb, hbr, hbp, hb_ga, hb_gb, hb_gc]
            refine DL_done (by kernel_rfl) ?_
            rw [midQ_normal]
            exact leaf _ _ ga gb gc hga hgb hgc (by first | exact n_gb_ga | exact Ne.symm n_ga_gb) (by first | exact n_gc_ga | exact Ne.symm n_ga_gc) (by first | exact n_gc_gb | exact Ne.symm n_gb_gc) n_ga_gr n_ga_gp n_gb_gr n_gb_gp n_gc_gr n_gc_gp hb_ga hb_gb hb_gc rfl (by simp [S]) (by intro x y hx; simp only [B, upd_apply] at hx ⊢; grind)
          · simp [hpr, Ne.symm hpr, n_ga_gr, Ne.symm n_ga_gr, n_ga_gp, Ne.symm n_ga_gp, n_gb_gr, Ne.symm n_gb_gr, n_gb_gp, Ne.symm n_gb_gp, n_gb_ga, Ne.symm n_gb_ga, hbr, hbp, hb_ga, hb_gb]
            refine DL_two (i := 11) (j := 14) true true (by kernel_rfl) rfl rfl (by kernel_rfl) rfl rfl (by kernel_rfl) ?_ ?_
            · simp [hpr, Ne.symm hpr, n_ga_gr, Ne.symm n_ga_gr, n_ga_gp, Ne.symm n_ga_gp, n_gb_gr, Ne.symm n_gb_gr, n_gb_gp, Ne.symm n_gb_gp, n_gb_ga, Ne.symm n_gb_ga, hbr, hbp, hb_ga, hb_gb]
              refine ⟨by omega, by unfold maxLen; omega, ?_⟩
              intro gc hgc
              intros
              have n_gc_gr : ¬gc = gr := by assumption
              have n_gc_gp : ¬gc = gp := by assumption
              have n_gc_ga : ¬gc = ga := by assumption
              have n_gc_gb : ¬gc = gb := by assumption
              have hb_gc : bl gc = none := by assumption
              refine DL_one (i := 14) true (by kernel_rfl) rfl rfl (by kernel_rfl) ?_
              simp [hpr, Ne.symm hpr, n_ga_gr, Ne.symm n_ga_gr, n_ga_gp, Ne.symm n_ga_gp, n_gb_gr, Ne.symm n_gb_gr, n_gb_gp, Ne.symm n_gb_gp, n_gb_ga, Ne.symm n_gb_ga, n_gc_gr, Ne.symm n_gc_gr, n_gc_gp, Ne.symm n_gc_gp, n_gc_ga, Ne.symm n_gc_ga, n_gc_gb, Ne.symm n_gc_gb, hbr, hbp, hb_ga, hb_gb, hb_gc]
              refine DL_one (i := 15) true (by kernel_rfl) rfl rfl (by kernel_rfl) ?_
              simp [hpr, Ne.symm hpr, n_ga_gr, Ne.symm n_ga_gr, n_ga_gp, Ne.symm n_ga_gp, n_gb_gr, Ne.symm n_gb_gr, n_gb_gp, Ne.symm n_gb_gp, n_gb_ga, Ne.symm n_gb_ga, n_gc_gr, Ne.symm n_gc_gr, n_gc_gp, Ne.symm n_gc_gp, n_gc_ga, Ne.symm n_gc_ga, n_gc_gb, Ne.symm n_gc_gb, hbr, hbp, hb_ga, hb_gb, hb_gc]
              refine DL_one (i := 16) true (by kernel_rfl) rfl rfl (by kernel_rfl) ?_
              simp [hpr, Ne.symm hpr, n_ga_gr, Ne.symm n_ga_gr, n_ga_gp, Ne.symm n_ga_gp, n_gb_gr, Ne.symm n_gb_gr, n_gb_gp, Ne.symm n_gb_gp, n_gb_ga, Ne.symm n_gb_ga, n_gc_gr, Ne.symm n_gc_gr, n_gc_gp, Ne.symm n_gc_gp, n_gc_ga, Ne.symm n_gc_ga, n_gc_gb, Ne.symm n_gc_gb, hbr, hbp, hb_ga, hb_gb, hb_gc]
              refine DL_one (i := 17) true (by kernel_rfl) rfl rfl (by kernel_rfl) ?_
              simp [hpr, Ne.symm hpr, n_ga_gr, Ne.symm n_ga_gr, n_ga_gp, Ne.symm n_ga_gp, n_gb_gr, Ne.symm n_gb_gr, n_gb_gp, Ne.symm n_gb_gp, n_gb_ga, Ne.symm n_gb_ga, n_gc_gr, Ne.symm n_gc_gr, n_gc_gp, Ne.symm n_gc_gp, n_gc_ga, Ne.symm n_gc_ga, n_gc_gb, Ne.symm n_gc_gb, hbr, hbp, hb_ga, hb_gb, hb_gc]
              refine DL_done (by kernel_rfl) ?_
              rw [midQ_normal]
              exact leaf _ _ ga gb gc hga hgb hgc (by first | exact n_gb_ga | exact Ne.symm n_ga_gb) (by first | exact n_gc_ga | exact Ne.symm n_ga_gc) (by first | exact n_gc_gb | exact Ne.symm n_gb_gc) n_ga_gr n_ga_gp n_gb_gr n_gb_gp n_gc_gr n_gc_gp hb_ga hb_gb hb_gc rfl (by simp [S]) (by intro x y hx; simp only [B, upd_apply] at hx ⊢; grind)
            · simp [hpr, Ne.symm hpr, n_ga_gr, Ne.symm n_ga_gr, n_ga_gp, Ne.symm n_ga_gp, n_gb_gr, Ne.symm n_gb_gr, n_gb_gp, Ne.symm n_gb_gp, n_gb_ga, Ne.symm n_gb_ga, hbr, hbp, hb_ga, hb_gb]
              refine DL_two (i := 11) (j := 15) true true (by kernel_rfl) rfl rfl (by kernel_rfl) rfl rfl (by kernel_rfl) ?_ ?_
              · simp [hpr, Ne.symm hpr, n_ga_gr, Ne.symm n_ga_gr, n_ga_gp, Ne.symm n_ga_gp, n_gb_gr, Ne.symm n_gb_gr, n_gb_gp, Ne.symm n_gb_gp, n_gb_ga, Ne.symm n_gb_ga, hbr, hbp, hb_ga, hb_gb]
                refine ⟨by omega, by unfold maxLen; omega, ?_⟩
                intro gc hgc
                intros
                have n_gc_gr : ¬gc = gr := by assumption
                have n_gc_gp : ¬gc = gp := by assumption
                have n_gc_ga : ¬gc = ga := by assumption
                have n_gc_gb : ¬gc = gb := by assumption
                have hb_gc : bl gc = none := by assumption
                refine DL_one (i := 15) true (by kernel_rfl) rfl rfl (by kernel_rfl) ?_
                simp [hpr, Ne.symm hpr, n_ga_gr, Ne.symm n_ga_gr, n_ga_gp, Ne.symm n_ga_gp, n_gb_gr, Ne.symm n_gb_gr, n_gb_gp, Ne.symm n_gb_gp, n_gb_ga, Ne.symm n_gb_ga, n_gc_gr, Ne.symm n_gc_gr, n_gc_gp, Ne.symm n_gc_gp, n_gc_ga, Ne.symm n_gc_ga, n_gc_gb, Ne.symm n_gc_gb, hbr, hbp, hb_ga, hb_gb, hb_gc]
                refine DL_one (i := 16) true (by kernel_rfl) rfl rfl (by kernel_rfl) ?_
                simp [hpr, Ne.symm hpr, n_ga_gr, Ne.symm n_ga_gr, n_ga_gp, Ne.symm n_ga_gp, n_gb_gr, Ne.symm n_gb_gr, n_gb_gp, Ne.symm n_gb_gp, n_gb_ga, Ne.symm n_gb_ga, n_gc_gr, Ne.symm n_gc_gr, n_gc_gp, Ne.symm n_gc_gp, n_gc_ga, Ne.symm n_gc_ga, n_gc_gb, Ne.symm n_gc_gb, hbr, hbp, hb_ga, hb_gb, hb_gc]
                refine DL_one (i := 17) true (by kernel_rfl) rfl rfl (by kernel_rfl) ?_
                simp [hpr, Ne.symm hpr, n_ga_gr, Ne.symm n_ga_gr, n_ga_gp, Ne.symm n_ga_gp, n_gb_gr, Ne.symm n_gb_gr, n_gb_gp, Ne.symm n_gb_gp, n_gb_ga, Ne.symm n_gb_ga, n_gc_gr, Ne.symm n_gc_gr, n_gc_gp, Ne.symm n_gc_gp, n_gc_ga, Ne.symm n_gc_ga, n_gc_gb, Ne.symm n_gc_gb, hbr, hbp, hb_ga, hb_gb, hb_gc]
                refine DL_done (by kernel_rfl) ?_
                rw [midQ_normal]
                exact leaf _ _ ga gb gc hga hgb hgc (by first | exact n_gb_ga | exact Ne.symm n_ga_gb) (by first | exact n_gc_ga | exact Ne.symm n_ga_gc) (by first | exact n_gc_gb | exact Ne.symm n_gb_gc) n_ga_gr n_ga_gp n_gb_gr n_gb_gp n_gc_gr n_gc_gp hb_ga hb_gb hb_gc rfl (by simp [S]) (by intro x y hx; simp only [B, upd_apply] at hx ⊢; grind)
              · simp [hpr, Ne.symm hpr, n_ga_gr, Ne.symm n_ga_gr, n_ga_gp, Ne.symm n_ga_gp, n_gb_gr, Ne.symm n_gb_gr, n_gb_gp, Ne.symm n_gb_gp, n_gb_ga, Ne.symm n_gb_ga, hbr, hbp, hb_ga, hb_gb]
                refine DL_one (i := 11) true (by kernel_rfl) rfl rfl (by kernel_rfl) ?_
                simp [hpr, Ne.symm hpr, n_ga_gr, Ne.symm n_ga_gr, n_ga_gp, Ne.symm n_ga_gp, n_gb_gr, Ne.symm n_gb_gr, n_gb_gp, Ne.symm n_gb_gp, n_gb_ga, Ne.symm n_gb_ga, hbr, hbp, hb_ga, hb_gb]
                refine ⟨by omega, by unfold maxLen; omega, ?_⟩
                intro gc hgc
                intros
                have n_gc_gr : ¬gc = gr := by assumption
                have n_gc_gp : ¬gc = gp := by assumption
                have n_gc_ga : ¬gc = ga := by assumption
                have n_gc_gb : ¬gc = gb := by assumption
                have hb_gc : bl gc = none := by assumption
                refine DL_one (i := 16) true (by kernel_rfl) rfl rfl (by kernel_rfl) ?_
                simp [hpr, Ne.symm hpr, n_ga_gr, Ne.symm n_ga_gr, n_ga_gp, Ne.symm n_ga_gp, n_gb_gr, Ne.symm n_gb_gr, n_gb_gp, Ne.symm n_gb_gp, n_gb_ga, Ne.symm n_gb_ga, n_gc_gr, Ne.symm n_gc_gr, n_gc_gp, Ne.symm n_gc_gp, n_gc_ga, Ne.symm n_gc_ga, n_gc_gb, Ne.symm n_gc_gb, hbr, hbp, hb_ga, hb_gb, hb_gc]
                refine DL_one (i := 17) true (by kernel_rfl) rfl rfl (by kernel_rfl) ?_
                simp [hpr, Ne.symm hpr, n_ga_gr, Ne.symm n_ga_gr, n_ga_gp, Ne.symm n_ga_gp, n_gb_gr, Ne.symm n_gb_gr, n_gb_gp, Ne.symm n_gb_gp, n_gb_ga, Ne.symm n_gb_ga, n_gc_gr, Ne.symm n_gc_gr, n_gc_gp, Ne.symm n_gc_gp, n_gc_ga, Ne.symm n_gc_ga, n_gc_gb, Ne.symm n_gc_gb, hbr, hbp, hb_ga, hb_gb, hb_gc]
                refine DL_done (by kernel_rfl) ?_
                rw [midQ_normal]
                exact leaf _ _ ga gb gc hga hgb hgc (by first | exact n_gb_ga | exact Ne.symm n_ga_gb) (by first | exact n_gc_ga | exact Ne.symm n_ga_gc) (by first | exact n_gc_gb | exact Ne.symm n_gb_gc) n_ga_gr n_ga_gp n_gb_gr n_gb_gp n_gc_gr n_gc_gp hb_ga hb_gb hb_gc rfl (by simp [S]) (by intro x y hx; simp only [B, upd_apply] at hx ⊢; grind)
        · simp [hpr, Ne.symm hpr, n_ga_gr, Ne.symm n_ga_gr, n_ga_gp, Ne.symm n_ga_gp, hbr, hbp, hb_ga]
          refine ⟨by omega, by unfold maxLen; omega, ?_⟩
          intro gc hgc
          intros
          have n_gc_gr : ¬gc = gr := by assumption
          have n_gc_gp : ¬gc = gp := by assumption
          have n_gc_ga : ¬gc = ga := by assumption
          have hb_gc : bl gc = none := by assumption
          refine DL_two (i := 8) (j := 13) true true (by kernel_rfl) rfl rfl (by kernel_rfl) rfl rfl (by kernel_rfl) ?_ ?_
          · simp [hpr, Ne.symm hpr, n_ga_gr, Ne.symm n_ga_gr, n_ga_gp, Ne.symm n_ga_gp, n_gc_gr, Ne.symm n_gc_gr, n_gc_gp, Ne.symm n_gc_gp, n_gc_ga, Ne.symm n_gc_ga, hbr, hbp, hb_ga, hb_gc]
            refine ⟨by omega, by unfold maxLen; omega, ?_⟩
            intro gb hgb
            intros
            have n_gb_gr : ¬gb = gr := by assumption
            have n_gb_gp : ¬gb = gp := by assumption
            have n_gb_ga : ¬gb = ga := by assumption
            have n_gb_gc : ¬gb = gc := by assumption
            have hb_gb : bl gb = none := by assumption
            refine DL_one (i := 13) true (by kernel_rfl) rfl rfl (by kernel_rfl) ?_
            simp [hpr, Ne.symm hpr, n_ga_gr, Ne.symm n_ga_gr, n_ga_gp, Ne.symm n_ga_gp, n_gc_gr, Ne.symm n_gc_gr, n_gc_gp, Ne.symm n_gc_gp, n_gc_ga, Ne.symm n_gc_ga, n_gb_gr, Ne.symm n_gb_gr, n_gb_gp, Ne.symm n_gb_gp, n_gb_ga, Ne.symm n_gb_ga, n_gb_gc, Ne.symm n_gb_gc, hbr, hbp, hb_ga, hb_gc, hb_gb]
            refine DL_one (i := 14) true (by kernel_rfl) rfl rfl (by kernel_rfl) ?_
            simp [hpr, Ne.symm hpr, n_ga_gr, Ne.symm n_ga_gr, n_ga_gp, Ne.symm n_ga_gp, n_gc_gr, Ne.symm n_gc_gr, n_gc_gp, Ne.symm n_gc_gp, n_gc_ga, Ne.symm n_gc_ga, n_gb_gr, Ne.symm n_gb_gr, n_gb_gp, Ne.symm n_gb_gp, n_gb_ga, Ne.symm n_gb_ga, n_gb_gc, Ne.symm n_gb_gc, hbr, hbp, hb_ga, hb_gc, hb_gb]
            refine DL_one (i := 15) true (by kernel_rfl) rfl rfl (by kernel_rfl) ?_
            simp [hpr, Ne.symm hpr, n_ga_gr, Ne.symm n_ga_gr, n_ga_gp, Ne.symm n_ga_gp, n_gc_gr, Ne.symm n_gc_gr, n_gc_gp, Ne.symm n_gc_gp, n_gc_ga, Ne.symm n_gc_ga, n_gb_gr, Ne.symm n_gb_gr, n_gb_gp, Ne.symm n_gb_gp, n_gb_ga, Ne.symm n_gb_ga, n_gb_gc, Ne.symm n_gb_gc, hbr, hbp, hb_ga, hb_gc, hb_gb]
            refine DL_one (i := 16) true (by kernel_rfl) rfl rfl (by kernel_rfl) ?_
            simp [hpr, Ne.symm hpr, n_ga_gr, Ne.symm n_ga_gr, n_ga_gp, Ne.symm n_ga_gp, n_gc_gr, Ne.symm n_gc_gr, n_gc_gp, Ne.symm n_gc_gp, n_gc_ga, Ne.symm n_gc_ga, n_gb_gr, Ne.symm n_gb_gr, n_gb_gp, Ne.symm n_gb_gp, n_gb_ga, Ne.symm n_gb_ga, n_gb_gc, Ne.symm n_gb_gc, hbr, hbp, hb_ga, hb_gc, hb_gb]
            refine DL_one (i := 17) true (by kernel_rfl) rfl rfl (by kernel_rfl) ?_
            simp [hpr, Ne.symm hpr, n_ga_gr, Ne.symm n_ga_gr, n_ga_gp, Ne.symm n_ga_gp, n_gc_gr, Ne.symm n_gc_gr, n_gc_gp, Ne.symm n_gc_gp, n_gc_ga, Ne.symm n_gc_ga, n_gb_gr, Ne.symm n_gb_gr, n_gb_gp, Ne.symm n_gb_gp, n_gb_ga, Ne.symm n_gb_ga, n_gb_gc, Ne.symm n_gb_gc, hbr, hbp, hb_ga, hb_gc, hb_gb]
            refine DL_done (by kernel_rfl) ?_
            rw [midQ_normal]
            exact leaf _ _ ga gb gc hga hgb hgc (by first | exact n_gb_ga | exact Ne.symm n_ga_gb) (by first | exact n_gc_ga | exact Ne.symm n_ga_gc) (by first | exact n_gc_gb | exact Ne.symm n_gb_gc) n_ga_gr n_ga_gp n_gb_gr n_gb_gp n_gc_gr n_gc_gp hb_ga hb_gb hb_gc rfl (by simp [S]) (by intro x y hx; simp only [B, upd_apply] at hx ⊢; grind)
          · simp [hpr, Ne.symm hpr, n_ga_gr, Ne.symm n_ga_gr, n_ga_gp, Ne.symm n_ga_gp, n_gc_gr, Ne.symm n_gc_gr, n_gc_gp, Ne.symm n_gc_gp, n_gc_ga, Ne.symm n_gc_ga, hbr, hbp, hb_ga, hb_gc]
            refine DL_one (i := 8) true (by kernel_rfl) rfl rfl (by kernel_rfl) ?_
            simp [hpr, Ne.symm hpr, n_ga_gr, Ne.symm n_ga_gr, n_ga_gp, Ne.symm n_ga_gp, n_gc_gr, Ne.symm n_gc_gr, n_gc_gp, Ne.symm n_gc_gp, n_gc_ga, Ne.symm n_gc_ga, hbr, hbp, hb_ga, hb_gc]
            refine ⟨by omega, by unfold maxLen; omega, ?_⟩
            intro gb hgb
            intros
            have n_gb_gr : ¬gb = gr := by assumption
            have n_gb_gp : ¬gb = gp := by assumption
            have n_gb_ga : ¬gb = ga := by assumption
            have n_gb_gc : ¬gb = gc := by assumption
            have hb_gb : bl gb = none := by assumption
            refine DL_one (i := 14) true (by kernel_rfl) rfl rfl (by kernel_rfl) ?_
            simp [hpr, Ne.symm hpr, n_ga_gr, Ne.symm n_ga_gr, n_ga_gp, Ne.symm n_ga_gp, n_gc_gr, Ne.symm n_gc_gr, n_gc_gp, Ne.symm n_gc_gp, n_gc_ga, Ne.symm n_gc_ga, n_gb_gr, Ne.symm n_gb_gr, n_gb_gp, Ne.symm n_gb_gp, n_gb_ga, Ne.symm n_gb_ga, n_gb_gc, Ne.symm n_gb_gc, hbr, hbp, hb_ga, hb_gc, hb_gb]
            refine DL_one (i := 15) true (by kernel_rfl) rfl rfl (by kernel_rfl) ?_
            simp [hpr, Ne.symm hpr, n_ga_gr, Ne.symm n_ga_gr, n_ga_gp, Ne.symm n_ga_gp, n_gc_gr, Ne.symm n_gc_gr, n_gc_gp, Ne.symm n_gc_gp, n_gc_ga, Ne.symm n_gc_ga, n_gb_gr, Ne.symm n_gb_gr, n_gb_gp, Ne.symm n_gb_gp, n_gb_ga, Ne.symm n_gb_ga, n_gb_gc, Ne.symm n_gb_gc, hbr, hbp, hb_ga, hb_gc, hb_gb]
            refine DL_one (i := 16) true (by kernel_rfl) rfl rfl (by kernel_rfl) ?_
            simp [hpr, Ne.symm hpr, n_ga_gr, Ne.symm n_ga_gr, n_ga_gp, Ne.symm n_ga_gp, n_gc_gr, Ne.symm n_gc_gr, n_gc_gp, Ne.symm n_gc_gp, n_gc_ga, Ne.symm n_gc_ga, n_gb_gr, Ne.symm n_gb_gr, n_gb_gp, Ne.symm n_gb_gp, n_gb_ga, Ne.symm n_gb_ga, n_gb_gc, Ne.symm n_gb_gc, hbr, hbp, hb_ga, hb_gc, hb_gb]
            refine DL_one (i := 17) true (by kernel_rfl) rfl rfl (by kernel_rfl) ?_
            simp [hpr, Ne.symm hpr, n_ga_gr, Ne.symm n_ga_gr, n_ga_gp, Ne.symm n_ga_gp, n_gc_gr, Ne.symm n_gc_gr, n_gc_gp, Ne.symm n_gc_gp, n_gc_ga, Ne.symm n_gc_ga, n_gb_gr, Ne.symm n_gb_gr, n_gb_gp, Ne.symm n_gb_gp, n_gb_ga, Ne.symm n_gb_ga, n_gb_gc, Ne.symm n_gb_gc, hbr, hbp, hb_ga, hb_gc, hb_gb]
            refine DL_done (by kernel_rfl) ?_
            rw [midQ_normal]
            exact leaf _ _ ga gb gc hga hgb hgc (by first | exact n_gb_ga | exact Ne.symm n_ga_gb) (by first | exact n_gc_ga | exact Ne.symm n_ga_gc) (by first | exact n_gc_gb | exact Ne.symm n_gb_gc) n_ga_gr n_ga_gp n_gb_gr n_gb_gp n_gc_gr n_gc_gp hb_ga hb_gb hb_gc rfl (by simp [S]) (by intro x y hx; simp only [B, upd_apply] at hx ⊢; grind)
        · simp [hpr, Ne.symm hpr, n_ga_gr, Ne.symm n_ga_gr, n_ga_gp, Ne.symm n_ga_gp, hbr, hbp, hb_ga]
          refine DL_two (i := 8) (j := 11) true true (by kernel_rfl) rfl rfl (by kernel_rfl) rfl rfl (by kernel_rfl) ?_ ?_
          · simp [hpr, Ne.symm hpr, n_ga_gr, Ne.symm n_ga_gr, n_ga_gp, Ne.symm n_ga_gp, hbr, hbp, hb_ga]
            refine ⟨by omega, by unfold maxLen; omega, ?_⟩
            intro gb hgb
            intros
            have n_gb_gr : ¬gb = gr := by assumption
            have n_gb_gp : ¬gb = gp := by assumption
            have n_gb_ga : ¬gb = ga := by assumption
            have hb_gb : bl gb = none := by assumption
            refine DL_two (i := 11) (j := 14) true true (by kernel_rfl) rfl rfl (by kernel_rfl) rfl rfl (by kernel_rfl) ?_ ?_
            · simp [hpr, Ne.symm hpr, n_ga_gr, Ne.symm n_ga_gr, n_ga_gp, Ne.symm n_ga_gp, n_gb_gr, Ne.symm n_gb_gr, n_gb_gp, Ne.symm n_gb_gp, n_gb_ga, Ne.symm n_gb_ga, hbr, hbp, hb_ga, hb_gb]
              refine ⟨by omega, by unfold maxLen; omega, ?_⟩
              intro gc hgc
              intros
              have n_gc_gr : ¬gc = gr := by assumption
              have n_gc_gp : ¬gc = gp := by assumption
              have n_gc_ga : ¬gc = ga := by assumption
              have n_gc_gb : ¬gc = gb := by assumption
              have hb_gc : bl gc = none := by assumption
              refine DL_one (i := 14) true (by kernel_rfl) rfl rfl (by kernel_rfl) ?_
              simp [hpr, Ne.symm hpr, n_ga_gr, Ne.symm n_ga_gr, n_ga_gp, Ne.symm n_ga_gp, n_gb_gr, Ne.symm n_gb_gr, n_gb_gp, Ne.symm n_gb_gp, n_gb_ga, Ne.symm n_gb_ga, n_gc_gr, Ne.symm n_gc_gr, n_gc_gp, Ne.symm n_gc_gp, n_gc_ga, Ne.symm n_gc_ga, n_gc_gb, Ne.symm n_gc_gb, hbr, hbp, hb_ga, hb_gb, hb_gc]
              refine DL_one (i := 15) true (by kernel_rfl) rfl rfl (by kernel_rfl) ?_
              simp [hpr, Ne.symm hpr, n_ga_gr, Ne.symm n_ga_gr, n_ga_gp, Ne.symm n_ga_gp, n_gb_gr, Ne.symm n_gb_gr, n_gb_gp, Ne.symm n_gb_gp, n_gb_ga, Ne.symm n_gb_ga, n_gc_gr, Ne.symm n_gc_gr, n_gc_gp, Ne.symm n_gc_gp, n_gc_ga, Ne.symm n_gc_ga, n_gc_gb, Ne.symm n_gc_gb, hbr, hbp, hb_ga, hb_gb, hb_gc]
              refine DL_one (i := 16) true (by kernel_rfl) rfl rfl (by kernel_rfl) ?_
              simp [hpr, Ne.symm hpr, n_ga_gr, Ne.symm n_ga_gr, n_ga_gp, Ne.symm n_ga_gp, n_gb_gr, Ne.symm n_gb_gr, n_gb_gp, Ne.symm n_gb_gp, n_gb_ga, Ne.symm n_gb_ga, n_gc_gr, Ne.symm n_gc_gr, n_gc_gp, Ne.symm n_gc_gp, n_gc_ga, Ne.symm n_gc_ga, n_gc_gb, Ne.symm n_gc_gb, hbr, hbp, hb_ga, hb_gb, hb_gc]
              refine DL_one (i := 17) true (by kernel_rfl) rfl rfl (by kernel_rfl) ?_
              simp [hpr, Ne.symm hpr, n_ga_gr, Ne.symm n_ga_gr, n_ga_gp, Ne.symm n_ga_gp, n_gb_gr, Ne.symm n_gb_gr, n_gb_gp, Ne.symm n_gb_gp, n_gb_ga, Ne.symm n_gb_ga, n_gc_gr, Ne.symm n_gc_gr, n_gc_gp, Ne.symm n_gc_gp, n_gc_ga, Ne.symm n_gc_ga, n_gc_gb, Ne.symm n_gc_gb, hbr, hbp, hb_ga, hb_gb, hb_gc]
              refine DL_done (by kernel_rfl) ?_
              rw [midQ_normal]
              exact leaf _ _ ga gb gc hga hgb hgc (by first | exact n_gb_ga | exact Ne.symm n_ga_gb) (by first | exact n_gc_ga | exact Ne.symm n_ga_gc) (by first | exact n_gc_gb | exact Ne.symm n_gb_gc) n_ga_gr n_ga_gp n_gb_gr n_gb_gp n_gc_gr n_gc_gp hb_ga hb_gb hb_gc rfl (by simp [S]) (by intro x y hx; simp only [B, upd_apply] at hx ⊢; grind)
            · simp [hpr, Ne.symm hpr, n_ga_gr, Ne.symm n_ga_gr, n_ga_gp, Ne.symm n_ga_gp, n_gb_gr, Ne.symm n_gb_gr, n_gb_gp, Ne.symm n_gb_gp, n_gb_ga, Ne.symm n_gb_ga, hbr, hbp, hb_ga, hb_gb]
              refine DL_two (i := 11) (j := 15) true true (by kernel_rfl) rfl rfl (by kernel_rfl) rfl rfl (by kernel_rfl) ?_ ?_
              · simp [hpr, Ne.symm hpr, n_ga_gr, Ne.symm n_ga_gr, n_ga_gp, Ne.symm n_ga_gp, n_gb_gr, Ne.symm n_gb_gr, n_gb_gp, Ne.symm n_gb_gp, n_gb_ga, Ne.symm n_gb_ga, hbr, hbp, hb_ga, hb_gb]
                refine ⟨by omega, by unfold maxLen; omega, ?_⟩
                intro gc hgc
                intros
                have n_gc_gr : ¬gc = gr := by assumption
                have n_gc_gp : ¬gc = gp := by assumption
                have n_gc_ga : ¬gc = ga := by assumption
                have n_gc_gb : ¬gc = gb := by assumption
                have hb_gc : bl gc = none := by assumption
                refine DL_one (i := 15) true (by kernel_rfl) rfl rfl (by kernel_rfl) ?_
                simp [hpr, Ne.symm hpr, n_ga_gr, Ne.symm n_ga_gr, n_ga_gp, Ne.symm n_ga_gp, n_gb_gr, Ne.symm n_gb_gr, n_gb_gp, Ne.symm n_gb_gp, n_gb_ga, Ne.symm n_gb_ga, n_gc_gr, Ne.symm n_gc_gr, n_gc_gp, Ne.symm n_gc_gp, n_gc_ga, Ne.symm n_gc_ga, n_gc_gb, Ne.symm n_gc_gb, hbr, hbp, hb_ga, hb_gb, hb_gc]
                refine DL_one (i := 16) true (by kernel_rfl) rfl rfl (by kernel_rfl) ?_
                simp [hpr, Ne.symm hpr, n_ga_gr, Ne.symm n_ga_gr, n_ga_gp, Ne.symm n_ga_gp, n_gb_gr, Ne.symm n_gb_gr, n_gb_gp, Ne.symm n_gb_gp, n_gb_ga, Ne.symm n_gb_ga, n_gc_gr, Ne.symm n_gc_gr, n_gc_gp, Ne.symm n_gc_gp, n_gc_ga, Ne.symm n_gc_ga, n_gc_gb, Ne.symm n_gc_gb, hbr, hbp, hb_ga, hb_gb, hb_gc]
                refine DL_one (i := 17) true (by kernel_rfl) rfl rfl (by kernel_rfl) ?_
                simp [hpr, Ne.symm hpr, n_ga_gr, Ne.symm n_ga_gr, n_ga_gp, Ne.symm n_ga_gp, n_gb_gr, Ne.symm n_gb_gr, n_gb_gp, Ne.symm n_gb_gp, n_gb_ga, Ne.symm n_gb_ga, n_gc_gr, Ne.symm n_gc_gr, n_gc_gp, Ne.symm n_gc_gp, n_gc_ga, Ne.symm n_gc_ga, n_gc_gb, Ne.symm n_gc_gb, hbr, hbp, hb_ga, hb_gb, hb_gc]
                refine DL_done (by kernel_rfl) ?_
                rw [midQ_normal]
                exact leaf _ _ ga gb gc hga hgb hgc (by first | exact n_gb_ga | exact Ne.symm n_ga_gb) (by first | exact n_gc_ga | exact Ne.symm n_ga_gc) (by first | exact n_gc_gb | exact Ne.symm n_gb_gc) n_ga_gr n_ga_gp n_gb_gr n_gb_gp n_gc_gr n_gc_gp hb_ga hb_gb hb_gc rfl (by simp [S]) (by intro x y hx; simp only [B, upd_apply] at hx ⊢; grind)
              · simp [hpr, Ne.symm hpr, n_ga_gr, Ne.symm n_ga_gr, n_ga_gp, Ne.symm n_ga_gp, n_gb_gr, Ne.symm n_gb_gr, n_gb_gp, Ne.symm n_gb_gp, n_gb_ga, Ne.symm n_gb_ga, hbr, hbp, hb_ga, hb_gb]
                refine DL_one (i := 11) true (by kernel_rfl) rfl rfl (by kernel_rfl) ?_
                simp [hpr, Ne.symm hpr, n_ga_gr, Ne.symm n_ga_gr, n_ga_gp, Ne.symm n_ga_gp, n_gb_gr, Ne.symm n_gb_gr, n_gb_gp, Ne.symm n_gb_gp, n_gb_ga, Ne.symm n_gb_ga, hbr, hbp, hb_ga, hb_gb]
                refine ⟨by omega, by unfold maxLen; omega, ?_⟩
                intro gc hgc
                intros
                have n_gc_gr : ¬gc = gr := by assumption
                have n_gc_gp : ¬gc = gp := by assumption
                have n_gc_ga : ¬gc = ga := by assumption
                have n_gc_gb : ¬gc = gb := by assumption
                have hb_gc : bl gc = none := by assumption
                refine DL_one (i := 16) true (by kernel_rfl) rfl rfl (by kernel_rfl) ?_
                simp [hpr, Ne.symm hpr, n_ga_gr, Ne.symm n_ga_gr, n_ga_gp, Ne.symm n_ga_gp, n_gb_gr, Ne.symm n_gb_gr, n_gb_gp, Ne.symm n_gb_gp, n_gb_ga, Ne.symm n_gb_ga, n_gc_gr, Ne.symm n_gc_gr, n_gc_gp, Ne.symm n_gc_gp, n_gc_ga, Ne.symm n_gc_ga, n_gc_gb, Ne.symm n_gc_gb, hbr, hbp, hb_ga, hb_gb, hb_gc]
                refine DL_one (i := 17) true (by kernel_rfl) rfl rfl (by kernel_rfl) ?_
                simp [hpr, Ne.symm hpr, n_ga_gr, Ne.symm n_ga_gr, n_ga_gp, Ne.symm n_ga_gp, n_gb_gr, Ne.symm n_gb_gr, n_gb_gp, Ne.symm n_gb_gp, n_gb_ga, Ne.symm n_gb_ga, n_gc_gr, Ne.symm n_gc_gr, n_gc_gp, Ne.symm n_gc_gp, n_gc_ga, Ne.symm n_gc_ga, n_gc_gb, Ne.symm n_gc_gb, hbr, hbp, hb_ga, hb_gb, hb_gc]
                refine DL_done (by kernel_rfl) ?_
                rw [midQ_normal]
                exact leaf _ _ ga gb gc hga hgb hgc (by first | exact n_gb_ga | exact Ne.symm n_ga_gb) (by first | exact n_gc_ga | exact Ne.symm n_ga_gc) (by first | exact n_gc_gb | exact Ne.symm n_gb_gc) n_ga_gr n_ga_gp n_gb_gr n_gb_gp n_gc_gr n_gc_gp hb_ga hb_gb hb_gc rfl (by simp [S]) (by intro x y hx; simp only [B, upd_apply] at hx ⊢; grind)
          · simp [hpr, Ne.symm hpr, n_ga_gr, Ne.symm n_ga_gr, n_ga_gp, Ne.symm n_ga_gp, hbr, hbp, hb_ga]
            refine ⟨by omega, by unfold maxLen; omega, ?_⟩
            intro gc hgc
            intros
            have n_gc_gr : ¬gc = gr := by assumption
            have n_gc_gp : ¬gc = gp := by assumption
            have n_gc_ga : ¬gc = ga := by assumption
            have hb_gc : bl gc = none := by assumption
            refine DL_one (i := 8) true (by kernel_rfl) rfl rfl (by kernel_rfl) ?_
            simp [hpr, Ne.symm hpr, n_ga_gr, Ne.symm n_ga_gr, n_ga_gp, Ne.symm n_ga_gp, n_gc_gr, Ne.symm n_gc_gr, n_gc_gp, Ne.symm n_gc_gp, n_gc_ga, Ne.symm n_gc_ga, hbr, hbp, hb_ga, hb_gc]
            refine ⟨by omega, by unfold maxLen; omega, ?_⟩
            intro gb hgb
            intros
            have n_gb_gr : ¬gb = gr := by assumption
            have n_gb_gp : ¬gb = gp := by assumption
            have n_gb_ga : ¬gb = ga := by assumption
            have n_gb_gc : ¬gb = gc := by assumption
            have hb_gb : bl gb = none := by assumption
            refine DL_one (i := 14) true (by kernel_rfl) rfl rfl (by kernel_rfl) ?_
            simp [hpr, Ne.symm hpr, n_ga_gr, Ne.symm n_ga_gr, n_ga_gp, Ne.symm n_ga_gp, n_gc_gr, Ne.symm n_gc_gr, n_gc_gp, Ne.symm n_gc_gp, n_gc_ga, Ne.symm n_gc_ga, n_gb_gr, Ne.symm n_gb_gr, n_gb_gp, Ne.symm n_gb_gp, n_gb_ga, Ne.symm n_gb_ga, n_gb_gc, Ne.symm n_gb_gc, hbr, hbp, hb_ga, hb_gc, hb_gb]
            refine DL_one (i := 15) true (by kernel_rfl) rfl rfl (by kernel_rfl) ?_
            simp [hpr, Ne.symm hpr, n_ga_gr, Ne.symm n_ga_gr, n_ga_gp, Ne.symm n_ga_gp, n_gc_gr, Ne.symm n_gc_gr, n_gc_gp, Ne.symm n_gc_gp, n_gc_ga, Ne.symm n_gc_ga, n_gb_gr, Ne.symm n_gb_gr, n_gb_gp, Ne.symm n_gb_gp, n_gb_ga, Ne.symm n_gb_ga, n_gb_gc, Ne.symm n_gb_gc, hbr, hbp, hb_ga, hb_gc, hb_gb]
            refine DL_one (i := 16) true (by kernel_rfl) rfl rfl (by kernel_rfl) ?_
            simp [hpr, Ne.symm hpr, n_ga_gr, Ne.symm n_ga_gr, n_ga_gp, Ne.symm n_ga_gp, n_gc_gr, Ne.symm n_gc_gr, n_gc_gp, Ne.symm n_gc_gp, n_gc_ga, Ne.symm n_gc_ga, n_gb_gr, Ne.symm n_gb_gr, n_gb_gp, Ne.symm n_gb_gp, n_gb_ga, Ne.symm n_gb_ga, n_gb_gc, Ne.symm n_gb_gc, hbr, hbp, hb_ga, hb_gc, hb_gb]
            refine DL_one (i := 17) true (by kernel_rfl) rfl rfl (by kernel_rfl) ?_
            simp [hpr, Ne.symm hpr, n_ga_gr, Ne.symm n_ga_gr, n_ga_gp, Ne.symm n_ga_gp, n_gc_gr, Ne.symm n_gc_gr, n_gc_gp, Ne.symm n_gc_gp, n_gc_ga, Ne.symm n_gc_ga, n_gb_gr, Ne.symm n_gb_gr, n_gb_gp, Ne.symm n_gb_gp, n_gb_ga, Ne.symm n_gb_ga, n_gb_gc, Ne.symm n_gb_gc, hbr, hbp, hb_ga, hb_gc, hb_gb]
            refine DL_done (by kernel_rfl) ?_
            rw [midQ_normal]
            exact leaf _ _ ga gb gc hga hgb hgc (by first | exact n_gb_ga | exact Ne.symm n_ga_gb) (by first | exact n_gc_ga | exact Ne.symm n_ga_gc) (by first | exact n_gc_gb | exact Ne.symm n_gb_gc) n_ga_gr n_ga_gp n_gb_gr n_gb_gp n_gc_gr n_gc_gp hb_ga hb_gb hb_gc rfl (by simp [S]) (by intro x y hx; simp only [B, upd_apply] at hx ⊢; grind)
    · simp [hpr, Ne.symm hpr, hbr, hbp]
      refine ⟨by omega, by unfold maxLen; omega, ?_⟩
      intro gb hgb
      intros
      have n_gb_gr : ¬gb = gr := by assumption
      have n_gb_gp : ¬gb = gp := by assumption
      have hb_gb : bl gb = none := by assumption
      refine ⟨by simp [hpr, Ne.symm hpr, n_gb_gr, Ne.symm n_gb_gr, n_gb_gp, Ne.symm n_gb_gp, hbr, hbp, hb_gb], ?_⟩
      refine DL_two (i := 5) (j := 11) false false (by kernel_rfl) rfl rfl (by kernel_rfl) rfl rfl (by kernel_rfl) ?_ ?_
      · simp [hpr, Ne.symm hpr, n_gb_gr, Ne.symm n_gb_gr, n_gb_gp, Ne.symm n_gb_gp, hbr, hbp, hb_gb]
        refine ⟨by omega, by unfold maxLen; omega, ?_⟩
        intro ga hga
        intros
        have n_ga_gr : ¬ga = gr := by assumption
        have n_ga_gp : ¬ga = gp := by assumption
        have n_ga_gb : ¬ga = gb := by assumption
        have hb_ga : bl ga = none := by assumption
        refine ⟨by simp [hpr, Ne.symm hpr, n_gb_gr, Ne.symm n_gb_gr, n_gb_gp, Ne.symm n_gb_gp, n_ga_gr, Ne.symm n_ga_gr, n_ga_gp, Ne.symm n_ga_gp, n_ga_gb, Ne.symm n_ga_gb, hbr, hbp, hb_gb, hb_ga], ?_⟩
        refine DL_two (i := 11) (j := 12) false true (by kernel_rfl) rfl rfl (by kernel_rfl) rfl rfl (by kernel_rfl) ?_ ?_
        · simp [hpr, Ne.symm hpr, n_gb_gr, Ne.symm n_gb_gr, n_gb_gp, Ne.symm n_gb_gp, n_ga_gr, Ne.symm n_ga_gr, n_ga_gp, Ne.symm n_ga_gp, n_ga_gb, Ne.symm n_ga_gb, hbr, hbp, hb_gb, hb_ga]
          refine ⟨by omega, by unfold maxLen; omega, ?_⟩
          intro gc hgc
          intros
          have n_gc_gr : ¬gc = gr := by assumption
          have n_gc_gp : ¬gc = gp := by assumption
          have n_gc_gb : ¬gc = gb := by assumption
          have n_gc_ga : ¬gc = ga := by assumption
          have hb_gc : bl gc = none := by assumption
          refine ⟨by simp [hpr, Ne.symm hpr, n_gb_gr, Ne.symm n_gb_gr, n_gb_gp, Ne.symm n_gb_gp, n_ga_gr, Ne.symm n_ga_gr, n_ga_gp, Ne.symm n_ga_gp, n_ga_gb, Ne.symm n_ga_gb, n_gc_gr, Ne.symm n_gc_gr, n_gc_gp, Ne.symm n_gc_gp, n_gc_gb, Ne.symm n_gc_gb, n_gc_ga, Ne.symm n_gc_ga, hbr, hbp, hb_gb, hb_ga, hb_gc], ?_⟩
          refine DL_one (i := 12) true (by kernel_rfl) rfl rfl (by kernel_rfl) ?_
          simp [hpr, Ne.symm hpr, n_gb_gr, Ne.symm n_gb_gr, n_gb_gp, Ne.symm n_gb_gp, n_ga_gr, Ne.symm n_ga_gr, n_ga_gp, Ne.symm n_ga_gp, n_ga_gb, Ne.symm n_ga_gb, n_gc_gr, Ne.symm n_gc_gr, n_gc_gp, Ne.symm n_gc_gp, n_gc_gb, Ne.symm n_gc_gb, n_gc_ga, Ne.symm n_gc_ga, hbr, hbp, hb_gb, hb_ga, hb_gc]
          refine DL_one (i := 13) true (by kernel_rfl) rfl rfl (by kernel_rfl) ?_
          simp [hpr, Ne.symm hpr, n_gb_gr, Ne.symm n_gb_gr, n_gb_gp, Ne.symm n_gb_gp, n_ga_gr, Ne.symm n_ga_gr, n_ga_gp, Ne.symm n_ga_gp, n_ga_gb, Ne.symm n_ga_gb, n_gc_gr, Ne.symm n_gc_gr, n_gc_gp, Ne.symm n_gc_gp, n_gc_gb, Ne.symm n_gc_gb, n_gc_ga, Ne.symm n_gc_ga, hbr, hbp, hb_gb, hb_ga, hb_gc]
          refine DL_one (i := 14) true (by kernel_rfl) rfl rfl (by kernel_rfl) ?_
          simp [hpr, Ne.symm hpr, n_gb_gr, Ne.symm n_gb_gr, n_gb_gp, Ne.symm n_gb_gp, n_ga_gr, Ne.symm n_ga_gr, n_ga_gp, Ne.symm n_ga_gp, n_ga_gb, Ne.symm n_ga_gb, n_gc_gr, Ne.symm n_gc_gr, n_gc_gp, Ne.symm n_gc_gp, n_gc_gb, Ne.symm n_gc_gb, n_gc_ga, Ne.symm n_gc_ga, hbr, hbp, hb_gb, hb_ga, hb_gc]
          refine DL_one (i := 15) true (by kernel_rfl) rfl rfl (by kernel_rfl) ?_
          simp [hpr, Ne.symm hpr, n_gb_gr, Ne.symm n_gb_gr, n_gb_gp, Ne.symm n_gb_gp, n_ga_gr, Ne.symm n_ga_gr, n_ga_gp, Ne.symm n_ga_gp, n_ga_gb, Ne.symm n_ga_gb, n_gc_gr, Ne.symm n_gc_gr, n_gc_gp, Ne.symm n_gc_gp, n_gc_gb, Ne.symm n_gc_gb, n_gc_ga, Ne.symm n_gc_ga, hbr, hbp, hb_gb, hb_ga, hb_gc]
          refine DL_one (i := 16) true (by kernel_rfl) rfl rfl (by kernel_rfl) ?_
          simp [hpr, Ne.symm hpr, n_gb_gr, Ne.symm n_gb_gr, n_gb_gp, Ne.symm n_gb_gp, n_ga_gr, Ne.symm n_ga_gr, n_ga_gp, Ne.symm n_ga_gp, n_ga_gb, Ne.symm n_ga_gb, n_gc_gr, Ne.symm n_gc_gr, n_gc_gp, Ne.symm n_gc_gp, n_gc_gb, Ne.symm n_gc_gb, n_gc_ga, Ne.symm n_gc_ga, hbr, hbp, hb_gb, hb_ga, hb_gc]
          refine DL_one (i := 17) true (by kernel_rfl) rfl rfl (by kernel_rfl) ?_
          simp [hpr, Ne.symm hpr, n_gb_gr, Ne.symm n_gb_gr, n_gb_gp, Ne.symm n_gb_gp, n_ga_gr, Ne.symm n_ga_gr, n_ga_gp, Ne.symm n_ga_gp, n_ga_gb, Ne.symm n_ga_gb, n_gc_gr, Ne.symm n_gc_gr, n_gc_gp, Ne.symm n_gc_gp, n_gc_gb, Ne.symm n_gc_gb, n_gc_ga, Ne.symm n_gc_ga, hbr, hbp, hb_gb, hb_ga, hb_gc]
          refine DL_done (by kernel_rfl) ?_
          rw [midQ_normal]
          exact leaf _ _ ga gb gc hga hgb hgc (by first | exact n_gb_ga | exact Ne.symm n_ga_gb) (by first | exact n_gc_ga | exact Ne.symm n_ga_gc) (by first | exact n_gc_gb | exact Ne.symm n_gb_gc) n_ga_gr n_ga_gp n_gb_gr n_gb_gp n_gc_gr n_gc_gp hb_ga hb_gb hb_gc rfl (by simp [S]) (by intro x y hx; simp only [B, upd_apply] at hx ⊢; grind)
        · simp [hpr, Ne.symm hpr, n_gb_gr, Ne.symm n_gb_gr, n_gb_gp, Ne.symm n_gb_gp, n_ga_gr, Ne.symm n_ga_gr, n_ga_gp, Ne.symm n_ga_gp, n_ga_gb, Ne.symm n_ga_gb, hbr, hbp, hb_gb, hb_ga]
          refine DL_two (i := 11) (j := 13) true true (by kernel_rfl) rfl rfl (by kernel_rfl) rfl rfl (by kernel_rfl) ?_ ?_
          · simp [hpr, Ne.symm hpr, n_gb_gr, Ne.symm n_gb_gr, n_gb_gp, Ne.symm n_gb_gp, n_ga_gr, Ne.symm n_ga_gr, n_ga_gp, Ne.symm n_ga_gp, n_ga_gb, Ne.symm n_ga_gb, hbr, hbp, hb_gb, hb_ga]
            refine ⟨by omega, by unfold maxLen; omega, ?_⟩
            intro gc hgc
            intros
            have n_gc_gr : ¬gc = gr := by assumption
            have n_gc_gp : ¬gc = gp := by assumption
            have n_gc_gb : ¬gc = gb := by assumption
            have n_gc_ga : ¬gc = ga := by assumption
            have hb_gc : bl gc = none := by assumption
            refine DL_one (i := 13) true (by kernel_rfl) rfl rfl (by kernel_rfl) ?_
            simp [hpr, Ne.symm hpr, n_gb_gr, Ne.symm n_gb_gr, n_gb_gp, Ne.symm n_gb_gp, n_ga_gr, Ne.symm n_ga_gr, n_ga_gp, Ne.symm n_ga_gp, n_ga_gb, Ne.symm n_ga_gb, n_gc_gr, Ne.symm n_gc_gr, n_gc_gp, Ne.symm n_gc_gp, n_gc_gb, Ne.symm n_gc_gb, n_gc_ga, Ne.symm n_gc_ga, hbr, hbp, hb_gb, hb_ga, hb_gc]
            refine DL_one (i := 14) true (by kernel_rfl) rfl rfl (by kernel_rfl) ?_
            simp [hpr, Ne.symm hpr, n_gb_gr, Ne.symm n_gb_gr, n_gb_gp, Ne.symm n_gb_gp, n_ga_gr, Ne.symm n_ga_gr, n_ga_gp, Ne.symm n_ga_gp, n_ga_gb, Ne.symm n_ga_gb, n_gc_gr, Ne.symm n_gc_gr, n_gc_gp, Ne.symm n_gc_gp, n_gc_gb, Ne.symm n_gc_gb, n_gc_ga, Ne.symm n_gc_ga, hbr, hbp, hb_gb, hb_ga, hb_gc]
            refine DL_one (i := 15) true (by kernel_rfl) rfl rfl (by kernel_rfl) ?_
            simp [hpr, Ne.symm hpr, n_gb_gr, Ne.symm n_gb_gr, n_gb_gp, Ne.symm n_gb_gp, n_ga_gr, Ne.symm n_ga_gr, n_ga_gp, Ne.symm n_ga_gp, n_ga_gb, Ne.symm n_ga_gb, n_gc_gr, Ne.symm n_gc_gr, n_gc_gp, Ne.symm n_gc_gp, n_gc_gb, Ne.symm n_gc_gb, n_gc_ga, Ne.symm n_gc_ga, hbr, hbp, hb_gb, hb_ga, hb_gc]
            refine DL_one (i := 16) true (by kernel_rfl) rfl rfl (by kernel_rfl) ?_
            simp [hpr, Ne.symm hpr, n_gb_gr, Ne.symm n_gb_gr, n_gb_gp, Ne.symm n_gb_gp, n_ga_gr, Ne.symm n_ga_gr, n_ga_gp, Ne.symm n_ga_gp, n_ga_gb, Ne.symm n_ga_gb, n_gc_gr, Ne.symm n_gc_gr, n_gc_gp, Ne.symm n_gc_gp, n_gc_gb, Ne.symm n_gc_gb, n_gc_ga, Ne.symm n_gc_ga, hbr, hbp, hb_gb, hb_ga, hb_gc]
            refine DL_one (i := 17) true (by kernel_rfl) rfl rfl (by kernel_rfl) ?_
            simp [hpr, Ne.symm hpr, n_gb_gr, Ne.symm n_gb_gr, n_gb_gp, Ne.symm n_gb_gp, n_ga_gr, Ne.symm n_ga_gr, n_ga_gp, Ne.symm n_ga_gp, n_ga_gb, Ne.symm n_ga_gb, n_gc_gr, Ne.symm n_gc_gr, n_gc_gp, Ne.symm n_gc_gp, n_gc_gb, Ne.symm n_gc_gb, n_gc_ga, Ne.symm n_gc_ga, hbr, hbp, hb_gb, hb_ga, hb_gc]
            refine DL_done (by kernel_rfl) ?_
            rw [midQ_normal]
            exact leaf _ _ ga gb gc hga hgb hgc (by first | exact n_gb_ga | exact Ne.symm n_ga_gb) (by first | exact n_gc_ga | exact Ne.symm n_ga_gc) (by first | exact n_gc_gb | exact Ne.symm n_gb_gc) n_ga_gr n_ga_gp n_gb_gr n_gb_gp n_gc_gr n_gc_gp hb_ga hb_gb hb_gc rfl (by simp [S]) (by intro x y hx; simp only [B, upd_apply] at hx ⊢; grind)
          · simp [hpr, Ne.symm hpr, n_gb_gr, Ne.symm n_gb_gr, n_gb_gp, Ne.symm n_gb_gp, n_ga_gr, Ne.symm n_ga_gr, n_ga_gp, Ne.symm n_ga_gp, n_ga_gb, Ne.symm n_ga_gb, hbr, hbp, hb_gb, hb_ga]
            refine DL_two (i := 11) (j := 14) true true (by kernel_rfl) rfl rfl (by kernel_rfl) rfl rfl (by kernel_rfl) ?_ ?_
            · simp [hpr, Ne.symm hpr, n_gb_gr, Ne.symm n_gb_gr, n_gb_gp, Ne.symm n_gb_gp, n_ga_gr, Ne.symm n_ga_gr, n_ga_gp, Ne.symm n_ga_gp, n_ga_gb, Ne.symm n_ga_gb, hbr, hbp, hb_gb, hb_ga]
              refine ⟨by omega, by unfold maxLen; omega, ?_⟩
              intro gc hgc
              intros
              have n_gc_gr : ¬gc = gr := by assumption
              have n_gc_gp : ¬gc = gp := by assumption
              have n_gc_gb : ¬gc = gb := by assumption
              have n_gc_ga : ¬gc = ga := by assumption
              have hb_gc : bl gc = none := by assumption
              refine DL_one (i := 14) true (by kernel_rfl) rfl rfl (by kernel_rfl) ?_
              simp [hpr, Ne.symm hpr, n_gb_gr, Ne.symm n_gb_gr, n_gb_gp, Ne.symm n_gb_gp, n_ga_gr, Ne.symm n_ga_gr, n_ga_gp, Ne.symm n_ga_gp, n_ga_gb, Ne.symm n_ga_gb, n_gc_gr, Ne.symm n_gc_gr, n_gc_gp, Ne.symm n_gc_gp, n_gc_gb, Ne.symm n_gc_gb, n_gc_ga, Ne.symm n_gc_ga, hbr, hbp, hb_gb, hb_ga, hb_gc]
              refine DL_one (i := 15) true (by kernel_rfl) rfl rfl (by kernel_rfl) ?_
              simp [hpr, Ne.symm hpr, n_gb_gr, Ne.symm n_gb_gr, n_gb_gp, Ne.symm n_gb_gp, n_ga_gr, Ne.symm n_ga_gr, n_ga_gp, Ne.symm n_ga_gp, n_ga_gb, Ne.symm n_ga_gb, n_gc_gr, Ne.symm n_gc_gr, n_gc_gp, Ne.symm n_gc_gp, n_gc_gb, Ne.symm n_gc_gb, n_gc_ga, Ne.symm n_gc_ga, hbr, hbp, hb_gb, hb_ga, hb_gc]
              refine DL_one (i := 16) true (by kernel_rfl) rfl rfl (by kernel_rfl) ?_
              simp [hpr, Ne.symm hpr, n_gb_gr, Ne.symm n_gb_gr, n_gb_gp, Ne.symm n_gb_gp, n_ga_gr, Ne.symm n_ga_gr, n_ga_gp, Ne.symm n_ga_gp, n_ga_gb, Ne.symm n_ga_gb, n_gc_gr, Ne.symm n_gc_gr, n_gc_gp, Ne.symm n_gc_gp, n_gc_gb, Ne.symm n_gc_gb, n_gc_ga, Ne.symm n_gc_ga, hbr, hbp, hb_gb, hb_ga, hb_gc]
              refine DL_one (i := 17) true (by kernel_rfl) rfl rfl (by kernel_rfl) ?_
              simp [hpr, Ne.symm hpr, n_gb_gr, Ne.symm n_gb_gr, n_gb_gp, Ne.symm n_gb_gp, n_ga_gr, Ne.symm n_ga_gr, n_ga_gp, Ne.symm n_ga_gp, n_ga_gb, Ne.symm n_ga_gb, n_gc_gr, Ne.symm n_gc_gr, n_gc_gp, Ne.symm n_gc_gp, n_gc_gb, Ne.symm n_gc_gb, n_gc_ga, Ne.symm n_gc_ga, hbr, hbp, hb_gb, hb_ga, hb_gc]
              refine DL_done (by kernel_rfl) ?_
              rw [midQ_normal]
              exact leaf _ _ ga gb gc hga hgb hgc (by first | exact n_gb_ga | exact Ne.symm n_ga_gb) (by first | exact n_gc_ga | exact Ne.symm n_ga_gc) (by first | exact n_gc_gb | exact Ne.symm n_gb_gc) n_ga_gr n_ga_gp n_gb_gr n_gb_gp n_gc_gr n_gc_gp hb_ga hb_gb hb_gc rfl (by simp [S]) (by intro x y hx; simp only [B, upd_apply] at hx ⊢; grind)
            · simp [hpr, Ne.symm hpr, n_gb_gr, Ne.symm n_gb_gr, n_gb_gp, Ne.symm n_gb_gp, n_ga_gr, Ne.symm n_ga_gr, n_ga_gp, Ne.symm n_ga_gp, n_ga_gb, Ne.symm n_ga_gb, hbr, hbp, hb_gb, hb_ga]
              refine DL_two (i := 11) (j := 15) true true (by kernel_rfl) rfl rfl (by kernel_rfl) rfl rfl (by kernel_rfl) ?_ ?_
              · simp [hpr, Ne.symm hpr, n_gb_gr, Ne.symm n_gb_gr, n_gb_gp, Ne.symm n_gb_gp, n_ga_gr, Ne.symm n_ga_gr, n_ga_gp, Ne.symm n_ga_gp, n_ga_gb, Ne.symm n_ga_gb, hbr, hbp, hb_gb, hb_ga]
                refine ⟨by omega, by unfold maxLen; omega, ?_⟩
                intro gc hgc
                intros
                have n_gc_gr : ¬gc = gr := by assumption
                have n_gc_gp : ¬gc = gp := by assumption
                have n_gc_gb : ¬gc = gb := by assumption
                have n_gc_ga : ¬gc = ga := by assumption
                have hb_gc : bl gc = none := by assumption
                refine DL_one (i := 15) true (by kernel_rfl) rfl rfl (by kernel_rfl) ?_
                simp [hpr, Ne.symm hpr, n_gb_gr, Ne.symm n_gb_gr, n_gb_gp, Ne.symm n_gb_gp, n_ga_gr, Ne.symm n_ga_gr, n_ga_gp, Ne.symm n_ga_gp, n_ga_gb, Ne.symm n_ga_gb, n_gc_gr, Ne.symm n_gc_gr, n_gc_gp, Ne.symm n_gc_gp, n_gc_gb, Ne.symm n_gc_gb, n_gc_ga, Ne.symm n_gc_ga, hbr, hbp, hb_gb, hb_ga, hb_gc]
                refine DL_one (i := 16) true (by kernel_rfl) rfl rfl (by kernel_rfl) ?_
                simp [hpr, Ne.symm hpr, n_gb_gr, Ne.symm n_gb_gr, n_gb_gp, Ne.symm n_gb_gp, n_ga_gr, Ne.symm n_ga_gr, n_ga_gp, Ne.symm n_ga_gp, n_ga_gb, Ne.symm n_ga_gb, n_gc_gr, Ne.symm n_gc_gr, n_gc_gp, Ne.symm n_gc_gp, n_gc_gb, Ne.symm n_gc_gb, n_gc_ga, Ne.symm n_gc_ga, hbr, hbp, hb_gb, hb_ga, hb_gc]
                refine DL_one (i := 17) true (by kernel_rfl) rfl rfl (by kernel_rfl) ?_
                simp [hpr, Ne.symm hpr, n_gb_gr, Ne.symm n_gb_gr, n_gb_gp, Ne.symm n_gb_gp, n_ga_gr, Ne.symm n_ga_gr, n_ga_gp, Ne.symm n_ga_gp, n_ga_gb, Ne.symm n_ga_gb, n_gc_gr, Ne.symm n_gc_gr, n_gc_gp, Ne.symm n_gc_gp, n_gc_gb, Ne.symm n_gc_gb, n_gc_ga, Ne.symm n_gc_ga, hbr, hbp, hb_gb, hb_ga, hb_gc]
                refine DL_done (by kernel_rfl) ?_
                rw [midQ_normal]
                exact leaf _ _ ga gb gc hga hgb hgc (by first | exact n_gb_ga | exact Ne.symm n_ga_gb) (by first | exact n_gc_ga | exact Ne.symm n_ga_gc) (by first | exact n_gc_gb | exact Ne.symm n_gb_gc) n_ga_gr n_ga_gp n_gb_gr n_gb_gp n_gc_gr n_gc_gp hb_ga hb_gb hb_gc rfl (by simp [S]) (by intro x y hx; simp only [B, upd_apply] at hx ⊢; grind)
              · simp [hpr, Ne.symm hpr, n_gb_gr, Ne.symm n_gb_gr, n_gb_gp, Ne.symm n_gb_gp, n_ga_gr, Ne.symm n_ga_gr, n_ga_gp, Ne.symm n_ga_gp, n_ga_gb, Ne.symm n_ga_gb, hbr, hbp, hb_gb, hb_ga]
                refine DL_one (i := 11) true (by kernel_rfl) rfl rfl (by kernel_rfl) ?_
                simp [hpr, Ne.symm hpr, n_gb_gr, Ne.symm n_gb_gr, n_gb_gp, Ne.symm n_gb_gp, n_ga_gr, Ne.symm n_ga_gr, n_ga_gp, Ne.symm n_ga_gp, n_ga_gb, Ne.symm n_ga_gb, hbr, hbp, hb_gb, hb_ga]
                refine ⟨by omega, by unfold maxLen; omega, ?_⟩
                intro gc hgc
                intros
                have n_gc_gr : ¬gc = gr := by assumption
                have n_gc_gp : ¬gc = gp := by assumption
                have n_gc_gb : ¬gc = gb := by assumption
                have n_gc_ga : ¬gc = ga := by assumption
                have hb_gc : bl gc = none := by assumption
                refine DL_one (i := 16) true (by kernel_rfl) rfl rfl (by kernel_rfl) ?_
                simp [hpr, Ne.symm hpr, n_gb_gr, Ne.symm n_gb_gr, n_gb_gp, Ne.symm n_gb_gp, n_ga_gr, Ne.symm n_ga_gr, n_ga_gp, Ne.symm n_ga_gp, n_ga_gb, Ne.symm n_ga_gb, n_gc_gr, Ne.symm n_gc_gr, n_gc_gp, Ne.symm n_gc_gp, n_gc_gb, Ne.symm n_gc_gb, n_gc_ga, Ne.symm n_gc_ga, hbr, hbp, hb_gb, hb_ga, hb_gc]
                refine DL_one (i := 17) true (by kernel_rfl) rfl rfl (by kernel_rfl) ?_
                simp [hpr, Ne.symm hpr, n_gb_gr, Ne.symm n_gb_gr, n_gb_gp, Ne.symm n_gb_gp, n_ga_gr, Ne.symm n_ga_gr, n_ga_gp, Ne.symm n_ga_gp, n_ga_gb, Ne.symm n_ga_gb, n_gc_gr, Ne.symm n_gc_gr, n_gc_gp, Ne.symm n_gc_gp, n_gc_gb, Ne.symm n_gc_gb, n_gc_ga, Ne.symm n_gc_ga, hbr, hbp, hb_gb, hb_ga, hb_gc]
                refine DL_done (by kernel_rfl) ?_
                rw [midQ_normal]
                exact leaf _ _ ga gb gc hga hgb hgc (by first | exact n_gb_ga | exact Ne.symm n_ga_gb) (by first | exact n_gc_ga | exact Ne.symm n_ga_gc) (by first | exact n_gc_gb | exact Ne.symm n_gb_gc) n_ga_gr n_ga_gp n_gb_gr n_gb_gp n_gc_gr n_gc_gp hb_ga hb_gb hb_gc rfl (by simp [S]) (by intro x y hx; simp only [B, upd_apply] at hx ⊢; grind)
      · simp [hpr, Ne.symm hpr, n_gb_gr, Ne.symm n_gb_gr, n_gb_gp, Ne.symm n_gb_gp, hbr, hbp, hb_gb]
        refine ⟨by omega, by unfold maxLen; omega, ?_⟩
        intro gc hgc
        intros
        have n_gc_gr : ¬gc = gr := by assumption
        have n_gc_gp : ¬gc = gp := by assumption
        have n_gc_gb : ¬gc = gb := by assumption
        have hb_gc : bl gc = none := by assumption
        refine ⟨by simp [hpr, Ne.symm hpr, n_gb_gr, Ne.symm n_gb_gr, n_gb_gp, Ne.symm n_gb_gp, n_gc_gr, Ne.symm n_gc_gr, n_gc_gp, Ne.symm n_gc_gp, n_gc_gb, Ne.symm n_gc_gb, hbr, hbp, hb_gb, hb_gc], ?_⟩
        refine DL_one (i := 5) false (by kernel_rfl) rfl rfl (by kernel_rfl) ?_
        simp [hpr, Ne.symm hpr, n_gb_gr, Ne.symm n_gb_gr, n_gb_gp, Ne.symm n_gb_gp, n_gc_gr, Ne.symm n_gc_gr, n_gc_gp, Ne.symm n_gc_gp, n_gc_gb, Ne.symm n_gc_gb, hbr, hbp, hb_gb, hb_gc]
        refine ⟨by omega, by unfold maxLen; omega, ?_⟩
        intro ga hga
        intros
        have n_ga_gr : ¬ga = gr := by assumption
        have n_ga_gp : ¬ga = gp := by assumption
        have n_ga_gb : ¬ga = gb := by assumption
        have n_ga_gc : ¬ga = gc := by assumption
        have hb_ga : bl ga = none := by assumption
        refine ⟨by simp [hpr, Ne.symm hpr, n_gb_gr, Ne.symm n_gb_gr, n_gb_gp, Ne.symm n_gb_gp, n_gc_gr, Ne.symm n_gc_gr, n_gc_gp, Ne.symm n_gc_gp, n_gc_gb, Ne.symm n_gc_gb, n_ga_gr, Ne.symm n_ga_gr, n_ga_gp, Ne.symm n_ga_gp, n_ga_gb, Ne.symm n_ga_gb, n_ga_gc, Ne.symm n_ga_gc, hbr, hbp, hb_gb, hb_gc, hb_ga], ?_⟩
        refine DL_one (i := 12) true (by kernel_rfl) rfl rfl (by kernel_rfl) ?_
        simp [hpr, Ne.symm hpr, n_gb_gr, Ne.symm n_gb_gr, n_gb_gp, Ne.symm n_gb_gp, n_gc_gr, Ne.symm n_gc_gr, n_gc_gp, Ne.symm n_gc_gp, n_gc_gb, Ne.symm n_gc_gb, n_ga_gr, Ne.symm n_ga_gr, n_ga_gp, Ne.symm n_ga_gp, n_ga_gb, Ne.symm n_ga_gb, n_ga_gc, Ne.symm n_ga_gc, hbr, hbp, hb_gb, hb_gc, hb_ga]
        refine DL_one (i := 13) true (by kernel_rfl) rfl rfl (by kernel_rfl) ?_
        simp [hpr, Ne.symm hpr, n_gb_gr, Ne.symm n_gb_gr, n_gb_gp, Ne.symm n_gb_gp, n_gc_gr, Ne.symm n_gc_gr, n_gc_gp, Ne.symm n_gc_gp, n_gc_gb, Ne.symm n_gc_gb, n_ga_gr, Ne.symm n_ga_gr, n_ga_gp, Ne.symm n_ga_gp, n_ga_gb, Ne.symm n_ga_gb, n_ga_gc, Ne.symm n_ga_gc, hbr, hbp, hb_gb, hb_gc, hb_ga]
        refine DL_one (i := 14) true (by kernel_rfl) rfl rfl (by kernel_rfl) ?_
        simp [hpr, Ne.symm hpr, n_gb_gr, Ne.symm n_gb_gr, n_gb_gp, Ne.symm n_gb_gp, n_gc_gr, Ne.symm n_gc_gr, n_gc_gp, Ne.symm n_gc_gp, n_gc_gb, Ne.symm n_gc_gb, n_ga_gr, Ne.symm n_ga_gr, n_ga_gp, Ne.symm n_ga_gp, n_ga_gb, Ne.symm n_ga_gb, n_ga_gc, Ne.symm n_ga_gc, hbr, hbp, hb_gb, hb_gc, hb_ga]
        refine DL_one (i := 15) true (by kernel_rfl) rfl rfl (by kernel_rfl) ?_
        simp [hpr, Ne.symm hpr, n_gb_gr, Ne.symm n_gb_gr, n_gb_gp, Ne.symm n_gb_gp, n_gc_gr, Ne.symm n_gc_gr, n_gc_gp, Ne.symm n_gc_gp, n_gc_gb, Ne.symm n_gc_gb, n_ga_gr, Ne.symm n_ga_gr, n_ga_gp, Ne.symm n_ga_gp, n_ga_gb, Ne.symm n_ga_gb, n_ga_gc, Ne.symm n_ga_gc, hbr, hbp, hb_gb, hb_gc, hb_ga]
        refine DL_one (i := 16) true (by kernel_rfl) rfl rfl (by kernel_rfl) ?_
        simp [hpr, Ne.symm hpr, n_gb_gr, Ne.symm n_gb_gr, n_gb_gp, Ne.symm n_gb_gp, n_gc_gr, Ne.symm n_gc_gr, n_gc_gp, Ne.symm n_gc_gp, n_gc_gb, Ne.symm n_gc_gb, n_ga_gr, Ne.symm n_ga_gr, n_ga_gp, Ne.symm n_ga_gp, n_ga_gb, Ne.symm n_ga_gb, n_ga_gc, Ne.symm n_ga_gc, hbr, hbp, hb_gb, hb_gc, hb_ga]
        refine DL_one (i := 17) true (by kernel_rfl) rfl rfl (by kernel_rfl) ?_
        simp [hpr, Ne.symm hpr, n_gb_gr, Ne.symm n_gb_gr, n_gb_gp, Ne.symm n_gb_gp, n_gc_gr, Ne.symm n_gc_gr, n_gc_gp, Ne.symm n_gc_gp, n_gc_gb, Ne.symm n_gc_gb, n_ga_gr, Ne.symm n_ga_gr, n_ga_gp, Ne.symm n_ga_gp, n_ga_gb, Ne.symm n_ga_gb, n_ga_gc, Ne.symm n_ga_gc, hbr, hbp, hb_gb, hb_gc, hb_ga]
        refine DL_done (by kernel_rfl) ?_
        rw [midQ_normal]
        exact leaf _ _ ga gb gc hga hgb hgc (by first | exact n_gb_ga | exact Ne.symm n_ga_gb) (by first | exact n_gc_ga | exact Ne.symm n_ga_gc) (by first | exact n_gc_gb | exact Ne.symm n_gb_gc) n_ga_gr n_ga_gp n_gb_gr n_gb_gp n_gc_gr n_gc_gp hb_ga hb_gb hb_gc rfl (by simp [S]) (by intro x y hx; simp only [B, upd_apply] at hx ⊢; grind)
    · simp [hpr, Ne.symm hpr, hbr, hbp]
      refine ⟨by omega, by unfold maxLen; omega, ?_⟩
      intro gc hgc
      intros
      have n_gc_gr : ¬gc = gr := by assumption
      have n_gc_gp : ¬gc = gp := by assumption
      have hb_gc : bl gc = none := by assumption
      refine ⟨by simp [hpr, Ne.symm hpr, n_gc_gr, Ne.symm n_gc_gr, n_gc_gp, Ne.symm n_gc_gp, hbr, hbp, hb_gc], ?_⟩
      refine DL_two (i := 5) (j := 8) false false (by kernel_rfl) rfl rfl (by kernel_rfl) rfl rfl (by kernel_rfl) ?_ ?_
      · simp [hpr, Ne.symm hpr, n_gc_gr, Ne.symm n_gc_gr, n_gc_gp, Ne.symm n_gc_gp, hbr, hbp, hb_gc]
        refine ⟨by omega, by unfold maxLen; omega, ?_⟩
        intro ga hga
        intros
        have n_ga_gr : ¬ga = gr := by assumption
        have n_ga_gp : ¬ga = gp := by assumption
        have n_ga_gc : ¬ga = gc := by assumption
        have hb_ga : bl ga = none := by assumption
        refine ⟨by simp [hpr, Ne.symm hpr, n_gc_gr, Ne.symm n_gc_gr, n_gc_gp, Ne.symm n_gc_gp, n_ga_gr, Ne.symm n_ga_gr, n_ga_gp, Ne.symm n_ga_gp, n_ga_gc, Ne.symm n_ga_gc, hbr, hbp, hb_gc, hb_ga], ?_⟩
        refine DL_two (i := 8) (j := 12) false true (by kernel_rfl) rfl rfl (by kernel_rfl) rfl rfl (by kernel_rfl) ?_ ?_
        · simp [hpr, Ne.symm hpr, n_gc_gr, Ne.symm n_gc_gr, n_gc_gp, Ne.symm n_gc_gp, n_ga_gr, Ne.symm n_ga_gr, n_ga_gp, Ne.symm n_ga_gp, n_ga_gc, Ne.symm n_ga_gc, hbr, hbp, hb_gc, hb_ga]
          refine ⟨by omega, by unfold maxLen; omega, ?_⟩
          intro gb hgb
          intros
          have n_gb_gr : ¬gb = gr := by assumption
          have n_gb_gp : ¬gb = gp := by assumption
          have n_gb_gc : ¬gb = gc := by assumption
          have n_gb_ga : ¬gb = ga := by assumption
          have hb_gb : bl gb = none := by assumption
          refine ⟨by simp [hpr, Ne.symm hpr, n_gc_gr, Ne.symm n_gc_gr, n_gc_gp, Ne.symm n_gc_gp, n_ga_gr, Ne.symm n_ga_gr, n_ga_gp, Ne.symm n_ga_gp, n_ga_gc, Ne.symm n_ga_gc, n_gb_gr, Ne.symm n_gb_gr, n_gb_gp, Ne.symm n_gb_gp, n_gb_gc, Ne.symm n_gb_gc, n_gb_ga, Ne.symm n_gb_ga, hbr, hbp, hb_gc, hb_ga, hb_gb], ?_⟩
          refine DL_one (i := 12) true (by kernel_rfl) rfl rfl (by kernel_rfl) ?_
          simp [hpr, Ne.symm hpr, n_gc_gr, Ne.symm n_gc_gr, n_gc_gp, Ne.symm n_gc_gp, n_ga_gr, Ne.symm n_ga_gr, n_ga_gp, Ne.symm n_ga_gp, n_ga_gc, Ne.symm n_ga_gc, n_gb_gr, Ne.symm n_gb_gr, n_gb_gp, Ne.symm n_gb_gp, n_gb_gc, Ne.symm n_gb_gc, n_gb_ga, Ne.symm n_gb_ga, hbr, hbp, hb_gc, hb_ga, hb_gb]
          refine DL_one (i := 13) true (by kernel_rfl) rfl rfl (by kernel_rfl) ?_
          simp [hpr, Ne.symm hpr, n_gc_gr, Ne.symm n_gc_gr, n_gc_gp, Ne.symm n_gc_gp, n_ga_gr, Ne.symm n_ga_gr, n_ga_gp, Ne.symm n_ga_gp, n_ga_gc, Ne.symm n_ga_gc, n_gb_gr, Ne.symm n_gb_gr, n_gb_gp, Ne.symm n_gb_gp, n_gb_gc, Ne.symm n_gb_gc, n_gb_ga, Ne.symm n_gb_ga, hbr, hbp, hb_gc, hb_ga, hb_gb]
          refine DL_one (i := 14) true (by kernel_rfl) rfl rfl (by kernel_rfl) ?_
          simp [hpr, Ne.symm hpr, n_gc_gr, Ne.symm n_gc_gr, n_gc_gp, Ne.symm n_gc_gp, n_ga_gr, Ne.symm n_ga_gr, n_ga_gp, Ne.symm n_ga_gp, n_ga_gc, Ne.symm n_ga_gc, n_gb_gr, Ne.symm n_gb_gr, n_gb_gp, Ne.symm n_gb_gp, n_gb_gc, Ne.symm n_gb_gc, n_gb_ga, Ne.symm n_gb_ga, hbr, hbp, hb_gc, hb_ga, hb_gb]
          refine DL_one (i := 15) true (by kernel_rfl) rfl rfl (by kernel_rfl) ?_
          simp [hpr, Ne.symm hpr, n_gc_gr, Ne.symm n_gc_gr, n_gc_gp, Ne.symm n_gc_gp, n_ga_gr, Ne.symm n_ga_gr, n_ga_gp, Ne.symm n_ga_gp, n_ga_gc, Ne.symm n_ga_gc, n_gb_gr, Ne.symm n_gb_gr, n_gb_gp, Ne.symm n_gb_gp, n_gb_gc, Ne.symm n_gb_gc, n_gb_ga, Ne.symm n_gb_ga, hbr, hbp, hb_gc, hb_ga, hb_gb]
          refine DL_one (i := 16) true (by kernel_rfl) rfl rfl (by kernel_rfl) ?_
          simp [hpr, Ne.symm hpr, n_gc_gr, Ne.symm n_gc_gr, n_gc_gp, Ne.symm n_gc_gp, n_ga_gr, Ne.symm n_ga_gr, n_ga_gp, Ne.symm n_ga_gp, n_ga_gc, Ne.symm n_ga_gc, n_gb_gr, Ne.symm n_gb_gr, n_gb_gp, Ne.symm n_gb_gp, n_gb_gc, Ne.symm n_gb_gc, n_gb_ga, Ne.symm n_gb_ga, hbr, hbp, hb_gc, hb_ga, hb_gb]
          refine DL_one (i := 17) true (by kernel_rfl) rfl rfl (by kernel_rfl) ?_
          simp [hpr, Ne.symm hpr, n_gc_gr, Ne.symm n_gc_gr, n_gc_gp, Ne.symm n_gc_gp, n_ga_gr, Ne.symm n_ga_gr, n_ga_gp, Ne.symm n_ga_gp, n_ga_gc, Ne.symm n_ga_gc, n_gb_gr, Ne.symm n_gb_gr, n_gb_gp, Ne.symm n_gb_gp, n_gb_gc, Ne.symm n_gb_gc, n_gb_ga, Ne.symm n_gb_ga, hbr, hbp, hb_gc, hb_ga, hb_gb]
          refine DL_done (by kernel_rfl) ?_
          rw [midQ_normal]
          exact leaf _ _ ga gb gc hga hgb hgc (by first | exact n_gb_ga | exact Ne.symm n_ga_gb) (by first | exact n_gc_ga | exact Ne.symm n_ga_gc) (by first | exact n_gc_gb | exact Ne.symm n_gb_gc) n_ga_gr n_ga_gp n_gb_gr n_gb_gp n_gc_gr n_gc_gp hb_ga hb_gb hb_gc rfl (by simp [S]) (by intro x y hx; simp only [B, upd_apply] at hx ⊢; grind)
        · simp [hpr, Ne.symm hpr, n_gc_gr, Ne.symm n_gc_gr, n_gc_gp, Ne.symm n_gc_gp, n_ga_gr, Ne.symm n_ga_gr, n_ga_gp, Ne.symm n_ga_gp, n_ga_gc, Ne.symm n_ga_gc, hbr, hbp, hb_gc, hb_ga]
          refine DL_two (i := 8) (j := 13) true true (by kernel_rfl) rfl rfl (by kernel_rfl) rfl rfl (by kernel_rfl) ?_ ?_
          · simp [hpr, Ne.symm hpr, n_gc_gr, Ne.symm n_gc_gr, n_gc_gp, Ne.symm n_gc_gp, n_ga_gr, Ne.symm n_ga_gr, n_ga_gp, Ne.symm n_ga_gp, n_ga_gc, Ne.symm n_ga_gc, hbr, hbp, hb_gc, hb_ga]
            refine ⟨by omega, by unfold maxLen; omega, ?_⟩
            intro gb hgb
            intros
            have n_gb_gr : ¬gb = gr := by assumption
            have n_gb_gp : ¬gb = gp := by assumption
            have n_gb_gc : ¬gb = gc := by assumption
            have n_gb_ga : ¬gb = ga := by assumption
            have hb_gb : bl gb = none := by assumption
            refine DL_one (i := 13) true (by kernel_rfl) rfl rfl (by kernel_rfl) ?_
            simp [hpr, Ne.symm hpr, n_gc_gr, Ne.symm n_gc_gr, n_gc_gp, Ne.symm n_gc_gp, n_ga_gr, Ne.symm n_ga_gr, n_ga_gp, Ne.symm n_ga_gp, n_ga_gc, Ne.symm n_ga_gc, n_gb_gr, Ne.symm n_gb_gr, n_gb_gp, Ne.symm n_gb_gp, n_gb_gc, Ne.symm n_gb_gc, n_gb_ga, Ne.symm n_gb_ga, hbr, hbp, hb_gc, hb_ga, hb_gb]
            refine DL_one (i := 14) true (by kernel_rfl) rfl rfl (by kernel_rfl) ?_
            simp [hpr, Ne.symm hpr, n_gc_gr, Ne.symm n_gc_gr, n_gc_gp, Ne.symm n_gc_gp, n_ga_gr, Ne.symm n_ga_gr, n_ga_gp, Ne.symm n_ga_gp, n_ga_gc, Ne.symm n_ga_gc, n_gb_gr, Ne.symm n_gb_gr, n_gb_gp, Ne.symm n_gb_gp, n_gb_gc, Ne.symm n_gb_gc, n_gb_ga, Ne.symm n_gb_ga, hbr, hbp, hb_gc, hb_ga, hb_gb]
            refine DL_one (i := 15) true (by kernel_rfl) rfl rfl (by kernel_rfl) ?_
            simp [hpr, Ne.symm hpr, n_gc_gr, Ne.symm n_gc_gr, n_gc_gp, Ne.symm n_gc_gp, n_ga_gr, Ne.symm n_ga_gr, n_ga_gp, Ne.symm n_ga_gp, n_ga_gc, Ne.symm n_ga_gc, n_gb_gr, Ne.symm n_gb_gr, n_gb_gp, Ne.symm n_gb_gp, n_gb_gc, Ne.symm n_gb_gc, n_gb_ga, Ne.symm n_gb_ga, hbr, hbp, hb_gc, hb_ga, hb_gb]
            refine DL_one (i := 16) true (by kernel_rfl) rfl rfl (by kernel_rfl) ?_
            simp [hpr, Ne.symm hpr, n_gc_gr, Ne.symm n_gc_gr, n_gc_gp, Ne.symm n_gc_gp, n_ga_gr, Ne.symm n_ga_gr, n_ga_gp, Ne.symm n_ga_gp, n_ga_gc, Ne.symm n_ga_gc, n_gb_gr, Ne.symm n_gb_gr, n_gb_gp, Ne.symm n_gb_gp, n_gb_gc, Ne.symm n_gb_gc, n_gb_ga, Ne.symm n_gb_ga, hbr, hbp, hb_gc, hb_ga, hb_gb]
            refine DL_one (i := 17) true (by kernel_rfl) rfl rfl (by kernel_rfl) ?_
            simp [hpr, Ne.symm hpr, n_gc_gr, Ne.symm n_gc_gr, n_gc_gp, Ne.symm n_gc_gp, n_ga_gr, Ne.symm n_ga_gr, n_ga_gp, Ne.symm n_ga_gp, n_ga_gc, Ne.symm n_ga_gc, n_gb_gr, Ne.symm n_gb_gr, n_gb_gp, Ne.symm n_gb_gp, n_gb_gc, Ne.symm n_gb_gc, n_gb_ga, Ne.symm n_gb_ga, hbr, hbp, hb_gc, hb_ga, hb_gb]
            refine DL_done (by kernel_rfl) ?_
            rw [midQ_normal]
            exact leaf _ _ ga gb gc hga hgb hgc (by first | exact n_gb_ga | exact Ne.symm n_ga_gb) (by first | exact n_gc_ga | exact Ne.symm n_ga_gc) (by first | exact n_gc_gb | exact Ne.symm n_gb_gc) n_ga_gr n_ga_gp n_gb_gr n_gb_gp n_gc_gr n_gc_gp hb_ga hb_gb hb_gc rfl (by simp [S]) (by intro x y hx; simp only [B, upd_apply] at hx ⊢; grind)
          · simp [hpr, Ne.symm hpr, n_gc_gr, Ne.symm n_gc_gr, n_gc_gp, Ne.symm n_gc_gp, n_ga_gr, Ne.symm n_ga_gr, n_ga_gp, Ne.symm n_ga_gp, n_ga_gc, Ne.symm n_ga_gc, hbr, hbp, hb_gc, hb_ga]
            refine DL_one (i := 8) true (by kernel_rfl) rfl rfl (by kernel_rfl) ?_
            simp [hpr, Ne.symm hpr, n_gc_gr, Ne.symm n_gc_gr, n_gc_gp, Ne.symm n_gc_gp, n_ga_gr, Ne.symm n_ga_gr, n_ga_gp, Ne.symm n_ga_gp, n_ga_gc, Ne.symm n_ga_gc, hbr, hbp, hb_gc, hb_ga]
            refine ⟨by omega, by unfold maxLen; omega, ?_⟩
            intro gb hgb
            intros
            have n_gb_gr : ¬gb = gr := by assumption
            have n_gb_gp : ¬gb = gp := by assumption
            have n_gb_gc : ¬gb = gc := by assumption
            have n_gb_ga : ¬gb = ga := by assumption
            have hb_gb : bl gb = none := by assumption
            refine DL_one (i := 14) true (by kernel_rfl) rfl rfl (by kernel_rfl) ?_
            simp [hpr, Ne.symm hpr, n_gc_gr, Ne.symm n_gc_gr, n_gc_gp, Ne.symm n_gc_gp, n_ga_gr, Ne.symm n_ga_gr, n_ga_gp, Ne.symm n_ga_gp, n_ga_gc, Ne.symm n_ga_gc, n_gb_gr, Ne.symm n_gb_gr, n_gb_gp, Ne.symm n_gb_gp, n_gb_gc, Ne.symm n_gb_gc, n_gb_ga, Ne.symm n_gb_ga, hbr, hbp, hb_gc, hb_ga, hb_gb]
            refine DL_one (i := 15) true (by kernel_rfl) rfl rfl (by kernel_rfl) ?_
            simp [hpr, Ne.symm hpr, n_gc_gr, Ne.symm n_gc_gr, n_gc_gp, Ne.symm n_gc_gp, n_ga_gr, Ne.symm n_ga_gr, n_ga_gp, Ne.symm n_ga_gp, n_ga_gc, Ne.symm n_ga_gc, n_gb_gr, Ne.symm n_gb_gr, n_gb_gp, Ne.symm n_gb_gp, n_gb_gc, Ne.symm n_gb_gc, n_gb_ga, Ne.symm n_gb_ga, hbr, hbp, hb_gc, hb_ga, hb_gb]
            refine DL_one (i := 16) true (by kernel_rfl) rfl rfl (by kernel_rfl) ?_
            simp [hpr, Ne.symm hpr, n_gc_gr, Ne.symm n_gc_gr, n_gc_gp, Ne.symm n_gc_gp, n_ga_gr, Ne.symm n_ga_gr, n_ga_gp, Ne.symm n_ga_gp, n_ga_gc, Ne.symm n_ga_gc, n_gb_gr, Ne.symm n_gb_gr, n_gb_gp, Ne.symm n_gb_gp, n_gb_gc, Ne.symm n_gb_gc, n_gb_ga, Ne.symm n_gb_ga, hbr, hbp, hb_gc, hb_ga, hb_gb]
            refine DL_one (i := 17) true (by kernel_rfl) rfl rfl (by kernel_rfl) ?_
            simp [hpr, Ne.symm hpr, n_gc_gr, Ne.symm n_gc_gr, n_gc_gp, Ne.symm n_gc_gp, n_ga_gr, Ne.symm n_ga_gr, n_ga_gp, Ne.symm n_ga_gp, n_ga_gc, Ne.symm n_ga_gc, n_gb_gr, Ne.symm n_gb_gr, n_gb_gp, Ne.symm n_gb_gp, n_gb_gc, Ne.symm n_gb_gc, n_gb_ga, Ne.symm n_gb_ga, hbr, hbp, hb_gc, hb_ga, hb_gb]
            refine DL_done (by kernel_rfl) ?_
            rw [midQ_normal]
            exact leaf _ _ ga gb gc hga hgb hgc (by first | exact n_gb_ga | exact Ne.symm n_ga_gb) (by first | exact n_gc_ga | exact Ne.symm n_ga_gc) (by first | exact n_gc_gb | exact Ne.symm n_gb_gc) n_ga_gr n_ga_gp n_gb_gr n_gb_gp n_gc_gr n_gc_gp hb_ga hb_gb hb_gc rfl (by simp [S]) (by intro x y hx; simp only [B, upd_apply] at hx ⊢; grind)
      · simp [hpr, Ne.symm hpr, n_gc_gr, Ne.symm n_gc_gr, n_gc_gp, Ne.symm n_gc_gp, hbr, hbp, hb_gc]
        refine ⟨by omega, by unfold maxLen; omega, ?_⟩
        intro gb hgb
        intros
        have n_gb_gr : ¬gb = gr := by assumption
        have n_gb_gp : ¬gb = gp := by assumption
        have n_gb_gc : ¬gb = gc := by assumption
        have hb_gb : bl gb = none := by assumption
        refine ⟨by simp [hpr, Ne.symm hpr, n_gc_gr, Ne.symm n_gc_gr, n_gc_gp, Ne.symm n_gc_gp, n_gb_gr, Ne.symm n_gb_gr, n_gb_gp, Ne.symm n_gb_gp, n_gb_gc, Ne.symm n_gb_gc, hbr, hbp, hb_gc, hb_gb], ?_⟩
        refine DL_one (i := 5) false (by kernel_rfl) rfl rfl (by kernel_rfl) ?_
        simp [hpr, Ne.symm hpr, n_gc_gr, Ne.symm n_gc_gr, n_gc_gp, Ne.symm n_gc_gp, n_gb_gr, Ne.symm n_gb_gr, n_gb_gp, Ne.symm n_gb_gp, n_gb_gc, Ne.symm n_gb_gc, hbr, hbp, hb_gc, hb_gb]
        refine ⟨by omega, by unfold maxLen; omega, ?_⟩
        intro ga hga
        intros
        have n_ga_gr : ¬ga = gr := by assumption
        have n_ga_gp : ¬ga = gp := by assumption
        have n_ga_gc : ¬ga = gc := by assumption
        have n_ga_gb : ¬ga = gb := by assumption
        have hb_ga : bl ga = none := by assumption
        refine ⟨by simp [hpr, Ne.symm hpr, n_gc_gr, Ne.symm n_gc_gr, n_gc_gp, Ne.symm n_gc_gp, n_gb_gr, Ne.symm n_gb_gr, n_gb_gp, Ne.symm n_gb_gp, n_gb_gc, Ne.symm n_gb_gc, n_ga_gr, Ne.symm n_ga_gr, n_ga_gp, Ne.symm n_ga_gp, n_ga_gc, Ne.symm n_ga_gc, n_ga_gb, Ne.symm n_ga_gb, hbr, hbp, hb_gc, hb_gb, hb_ga], ?_⟩
        refine DL_one (i := 12) true (by kernel_rfl) rfl rfl (by kernel_rfl) ?_
        simp [hpr, Ne.symm hpr, n_gc_gr, Ne.symm n_gc_gr, n_gc_gp, Ne.symm n_gc_gp, n_gb_gr, Ne.symm n_gb_gr, n_gb_gp, Ne.symm n_gb_gp, n_gb_gc, Ne.symm n_gb_gc, n_ga_gr, Ne.symm n_ga_gr, n_ga_gp, Ne.symm n_ga_gp, n_ga_gc, Ne.symm n_ga_gc, n_ga_gb, Ne.symm n_ga_gb, hbr, hbp, hb_gc, hb_gb, hb_ga]
        refine DL_one (i := 13) true (by kernel_rfl) rfl rfl (by kernel_rfl) ?_
        simp [hpr, Ne.symm hpr, n_gc_gr, Ne.symm n_gc_gr, n_gc_gp, Ne.symm n_gc_gp, n_gb_gr, Ne.symm n_gb_gr, n_gb_gp, Ne.symm n_gb_gp, n_gb_gc, Ne.symm n_gb_gc, n_ga_gr, Ne.symm n_ga_gr, n_ga_gp, Ne.symm n_ga_gp, n_ga_gc, Ne.symm n_ga_gc, n_ga_gb, Ne.symm n_ga_gb, hbr, hbp, hb_gc, hb_gb, hb_ga]
        refine DL_one (i := 14) true (by kernel_rfl) rfl rfl (by kernel_rfl) ?_
        simp [hpr, Ne.symm hpr, n_gc_gr, Ne.symm n_gc_gr, n_gc_gp, Ne.symm n_gc_gp, n_gb_gr, Ne.symm n_gb_gr, n_gb_gp, Ne.symm n_gb_gp, n_gb_gc, Ne.symm n_gb_gc, n_ga_gr, Ne.symm n_ga_gr, n_ga_gp, Ne.symm n_ga_gp, n_ga_gc, Ne.symm n_ga_gc, n_ga_gb, Ne.symm n_ga_gb, hbr, hbp, hb_gc, hb_gb, hb_ga]
        refine DL_one (i := 15) true (by kernel_rfl) rfl rfl (by kernel_rfl) ?_
        simp [hpr, Ne.symm hpr, n_gc_gr, Ne.symm n_gc_gr, n_gc_gp, Ne.symm n_gc_gp, n_gb_gr, Ne.symm n_gb_gr, n_gb_gp, Ne.symm n_gb_gp, n_gb_gc, Ne.symm n_gb_gc, n_ga_gr, Ne.symm n_ga_gr, n_ga_gp, Ne.symm n_ga_gp, n_ga_gc, Ne.symm n_ga_gc, n_ga_gb, Ne.symm n_ga_gb, hbr, hbp, hb_gc, hb_gb, hb_ga]
        refine DL_one (i := 16) true (by kernel_rfl) rfl rfl (by kernel_rfl) ?_
        simp [hpr, Ne.symm hpr, n_gc_gr, Ne.symm n_gc_gr, n_gc_gp, Ne.symm n_gc_gp, n_gb_gr, Ne.symm n_gb_gr, n_gb_gp, Ne.symm n_gb_gp, n_gb_gc, Ne.symm n_gb_gc, n_ga_gr, Ne.symm n_ga_gr, n_ga_gp, Ne.symm n_ga_gp, n_ga_gc, Ne.symm n_ga_gc, n_ga_gb, Ne.symm n_ga_gb, hbr, hbp, hb_gc, hb_gb, hb_ga]
        refine DL_one (i := 17) true (by kernel_rfl) rfl rfl (by kernel_rfl) ?_
        simp [hpr, Ne.symm hpr, n_gc_gr, Ne.symm n_gc_gr, n_gc_gp, Ne.symm n_gc_gp, n_gb_gr, Ne.symm n_gb_gr, n_gb_gp, Ne.symm n_gb_gp, n_gb_gc, Ne.symm n_gb_gc, n_ga_gr, Ne.symm n_ga_gr, n_ga_gp, Ne.symm n_ga_gp, n_ga_gc, Ne.symm n_ga_gc, n_ga_gb, Ne.symm n_ga_gb, hbr, hbp, hb_gc, hb_gb, hb_ga]
        refine DL_done (by kernel_rfl) ?_
        rw [midQ_normal]
        exact leaf _ _ ga gb gc hga hgb hgc (by first | exact n_gb_ga | exact Ne.symm n_ga_gb) (by first | exact n_gc_ga | exact Ne.symm n_ga_gc) (by first | exact n_gc_gb | exact Ne.symm n_gb_gc) n_ga_gr n_ga_gp n_gb_gr n_gb_gp n_gc_gr n_gc_gp hb_ga hb_gb hb_gc rfl (by simp [S]) (by intro x y hx; simp only [B, upd_apply] at hx ⊢; grind)
  rintro ⟨ga, gb, gc⟩ ⟨a0, b0, c0, ba, ca, cb, ar, ap, br, bp, cr, cp, fa, fb, fc⟩
  simp only at a0 b0 c0 ba ca cb ar ap br bp cr cp fa fb fc
  simp only [S, B]
  clear leaf S B
  obtain ⟨BB, hBB⟩ : ∃ BB : List (List V) → List (List V) → Int → Option Blk, BB = fun ea eb => upd (upd (upd (upd (upd bl gr (some ⟨5, [[.int .i64 0, .int .i64 0, .nils, .nils, .nils]]⟩)) gp (some ⟨5, [[.int .i64 (nR s), .int .i64 (nC s), .lsl ga 1 0 nA, .lsl gb 1 0 (nR s), .lsl gc 1 0 (nC s)]]⟩)) ga (some ⟨1, ea⟩)) gb (some ⟨1, eb⟩)) gc (some ⟨1, List.replicate (nC s) [.int .i64 0]⟩) := ⟨_, rfl⟩
  have hBr : ∀ ea eb, BB ea eb gr = some ⟨5, [[.int .i64 0, .int .i64 0, .nils, .nils, .nils]]⟩ := fun ea eb => by rw [hBB]; simp [hpr, Ne.symm hpr, ar, br, cr, Ne.symm ar, Ne.symm br, Ne.symm cr]
  have hBp : ∀ ea eb, BB ea eb gp = some ⟨5, [[.int .i64 (nR s), .int .i64 (nC s), .lsl ga 1 0 nA, .lsl gb 1 0 (nR s), .lsl gc 1 0 (nC s)]]⟩ := fun ea eb => by rw [hBB]; simp [ap, bp, cp, Ne.symm ap, Ne.symm bp, Ne.symm cp]
  have hBa : ∀ ea eb, BB ea eb ga = some ⟨1, ea⟩ := fun ea eb => by rw [hBB]; simp [ba, ca, Ne.symm ba, Ne.symm ca]
  have hBb : ∀ ea eb, BB ea eb gb = some ⟨1, eb⟩ := fun ea eb => by rw [hBB]; simp [cb, Ne.symm cb]
  have hBc : ∀ ea eb, BB ea eb gc = some ⟨1, List.replicate (nC s) [.int .i64 0]⟩ := fun ea eb => by rw [hBB]; simp
  have hBs : ∀ ea eb, Sub bl (BB ea eb) := fun ea eb => by rw [hBB]; simp [hbr, hbp, fa, fb, fc]
  have hBua : ∀ ea eb e, upd (BB ea eb) ga (some ⟨1, e⟩) = BB e eb := fun ea eb e => by
    rw [hBB]; funext x; simp only [upd_apply]; grind
  have hBub : ∀ ea eb e, upd (BB ea eb) gb (some ⟨1, e⟩) = BB ea e := fun ea eb e => by
    rw [hBB]; funext x; simp only [upd_apply]; grind
  have hB0 : upd (upd (upd (upd (upd bl gr (some ⟨5, [[.int .i64 0, .int .i64 0, .nils, .nils, .nils]]⟩)) gp (some ⟨5, [[.int .i64 (nR s), .int .i64 (nC s), .lsl ga 1 0 nA, .lsl gb 1 0 (nR s), .lsl gc 1 0 (nC s)]]⟩)) ga (some ⟨1, List.replicate nA [.int .i64 0]⟩)) gb (some ⟨1, List.replicate (nR s) [.int .i64 0]⟩)) gc (some ⟨1, List.replicate (nC s) [.int .i64 0]⟩) = BB (part (iv (aTo s nA)) [.int .i64 0] 0) (part (iv (right s l)) [.int .i64 0] 0) := by
    rw [hBB]; simp [right_length]
  rw [hB0]
  clear hB0 hBB
  refine AW_run ?_
  simp [er]
  refine AW_for (fun i : Nat => [(0, .ptr s.c), (1, .sl (iv l)), (8, .loc gr 5 0 0), (10, .sl (cv (cols s.ms))), (11, .loc gp 5 0 0), (46, .sl (ivv (eqRows s))), (47, .int .i64 (nR s)), (48, .int .i64 i)]) (fun i => BB (part (iv (aTo s nA)) [.int .i64 0] (i * nC s)) (part (iv (right s l)) [.int .i64 0] 0)) (fun i => i ≤ nR s) (fun i => nR s - i) 113 0 (Nat.zero_le _) ⟨rfl, by simp, sub_eq (by simp)⟩ ?_
  intro i hi
  refine AW_run ?_
  simp
  refine ⟨fun h => ?_, fun h => ?_⟩
  · have hie : i < (eqRows s).length := by omega
    simp [hie]
    obtain ⟨row, hrow⟩ : ∃ r, (eqRows s)[i] = r := ⟨_, rfl⟩
    have lrow : row.length = s.ms.length := eqRows_len s row (hrow ▸ List.getElem_mem hie)
    rw [hrow]
    refine AW_for (fun c : Nat => [(0, .ptr s.c), (1, .sl (iv l)), (8, .loc gr 5 0 0), (10, .sl (cv (cols s.ms))), (11, .loc gp 5 0 0), (12, .int .i64 i), (13, .sl (iv row)), (46, .sl (ivv (eqRows s))), (47, .int .i64 (nR s)), (48, .int .i64 i), (53, .sl (cv (cols s.ms))), (54, .int .i64 (nC s)), (55, .int .i64 c)]) (fun c => BB (part (iv (aTo s nA)) [.int .i64 0] (i * nC s + c)) (part (iv (right s l)) [.int .i64 0] 0)) (fun c => c ≤ nC s) (fun c => nC s - c) 113 0 (Nat.zero_le _) ⟨rfl, by simp [ec], sub_eq (by simp)⟩ ?_
    intro c hc
    refine AW_run ?_
    simp
    refine ⟨fun hcl => ?_, fun hcl => ?_⟩
    · have hcc : c < (cols s.ms).length := hcl
      obtain ⟨⟨k0, k1⟩, k2⟩ := colAt_ok s c hcl
      have qc : (cv (cols s.ms))[c]? = some [.int .i64 (colAt s c).1, .int .i64 (colAt s c).2] := by simp [cv, colAt, hcc]
      simp [qc]
      intro g1 hg1 hb1
      have n1p : g1 ≠ gp := fun e => by rw [e, hBp] at hb1; cases hb1
      have n1a : g1 ≠ ga := fun e => by rw [e, hBa] at hb1; cases hb1
      have f1 := fresh_of (hBs _ _) hb1
      obtain ⟨⟨k, sg⟩, hk⟩ : ∃ k, colAt s c = k := ⟨_, rfl⟩
      rw [hk] at k0 k1 k2 ⊢
      simp only at k0 k1 k2 ⊢
      have en : ent s i c = sg * lat row k.toNat := by
        unfold ent
        rw [hk, rowsF_flat, flat_at _ (eqRows_len s) i k.toNat hie (by omega), hrow]
      have bd : -100 ≤ lat row k.toNat ∧ lat row k.toNat ≤ 100 := by
        rw [← hrow, ← flat_at _ (eqRows_len s) i k.toNat hie (by omega), ← rowsF_flat]; exact rowsF_le hs _
      have qr : (iv row)[k.toNat]? = some [.int .i64 (lat row k.toNat)] := iv_at (by omega)
      have w6 : IntKind.i64.wrap (sg * lat row k.toNat) = ent s i c := by
        rw [en]; rcases k2 with rfl | rfl <;> exact i64_in (by omega) (by omega)
      have mc : (i + 1) * nC s ≤ nA := by rw [hA]; exact Nat.mul_le_mul_right _ h
      rw [Nat.add_mul] at mc
      have mi : ((i * nC s : Nat) : Int) = (i : Int) * nC s := by simp
      have w4 : IntKind.i64.wrap ((i : Int) * nC s) = (i : Int) * nC s := i64_in (by omega) (by omega)
      have w5 : IntKind.i64.wrap ((i : Int) * nC s + c) = (i : Int) * nC s + c := i64_in (by omega) (by omega)
      have w7 : IntKind.i64.wrap ((c : Int) + 1) = c + 1 := i64_in (by omega) (by omega)
      have e1 : ((i : Int) * nC s + c).toNat = i * nC s + c := by omega
      have p1 : 0 ≤ (i : Int) * nC s + c := by omega
      have p2 : (i : Int) * nC s + c < nA := by omega
      have p3 : k < row.length := by omega
      have hlt : i * nC s + c < (iv (aTo s nA)).length := by simp; omega
      have ps := part_set (iv (aTo s nA)) [.int .i64 0] (i * nC s + c) hlt [.int .i64 (ent s i c)] (by
        rw [aTo_at s nA _ (by omega), Nat.mul_comm i, Nat.mul_add_div (by omega), Nat.mul_add_mod, Nat.div_eq_of_lt hcl, Nat.mod_eq_of_lt hcl, Nat.add_zero])
      have hK : Sub (upd (upd bl gp (some ⟨5, [[.int .i64 (nR s), .int .i64 (nC s), .lsl ga 1 0 nA, .lsl gb 1 0 (nR s), .lsl gc 1 0 (nC s)]]⟩)) g1 (some ⟨2, [[.int .i64 k, .int .i64 sg]]⟩)) (upd (BB (part (iv (aTo s nA)) [.int .i64 0] (i * nC s + c)) (List.replicate (right s l).length [.int .i64 0])) g1 (some ⟨2, [[.int .i64 k, .int .i64 sg]]⟩)) := by
        refine sub_same fun x y hx => ?_
        rw [upd_apply] at hx
        split at hx
        · rename_i e; rw [e, hBp]; exact hx
        · exact hBs _ _ x y hx
      have hkr : k.toNat < row.length := by omega
      have er2 : row[k.toNat]'hkr = lat row k.toNat := by simp [lat, hkr]
      refine AW_mixedB mixedO _ hK [0, 1, 2, 3, 4, 5, 6, 7, 8, 9, 10, 11, 12, 13, 14, 15, 16] 1 (by kernel_rfl) ?_
      simp [-iv_get, n1p, Ne.symm n1p, w4, w5, w6, qr, k0, p1, p2, p3, er2]
      refine DAny_one (i := 17) (by kernel_rfl) rfl rfl ?_
      have pg := part_get (iv (aTo s nA)) [.int .i64 0] (i * nC s + c) hlt
      simp [n1a, Ne.symm n1a, hBa, e1, pg, ps, er2, w6]
      have hK2 : ∀ z, Sub (upd (upd bl gp (some ⟨5, [[.int .i64 (nR s), .int .i64 (nC s), .lsl ga 1 0 nA, .lsl gb 1 0 (nR s), .lsl gc 1 0 (nC s)]]⟩)) g1 (some ⟨2, [[.int .i64 k, .int .i64 sg]]⟩)) (upd (upd (BB (part (iv (aTo s nA)) [.int .i64 0] (i * nC s + c)) (List.replicate (right s l).length [.int .i64 0])) g1 (some ⟨2, [[.int .i64 k, .int .i64 sg]]⟩)) ga z) := by
        intro z x y hx
        have hxa : x ≠ ga := fun e => by
          rw [e, upd_apply, if_neg (Ne.symm n1a), upd_apply, if_neg ap, fa] at hx; cases hx
        rw [upd_apply, if_neg hxa]
        exact hK x y hx
      refine ⟨hK2 _, DAny_done (by kernel_rfl) ?_⟩
      simp [w7, loopQ_normal]
      refine ⟨c + 1, by omega, by omega, rfl, by simp, ?_⟩
      intro x y hx
      show upd (upd (BB _ _) g1 _) ga _ x = some y
      rw [upd_apply, upd_apply]
      split
      · rename_i e; rw [e, hBa] at hx; exact hx
      · rename_i e
        rw [if_neg (fun e => by rw [e] at hx; rw [← hBua (part (iv (aTo s nA)) [.int .i64 0] (i * nC s + c)), upd_apply, if_neg n1a, hb1] at hx; cases hx)]
        rw [← hBua (part (iv (aTo s nA)) [.int .i64 0] (i * nC s + c)), upd_apply, if_neg e] at hx
        exact hx
    · have : c = nC s := by omega
      subst this
      have w7 : IntKind.i64.wrap ((i : Int) + 1) = i + 1 := i64_in (by omega) (by omega)
      simp [w7, loopQ_normal]
      exact ⟨i + 1, by omega, by omega, rfl, by simp, sub_eq (by rw [Nat.add_mul, Nat.one_mul])⟩
  · have : i = nR s := by omega
    subst this
    rw [← hA, part_all _ _ _ (by simp)]
    refine callP_ro (freeJoints_ro s (by omega)) ?_
    simp
    refine AW_for (fun i : Nat => [(1, .sl (iv l)), (8, .loc gr 5 0 0), (11, .loc gp 5 0 0), (80, .sl (iv (frees s.js))), (81, .int .i64 (frees s.js).length), (82, .int .i64 i)]) (fun i => BB (iv (aTo s nA)) (part (iv (right s l)) [.int .i64 0] (2 * i))) (fun i => i ≤ (frees s.js).length) (fun i => (frees s.js).length - i) 113 0 (Nat.zero_le _) ⟨rfl, by simp, sub_eq (by simp)⟩ ?_
    intro i hi
    refine AW_run ?_
    simp
    refine ⟨fun h => ?_, fun h => ?_⟩
    · obtain ⟨r1, r2⟩ := frees_range (List.getElem_mem h)
      have ra := right_at s l (frees s.js) i h
      simp [h]
      obtain ⟨j, hj⟩ : ∃ j, (frees s.js)[i] = j := ⟨_, rfl⟩
      rw [hj] at r1 r2 ra ⊢
      change lat (right s l) (2 * i) = _ ∧ lat (right s l) (2 * i + 1) = _ at ra
      have a1 : (2 * j).toNat < l.length := by rw [hL.n]; omega
      have a2 : (2 * j + 1).toNat < l.length := by rw [hL.n]; omega
      have b1 := hL.f _ a1
      have b2 := hL.f _ a2
      have q1 := iv_at a1
      have q2 := iv_at a2
      have w1 : IntKind.i64.wrap (2 * j) = 2 * j := i64_in (by omega) (by omega)
      have w2 : IntKind.i64.wrap (2 * j + 1) = 2 * j + 1 := i64_in (by omega) (by omega)
      have w3 : IntKind.i64.wrap (-lat l (2 * j).toNat) = lat (right s l) (2 * i) := by rw [ra.1]; exact i64_in (by omega) (by omega)
      have w4 : IntKind.i64.wrap (-lat l (2 * j + 1).toNat) = lat (right s l) (2 * i + 1) := by rw [ra.2]; exact i64_in (by omega) (by omega)
      have w5 : IntKind.i64.wrap ((i : Int) + 1) = i + 1 := i64_in (by omega) (by omega)
      have w6 : IntKind.i64.wrap (2 * (i : Int)) = 2 * i := i64_in (by omega) (by omega)
      have w7 : IntKind.i64.wrap (2 * (i : Int) + 1) = 2 * i + 1 := i64_in (by omega) (by omega)
      have p1 : 0 ≤ 2 * j := by omega
      have p2 : 0 ≤ 2 * j + 1 := by omega
      have p3 : 2 * (i : Int) < nR s := by unfold nR; omega
      have p4 : 2 * (i : Int) + 1 < nR s := by unfold nR; omega
      have t1 : (2 * (i : Int)).toNat = 2 * i := by omega
      have t2 : (2 * (i : Int) + 1).toNat = 2 * i + 1 := by omega
      have hl1 : 2 * i < (iv (right s l)).length := by rw [iv_length, right_length]; omega
      have hl2 : 2 * i + 1 < (iv (right s l)).length := by rw [iv_length, right_length]; omega
      have hK : Sub (upd bl gp (some ⟨5, [[.int .i64 (nR s), .int .i64 (nC s), .lsl ga 1 0 nA, .lsl gb 1 0 (nR s), .lsl gc 1 0 (nC s)]]⟩)) (BB (iv (aTo s nA)) (part (iv (right s l)) [.int .i64 0] (2 * i))) := by
        intro x y hx
        rw [upd_apply] at hx
        split at hx
        · rename_i e; rw [e, hBp]; exact hx
        · exact hBs _ _ x y hx
      have hK2 : ∀ e, Sub (upd bl gp (some ⟨5, [[.int .i64 (nR s), .int .i64 (nC s), .lsl ga 1 0 nA, .lsl gb 1 0 (nR s), .lsl gc 1 0 (nC s)]]⟩)) (BB (iv (aTo s nA)) e) := by
        intro e x y hx
        rw [upd_apply] at hx
        split at hx
        · rename_i e; rw [e, hBp]; exact hx
        · exact hBs _ _ x y hx
      have g1 := part_get (iv (right s l)) [.int .i64 0] (2 * i) hl1
      have g2 := part_get (iv (right s l)) [.int .i64 0] (2 * i + 1) hl2
      have s1 := part_set (iv (right s l)) [.int .i64 0] (2 * i) hl1 [.int .i64 (lat (right s l) (2 * i))] (by
        have := iv_at (l := right s l) (i := 2 * i) (by simpa using hl1); rw [List.getElem?_eq_getElem hl1] at this; exact (Option.some.inj this).symm)
      have s2 := part_set (iv (right s l)) [.int .i64 0] (2 * i + 1) hl2 [.int .i64 (lat (right s l) (2 * i + 1))] (by
        have := iv_at (l := right s l) (i := 2 * i + 1) (by simpa using hl2); rw [List.getElem?_eq_getElem hl2] at this; exact (Option.some.inj this).symm)
      refine AW_mixedB mixedO _ hK [0, 1, 2, 3, 4, 5, 6, 7, 8, 9, 10, 11, 12, 13, 14, 15, 16, 17, 18, 19, 20, 21, 22] 3 (by kernel_rfl) ?_
      have p5 : 0 ≤ 2 * (i : Int) := by omega
      have p6 : 0 ≤ 2 * (i : Int) + 1 := by omega
      simp [-iv_get, w1, w2, w3, w4, w6, w7, q1, q2, p1, p2, p3, p4, p5, p6]
      refine DAny_one (i := 23) (by kernel_rfl) (by rfl) (by rfl) ?_
      simp [hBb, t1, g1, s1, hBub]
      refine ⟨hK2 _, DAny_one (i := 24) (by kernel_rfl) (by rfl) (by rfl) ?_⟩
      simp [p4, p6]
      refine ⟨hK2 _, DAny_one (i := 25) (by kernel_rfl) (by rfl) (by rfl) ?_⟩
      simp [hBb, t2, g2, s2, hBub]
      refine ⟨hK2 _, DAny_done (by kernel_rfl) ?_⟩
      simp [w5, loopQ_normal]
      exact ⟨i + 1, by omega, by omega, rfl, by simp, sub_eq (by rw [Nat.mul_add])⟩
    · have : i = (frees s.js).length := by omega
      subst this
      have hall : part (iv (right s l)) [.int .i64 0] (2 * (frees s.js).length) = iv (right s l) := by
        have e : (iv (right s l)).length = 2 * (frees s.js).length := by rw [iv_length, right_length]; rfl
        rw [← e]; exact part_all _ _ _ (Nat.le_refl _)
      rw [hall]
      simp [hBp, hBr]
      refine retNW [.agg [.int .i64 (nR s), .int .i64 (nC s), .lsl ga 1 0 nA, .lsl gb 1 0 (nR s), .lsl gc 1 0 (nC s)]] [ga, gb, gc] (by simp) ?_ (by simp [fa, fb, fc]) ?_
      · show OwnD _ (.a _) (.agg _) _
        rw [OwnD]
        refine ⟨_, rfl, own_cons (own_int _) (own_cons (own_int _) (own_cons (g1 := [ga]) (own_iv.2 (.inr ⟨ga, by simp [fprog, hA], rfl, ?_, by omega⟩)) (own_cons (g1 := [gb]) (own_iv.2 (.inr ⟨gb, by simp [fprog, right_length], rfl, ?_, by omega⟩)) (own_cons (g1 := [gc]) (own_iv.2 (.inr ⟨gc, by simp [fprog], rfl, ?_, by omega⟩)) own_nil (by simp)) (by simp [Ne.symm cb])) (by simp [Ne.symm ba, Ne.symm ca])) (by simp)) (by simp)⟩
        · simp [ar, hBa, fprog, hA]
        · simp [br, hBb, fprog]
        · simp [cr, hBc, fprog, iv]
      · intro x y hx
        have hxr : x ≠ gr := fun e => by rw [e, hbr] at hx; cases hx
        simp [hxr]
        exact hBs _ _ x y hx

end Go.Proofs.YticmgmemnpcbbaaGreat.Vm

namespace Go.Proofs.YticmgmemnpcbbaaGreat.Vm
open Go Go.Proofs
set_option linter.unusedSimpArgs false
set_option linter.unusedVariables false

def noPg : Pg := ⟨0, 0, [], [], []⟩
def fpOf (s : Str) (l : List Int) : Pg := if lOk s l = true then fprog s l else noPg

def pgEq (p q : Pg) : Bool := decide (p.rows = q.rows) && (decide (p.cols = q.cols) && (decide (p.a = q.a) && (decide (p.b = q.b) && decide (p.c = q.c))))
@[simp] theorem pgEq_self (p : Pg) : pgEq p p = true := by simp [pgEq]
/-- The marks of a program from k on. -/
def mkP (k : Nat) (p : Pg) : Pg := ⟨p.rows, p.cols, marks k p.a.length, marks (k + p.a.length : Nat) p.b.length, marks (k + p.a.length + p.b.length : Nat) p.c.length⟩
def mkPN (k : Nat) (p : Pg) : Nat := k + p.a.length + p.b.length + p.c.length

end Go.Proofs.YticmgmemnpcbbaaGreat.Vm

namespace Go.Proofs.YticmgmemnpcbbaaGreat.Vm
open Go Go.Proofs
set_option linter.unusedSimpArgs false
set_option linter.unusedVariables false

theorem dPg_dep (p : Pg) : (dPg p).dep 2 := by simp [dPg, D.dep, D.depL, fl_dep]
theorem dPg_fz (p : Pg) : (dPg p).fz = .agg p.v := by simp [dPg, D.fz, D.fzL, Pg.v]
end Go.Proofs.YticmgmemnpcbbaaGreat.Vm

namespace Go.Proofs.YticmgmemnpcbbaaGreat.Vm
open Go Go.Proofs
set_option linter.unusedSimpArgs false
set_option linter.unusedVariables false

def bv (bs : List Int) : List (List V) := bs.map fun b => [.int .u8 b]
@[simp] theorem bv_length (bs : List Int) : (bv bs).length = bs.length := by simp [bv]
theorem bv_get (bs : List Int) (i : Nat) (h : i < bs.length) : (bv bs)[i]? = some [.int .u8 bs[i]] := by simp [bv, h]
@[simp] theorem bv_getE (bs : List Int) (i : Nat) (h : i < (bv bs).length) : (bv bs)[i] = [.int .u8 (bs[i]'(by simpa using h))] := by simp [bv]
/-- A cursor over a code. -/
def cur (bs : List Int) (i h : Int) : Blk := ⟨3, [[.sl (bv bs), .int .i64 i, .int .i64 h]]⟩
/-- The last eight bits. -/
def lo8 (a : Int) : Int := IntKind.i64.wrap ((BitVec.ofInt 64 a &&& BitVec.ofInt 64 255).toNat)
@[simp high] theorem binV_lo8 (P : Program) (t : TypeId) (a : Int) : binV P .and t (.int .i64 a) (.int .i64 255) = some (.int .i64 (lo8 a)) := rfl
def shrN (a : Int) (n : Nat) : Int := a.fdiv (2 ^ n)
def xorI (a b : Int) : Int := IntKind.i64.wrap ((BitVec.ofInt 64 a ^^^ BitVec.ofInt 64 b).toNat)
@[simp high] theorem binV_33 (P : Program) (t : TypeId) (a : Int) : binV P .shr t (.int .i64 a) (.int .u64 33) = some (.int .i64 (shrN a 33)) := rfl
@[simp high] theorem binV_45 (P : Program) (t : TypeId) (a : Int) : binV P .shr t (.int .i64 a) (.int .u64 45) = some (.int .i64 (shrN a 45)) := rfl
@[simp high] theorem binV_xorI (P : Program) (t : TypeId) (a b : Int) : binV P .xor t (.int .i64 a) (.int .i64 b) = some (.int .i64 (xorI a b)) := rfl
structure CurOk (bs : List Int) (i : Int) : Prop where
  n : bs.length ≤ 1048576
  b : ∀ x, x ∈ bs → 0 ≤ x ∧ x < 256
  i0 : 0 ≤ i
  i1 : i ≤ bs.length

end Go.Proofs.YticmgmemnpcbbaaGreat.Vm

namespace Go.Proofs.YticmgmemnpcbbaaGreat.Vm
open Go Go.Proofs
set_option linter.unusedSimpArgs false
set_option linter.unusedVariables false

def msk (a b : Int) : Int := IntKind.i64.wrap ((BitVec.ofInt 64 a &&& BitVec.ofInt 64 b).toNat)
end Go.Proofs.YticmgmemnpcbbaaGreat.Vm

namespace Go.Proofs.YticmgmemnpcbbaaGreat.Vm
open Go Go.Proofs
set_option linter.unusedSimpArgs false
set_option linter.unusedVariables false

structure LD where
  k : Nat
  ns : List Int
  i : Int
  h : Int

end Go.Proofs.YticmgmemnpcbbaaGreat.Vm

namespace Go.Proofs.YticmgmemnpcbbaaGreat.Vm
open Go Go.Proofs
set_option linter.unusedSimpArgs false
set_option linter.unusedVariables false

/-- What follows a structure drawn. -/
def StrK (bl : Int → Option Blk) (K : V → (Int → Option Blk) → Prop) (bs : List Int) (g : Int) : Prop :=
  ∀ (s : Str) (i' h' : Int) bl', sOk s = true → 3 ≤ s.js.length → CurOk bs i' → bl' g = some (cur bs i' h') → (∀ x y, x ≠ g → bl x = some y → bl' x = some y) → K (.agg s.c) bl'
def nmA : ByteArray := { data := #[97] }
def nmB : ByteArray := { data := #[98] }
def nmC : ByteArray := { data := #[99] }
def nmD : ByteArray := { data := #[100] }
def js3 (x1 x2 x3 x4 x5 x6 : Int) : List J := [⟨nmA, -1 - x1, x2, true⟩, ⟨nmB, 3 + x3, x4, true⟩, ⟨nmC, x5 - 1, -1 - x6, false⟩]
def ms2 (x7 : Int) : List Mb := [⟨0, 2, 1⟩, ⟨1, 2, x7⟩]
def js4 (x1 x2 x3 x4 x5 x6 x8 : Int) : List J := js3 x1 x2 x3 x4 x5 x6 ++ [⟨nmD, x8 - 1, -7, true⟩]
def ms3 (x7 x9 : Int) : List Mb := ms2 x7 ++ [⟨3, 2, x9⟩]
end Go.Proofs.YticmgmemnpcbbaaGreat.Vm
