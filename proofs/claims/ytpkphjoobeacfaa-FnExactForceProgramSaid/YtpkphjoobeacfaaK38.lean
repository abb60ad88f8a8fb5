/- The columns of the force program. -/
import Derived.Test.YtpkphjoobeacfaaK37
namespace Go.Proofs.Ytpkphjoobeacfaa.Vm
open Go Go.Proofs
set_option linter.unusedSimpArgs false
set_option linter.unusedVariables false

def colK (m : Mb) (k : Nat) : List (Int × Int) := (if m.kind = 2 then [] else [((k : Int), 1)]) ++ (if m.kind = 1 then [] else [((k : Int), -1)])
def colsTo (ms : List Mb) (n : Nat) : List (Int × Int) := (List.range n).flatMap fun k => colK (ms.getD k default) k
def cols (ms : List Mb) : List (Int × Int) := colsTo ms ms.length
def cv (cs : List (Int × Int)) : List (List V) := cs.map fun p => [.int .i64 p.1, .int .i64 p.2]
theorem colsTo_succ (ms : List Mb) (n : Nat) : colsTo ms (n + 1) = colsTo ms n ++ colK (ms.getD n default) n := by
  unfold colsTo
  rw [List.range_succ, List.flatMap_append]; simp
theorem colK_le (m : Mb) (k : Nat) : (colK m k).length ≤ 2 := by
  unfold colK; split <;> split <;> simp
theorem colsTo_le (ms : List Mb) : ∀ n, (colsTo ms n).length ≤ 2 * n
  | 0 => by simp [colsTo]
  | n + 1 => by
    rw [colsTo_succ, List.length_append]
    have := colsTo_le ms n
    have := colK_le (ms.getD n default) n
    omega
theorem cv_append (a b : List (Int × Int)) : cv (a ++ b) = cv a ++ cv b := by simp [cv]
@[simp] theorem cv_length (a : List (Int × Int)) : (cv a).length = a.length := by simp [cv]
theorem cv_takeall (a : List (Int × Int)) : (cv a).take a.length = cv a := by rw [← cv_length a, List.take_length]
theorem cv_cl (a : List (Int × Int)) : (cv a).all (fun e => e.all V.cl) = true := by simp [cv, V.cl]
theorem cv_clen (a : List (Int × Int)) : ∀ r, r ∈ cv a → r.length = 2 := by
  intro r hr
  obtain ⟨n, _, rfl⟩ := List.mem_map.1 hr
  rfl
theorem own_cv {bl : Int → Option Blk} {ns : List (Int × Int)} {v : V} {gs : List Int} : OwnD bl (fl 2 (cv ns)) v gs ↔ (ns = [] ∧ v = .nils ∧ gs = []) ∨ ∃ g, v = .lsl g 2 0 ns.length ∧ gs = [g] ∧ bl g = some ⟨2, cv ns⟩ ∧ (g < 0 → ns = []) := by
  rw [own_fl (cv_cl ns) (cv_clen ns)]
  simp [cv]

theorem columns_nw (s : Str) (hm : s.ms.length ≤ 8) : NW Try.prog 137 [.ptr s.c] (fl 2 (cv (cols s.ms))) := by
  refine nw_of Try.func137 rfl rfl (by rw [Try.ntmps137]; simp) fun bl => ?_
  rw [Try.ntmps137, Try.results137]
  refine AW_run ?_
  simp [Str.c]
  refine AW_ghost 3 2 (by simp) fun g00 hg00 => ?_
  refine AW_for (fun p : Nat × Int => [(3, .lsl p.2 2 0 (colsTo s.ms p.1).length), (9, .sl (mv s.ms)), (10, .int .i64 s.ms.length), (11, .int .i64 p.1)]) (fun p => upd bl p.2 (some ⟨2, cv (colsTo s.ms p.1)⟩)) (fun p => p.1 ≤ s.ms.length ∧ bl p.2 = none ∧ (p.2 < 0 → colsTo s.ms p.1 = [])) (fun p => s.ms.length - p.1) _ (0, g00) ⟨Nat.zero_le _, hg00, fun _ => rfl⟩ ⟨rfl, by simp [colsTo], sub_eq (by simp [colsTo, cv])⟩ ?_
  rintro ⟨i, g⟩ ⟨hi, hg, h0⟩
  simp only at hi hg h0
  have hl := colsTo_le s.ms i
  refine AW_run ?_
  simp
  refine ⟨fun h => ?_, fun h => ?_⟩
  · have w1 : IntKind.i64.wrap ((i : Int) + 1) = i + 1 := i64_in (by omega) (by omega)
    have hsc := colsTo_succ s.ms i
    rw [getD_at _ _ _ h] at hsc
    simp [h, Mb.c]
    intro g1 hg1 h1g hb1
    refine ⟨fun hf => ?_, fun hf => ?_⟩
    · intro g2 hg2 h21 h2g hb2
      simp [h1g, h21, h2g, Ne.symm h1g, Ne.symm h21, Ne.symm h2g, appV, elsV, Int.not_lt.2 hg2]
      refine ⟨by omega, fun g3 hg3 hb3 => ?_⟩
      have h31 : g3 ≠ g1 := by grind
      have hb3' : bl g3 = none := by grind
      simp [h31, Ne.symm h31, h1g, h21, Ne.symm h1g, Ne.symm h21]
      refine ⟨fun hf2 => ?_, fun hf2 => ?_⟩
      · intro g4 hg4 h43 h42
        simp [h43, Ne.symm h43, h31, Ne.symm h31, appV, elsV, Int.not_lt.2 hg4]
        refine ⟨by omega, fun g5 hg5 hb5 => ?_⟩
        have hb5' : bl g5 = none := by grind
        have hb4 : bl g4 = none := by grind
        have hs1 : colsTo s.ms (i + 1) = colsTo s.ms i ++ [((i : Int), 1)] ++ [((i : Int), -1)] := by rw [hsc, colK, if_neg hf, if_neg hf2, List.append_assoc]
        simp [w1, loopQ_normal]
        refine ⟨i + 1, g5, ⟨by omega, hb5', by omega⟩, by omega, rfl, by simp [hs1], ?_⟩
        rw [hs1, cv_append, cv_append]
        exact sub_put (by rw [cv_takeall, List.take_of_length_le (by simp)]; rfl) (by simp [hg, hb1, hb2, hb3', hb4, h1g, h21, h2g])
      · have hs1 : colsTo s.ms (i + 1) = colsTo s.ms i ++ [((i : Int), 1)] := by rw [hsc, colK, if_neg hf, if_pos hf2, List.append_nil]
        simp [w1, loopQ_normal]
        refine ⟨i + 1, g3, ⟨by omega, hb3', by omega⟩, by omega, rfl, by simp [hs1], ?_⟩
        rw [hs1, cv_append]
        exact sub_put (by rw [cv_takeall]; rfl) (by simp [hg, hb1, hb2, h1g, h21, h2g])
    · refine ⟨fun hf2 => ?_, fun hf2 => ?_⟩
      · intro g2 hg2 h21 h2g hb2
        simp [h1g, h21, h2g, Ne.symm h1g, Ne.symm h21, Ne.symm h2g, appV, elsV, Int.not_lt.2 hg2]
        refine ⟨by omega, fun g3 hg3 hb3 => ?_⟩
        have hb3' : bl g3 = none := by grind
        have hs1 : colsTo s.ms (i + 1) = colsTo s.ms i ++ [((i : Int), -1)] := by rw [hsc, colK, if_pos hf, if_neg hf2, List.nil_append]
        simp [w1, loopQ_normal]
        refine ⟨i + 1, g3, ⟨by omega, hb3', by omega⟩, by omega, rfl, by simp [hs1], ?_⟩
        rw [hs1, cv_append]
        exact sub_put (by rw [cv_takeall]; rfl) (by simp [hg, hb1, hb2, h1g, h21, h2g])
      · omega
  · have hi : i = s.ms.length := by omega
    subst hi
    refine retNW [.lsl g 2 0 (colsTo s.ms s.ms.length).length] [g] (by simp) ?_ (by simpa using hg) (by simp [hg])
    refine own_cv.2 (.inr ⟨g, rfl, rfl, by simp [cols], h0⟩)

theorem iv_two (a b : Int) : iv [a, b] = [[.int .i64 a], [.int .i64 b]] := rfl
theorem iv_one (a : Int) : iv [a] = [[.int .i64 a]] := rfl

def who (s : Str) : List Int := (cols s.ms).map (·.1)
def sgn (s : Str) : List Int := (cols s.ms).map (·.2)
def dWS (s : Str) : D := .t [fl 1 (iv (who s)), fl 1 (iv (sgn s))]
structure Two where
  i : Nat
  g : Int
  h : Int
  b : Int → Option Blk
def twoInv (bl : Int → Option Blk) (A B : Nat → List Int) (n : Nat) (p : Two) : Prop :=
  p.i ≤ n ∧ p.g ≠ p.h ∧ p.b p.g = some ⟨1, iv (A p.i)⟩ ∧ p.b p.h = some ⟨1, iv (B p.i)⟩ ∧ bl p.g = none ∧ bl p.h = none ∧ Sub bl p.b ∧ (p.g < 0 → A p.i = []) ∧ (p.h < 0 → B p.i = [])

set_option maxHeartbeats 1000000 in
theorem l15Columns_nw (s : Str) (hm : s.ms.length ≤ 8) : NW Try.prog 133 [.agg s.c] (dWS s) := by
  refine nw_of Try.func133 rfl rfl (by rw [Try.ntmps133]; simp) fun bl => ?_
  rw [Try.ntmps133, Try.results133]
  refine AW_run ?_
  simp [Str.c]
  intro gs hgs0 hgs ga hga0 hgas hbga gb hgb0 hgba hgbs hbgb
  simp [hgas, Ne.symm hgas, hgba, Ne.symm hgba, hgbs, Ne.symm hgbs]
  refine AW_for (fun p : Two => [(4, .lsl p.g 1 0 (colsTo s.ms p.i).length), (5, .lsl p.h 1 0 (colsTo s.ms p.i).length), (11, .sl (mv s.ms)), (12, .int .i64 s.ms.length), (13, .int .i64 p.i)]) (fun p => p.b) (twoInv bl (fun n => (colsTo s.ms n).map (·.1)) (fun n => (colsTo s.ms n).map (·.2)) s.ms.length) (fun p => s.ms.length - p.i) 41 ⟨0, ga, gb, upd (upd (upd bl gs (some ⟨2, [[.sl (jv s.js), .sl (mv s.ms)]]⟩)) ga (some ⟨1, []⟩)) gb (some ⟨1, []⟩)⟩ ⟨Nat.zero_le _, Ne.symm hgba, by simp [Ne.symm hgba, colsTo, iv], by simp [colsTo, iv], hbga, hbgb, by simp [hgs, hbga, hbgb], fun _ => rfl, fun _ => rfl⟩ ⟨rfl, by simp [colsTo], sub_eq (by simp)⟩ ?_
  rintro ⟨i, g, h', b⟩ ⟨hi, hgh, hbg, hbh, hg, hh, hsb, h0, h1⟩
  simp only at hi hgh hbg hbh hg hh hsb h0 h1
  have hl := colsTo_le s.ms i
  have fr : ∀ x, b x = none → bl x = none := fun x hx => fresh_of hsb hx
  refine AW_run ?_
  simp
  refine ⟨fun h => ?_, fun h => ?_⟩
  · have w1 : IntKind.i64.wrap ((i : Int) + 1) = i + 1 := i64_in (by omega) (by omega)
    have hsc := colsTo_succ s.ms i
    rw [getD_at _ _ _ h] at hsc
    have tkA : List.take (colsTo s.ms i).length (iv ((colsTo s.ms i).map (·.1))) = iv ((colsTo s.ms i).map (·.1)) := List.take_of_length_le (by simp)
    have tkA2 : ∀ x : List V, List.take ((colsTo s.ms i).length + 1) (iv ((colsTo s.ms i).map (·.1)) ++ [x]) = iv ((colsTo s.ms i).map (·.1)) ++ [x] := fun x => List.take_of_length_le (by simp)
    have tkB2 : ∀ x : List V, List.take ((colsTo s.ms i).length + 1) (iv ((colsTo s.ms i).map (·.2)) ++ [x]) = iv ((colsTo s.ms i).map (·.2)) ++ [x] := fun x => List.take_of_length_le (by simp)
    have tkB : List.take (colsTo s.ms i).length (iv ((colsTo s.ms i).map (·.2))) = iv ((colsTo s.ms i).map (·.2)) := List.take_of_length_le (by simp)
    simp [h, Mb.c]
    intro g1 hg1 hb1
    have n1g : g1 ≠ g := fun e => by rw [e, hbg] at hb1; cases hb1
    have n1h : g1 ≠ h' := fun e => by rw [e, hbh] at hb1; cases hb1
    refine ⟨fun hf => ?_, fun hf => ?_⟩
    · intro g2 hg2 h21 hb2
      have n2g : g2 ≠ g := fun e => by rw [e, hbg] at hb2; cases hb2
      have n2h : g2 ≠ h' := fun e => by rw [e, hbh] at hb2; cases hb2
      simp [hbg, n1g, h21, n2g, Ne.symm n1g, Ne.symm h21, Ne.symm n2g, appV, elsV, Int.not_lt.2 hg2]
      refine ⟨by omega, fun g3 hg3 hb3 => ?_⟩
      have n31 : g3 ≠ g1 := by grind
      have n3h : g3 ≠ h' := by grind
      simp [n31, Ne.symm n31, n3h, Ne.symm n3h]
      intro g4 hg4 h43 hb4
      have n41 : g4 ≠ g1 := by grind
      have n4h : g4 ≠ h' := by grind
      simp [hgh, Ne.symm hgh, hbh, n1h, Ne.symm n1h, n2h, Ne.symm n2h, n31, Ne.symm n31, n3h, Ne.symm n3h, n41, Ne.symm n41, n4h, Ne.symm n4h, h43, Ne.symm h43, appV, elsV, Int.not_lt.2 hg4]
      refine ⟨by omega, fun g5 hg5 hb5 => ?_⟩
      have n51 : g5 ≠ g1 := by grind
      have n53 : g5 ≠ g3 := by grind
      simp [hgh, Ne.symm hgh, n1h, Ne.symm n1h, n31, Ne.symm n31, n51, Ne.symm n51, n41, Ne.symm n41, h21, Ne.symm h21, n1g, Ne.symm n1g]
      refine ⟨fun hf2 => ?_, fun hf2 => ?_⟩
      · intro g6 hg6 n65 hb6
        have n61 : g6 ≠ g1 := by grind
        have n63 : g6 ≠ g3 := by grind
        simp [n3h, Ne.symm n3h, n1g, Ne.symm n1g, n31, Ne.symm n31, hgh, Ne.symm hgh, n65, Ne.symm n65, n61, Ne.symm n61, n63, Ne.symm n63, n53, Ne.symm n53, h43, Ne.symm h43, appV, elsV, Int.not_lt.2 hg6, tkA, tkB]
        refine ⟨by omega, fun g7 hg7 hb7 => ?_⟩
        have n71 : g7 ≠ g1 := by grind
        have n75 : g7 ≠ g5 := by grind
        simp [n71, Ne.symm n71, n75, Ne.symm n75]
        intro g8 hg8 n87 hb8
        have n81 : g8 ≠ g1 := by grind
        have n85 : g8 ≠ g5 := by grind
        simp [n71, Ne.symm n71, n75, Ne.symm n75, n81, Ne.symm n81, n85, Ne.symm n85, n87, Ne.symm n87, n65, Ne.symm n65, n53, Ne.symm n53, appV, elsV, Int.not_lt.2 hg8, tkA, tkB]
        refine ⟨by omega, fun g9 hg9 hb9 => ?_⟩
        have n91 : g9 ≠ g1 := by grind
        have n97 : g9 ≠ g7 := by grind
        have e1 : colsTo s.ms (i + 1) = colsTo s.ms i ++ [((i : Int), 1)] ++ [((i : Int), -1)] := by rw [hsc, colK, if_neg hf, if_neg hf2, List.append_assoc]
        simp [w1, loopQ_normal]
        refine ⟨⟨i + 1, g7, g9, _⟩, ⟨by simp only; omega, by simp only; grind, ?_, ?_, by simp only; grind, by simp only; grind, ?_, fun e => by simp only at e; omega, fun e => by simp only at e; omega⟩, by simp only; omega, rfl, by simp [e1], sub_eq rfl⟩
        · simp [hgh, Ne.symm hgh, n1h, Ne.symm n1h, n31, Ne.symm n31, n51, Ne.symm n51, n53, Ne.symm n53, n41, Ne.symm n41, h43, Ne.symm h43, n71, Ne.symm n71, n75, Ne.symm n75, n61, Ne.symm n61, n63, Ne.symm n63, n81, n87, n85, Ne.symm n81, Ne.symm n85, Ne.symm n87, n91, n97, Ne.symm n91, Ne.symm n97, n3h, Ne.symm n3h, n4h, Ne.symm n4h, e1, iv_append, iv_one, iv_two, tkA, tkB, tkA2, tkB2]
        · simp [hgh, Ne.symm hgh, n1h, Ne.symm n1h, n31, Ne.symm n31, n51, Ne.symm n51, n53, Ne.symm n53, n41, Ne.symm n41, h43, Ne.symm h43, n71, Ne.symm n71, n75, Ne.symm n75, n61, Ne.symm n61, n63, Ne.symm n63, n81, n87, n85, Ne.symm n81, Ne.symm n85, Ne.symm n87, n91, n97, Ne.symm n91, Ne.symm n97, n3h, Ne.symm n3h, n4h, Ne.symm n4h, e1, iv_append, iv_one, iv_two, tkA, tkB, tkA2, tkB2]
        · intro x y hx
          have hbx := hsb x y hx
          have ng : x ≠ g := fun e => by rw [e, hg] at hx; cases hx
          have nh : x ≠ h' := fun e => by rw [e, hh] at hx; cases hx
          simp [upd_apply, rem_apply]
          grind
      · skip
        have e1 : colsTo s.ms (i + 1) = colsTo s.ms i ++ [((i : Int), 1)] := by rw [hsc, colK, if_neg hf, if_pos hf2, List.append_nil]
        simp [w1, loopQ_normal]
        refine ⟨⟨i + 1, g3, g5, _⟩, ⟨by simp only; omega, by simp only; grind, ?_, ?_, by simp only; grind, by simp only; grind, ?_, fun e => by simp only at e; omega, fun e => by simp only at e; omega⟩, by simp only; omega, rfl, by simp [e1], sub_eq rfl⟩
        · simp [hgh, Ne.symm hgh, n1h, Ne.symm n1h, n31, Ne.symm n31, n51, Ne.symm n51, n53, Ne.symm n53, n41, Ne.symm n41, h43, Ne.symm h43, n3h, Ne.symm n3h, n4h, Ne.symm n4h, e1, iv_append, iv_one, iv_two, tkA, tkB, tkA2, tkB2]
        · simp [hgh, Ne.symm hgh, n1h, Ne.symm n1h, n31, Ne.symm n31, n51, Ne.symm n51, n53, Ne.symm n53, n41, Ne.symm n41, h43, Ne.symm h43, n3h, Ne.symm n3h, n4h, Ne.symm n4h, e1, iv_append, iv_one, iv_two, tkA, tkB, tkA2, tkB2]
        · intro x y hx
          have hbx := hsb x y hx
          have ng : x ≠ g := fun e => by rw [e, hg] at hx; cases hx
          have nh : x ≠ h' := fun e => by rw [e, hh] at hx; cases hx
          simp [upd_apply, rem_apply]
          grind
    · refine ⟨fun hf2 => ?_, fun hf2 => ?_⟩
      · intro g2 hg2 h21 hb2
        have n2g : g2 ≠ g := fun e => by rw [e, hbg] at hb2; cases hb2
        have n2h : g2 ≠ h' := fun e => by rw [e, hbh] at hb2; cases hb2
        simp [hbg, n1g, h21, n2g, Ne.symm n1g, Ne.symm h21, Ne.symm n2g, appV, elsV, Int.not_lt.2 hg2]
        refine ⟨by omega, fun g3 hg3 hb3 => ?_⟩
        have n31 : g3 ≠ g1 := by grind
        have n3h : g3 ≠ h' := by grind
        simp [n31, Ne.symm n31, n3h, Ne.symm n3h]
        intro g4 hg4 h43 hb4
        have n41 : g4 ≠ g1 := by grind
        have n4h : g4 ≠ h' := by grind
        simp [hgh, Ne.symm hgh, hbh, n1h, Ne.symm n1h, n2h, Ne.symm n2h, n31, Ne.symm n31, n3h, Ne.symm n3h, n41, Ne.symm n41, n4h, Ne.symm n4h, h43, Ne.symm h43, appV, elsV, Int.not_lt.2 hg4]
        refine ⟨by omega, fun g5 hg5 hb5 => ?_⟩
        have n51 : g5 ≠ g1 := by grind
        have n53 : g5 ≠ g3 := by grind
        have e1 : colsTo s.ms (i + 1) = colsTo s.ms i ++ [((i : Int), -1)] := by rw [hsc, colK, if_pos hf, if_neg hf2, List.nil_append]
        simp [w1, loopQ_normal]
        refine ⟨⟨i + 1, g3, g5, _⟩, ⟨by simp only; omega, by simp only; grind, ?_, ?_, by simp only; grind, by simp only; grind, ?_, fun e => by simp only at e; omega, fun e => by simp only at e; omega⟩, by simp only; omega, rfl, by simp [e1], sub_eq rfl⟩
        · simp [hgh, Ne.symm hgh, n1h, Ne.symm n1h, n31, Ne.symm n31, n51, Ne.symm n51, n53, Ne.symm n53, n41, Ne.symm n41, h43, Ne.symm h43, n3h, Ne.symm n3h, n4h, Ne.symm n4h, e1, iv_append, iv_one, iv_two, tkA, tkB, tkA2, tkB2]
        · simp [hgh, Ne.symm hgh, n1h, Ne.symm n1h, n31, Ne.symm n31, n51, Ne.symm n51, n53, Ne.symm n53, n41, Ne.symm n41, h43, Ne.symm h43, n3h, Ne.symm n3h, n4h, Ne.symm n4h, e1, iv_append, iv_one, iv_two, tkA, tkB, tkA2, tkB2]
        · intro x y hx
          have hbx := hsb x y hx
          have ng : x ≠ g := fun e => by rw [e, hg] at hx; cases hx
          have nh : x ≠ h' := fun e => by rw [e, hh] at hx; cases hx
          simp [upd_apply, rem_apply]
          grind
      · omega
  · have hi : i = s.ms.length := by omega
    subst hi
    refine retNW [.lsl g 1 0 (colsTo s.ms s.ms.length).length, .lsl h' 1 0 (colsTo s.ms s.ms.length).length] [g, h'] (by simp) ?_ (by simp [hg, hh]) hsb
    unfold dWS
    rw [OwnD]
    exact ⟨_, rfl, own_pair.2 ⟨_, _, [g], [h'], rfl, rfl, by simpa using hgh, own_iv.2 (.inr ⟨g, by simp [who, cols], rfl, hbg, h0⟩), own_iv.2 (.inr ⟨h', by simp [sgn, cols], rfl, hbh, h1⟩)⟩⟩
theorem l15Columns_ro (s : Str) (hm : s.ms.length ≤ 8) : RO Try.prog 133 [.agg s.c] (.tup [.sl (iv (who s)), .sl (iv (sgn s))]) := by
  have := ro_of_nw 2 (l15Columns_nw s hm) (by simp [dWS, D.dep, D.depL, fl_dep])
  simpa [dWS, D.fz, D.fzL] using this
theorem columns_ro (s : Str) (hm : s.ms.length ≤ 8) : RO Try.prog 137 [.ptr s.c] (.sl (cv (cols s.ms))) := by
  have := ro_of_nw 1 (columns_nw s hm) (fl_dep _ _ 0)
  simpa using this

end Go.Proofs.Ytpkphjoobeacfaa.Vm
