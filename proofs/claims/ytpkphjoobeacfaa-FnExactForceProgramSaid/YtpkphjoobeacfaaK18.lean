/- Free joints, degrees. -/
import Derived.Test.YtpkphjoobeacfaaK17
import Derived.Test.YtpkphjoobeacfaaVmO
namespace Go.Proofs.Ytpkphjoobeacfaa.Vm
open Go Go.Proofs
set_option linter.unusedSimpArgs false
set_option linter.unusedVariables false

theorem iv_clen (ns : List Int) : ∀ r, r ∈ iv ns → r.length = 1 := by
  intro r hr
  obtain ⟨n, _, rfl⟩ := List.mem_map.1 hr
  rfl
theorem iv_ow (ns : List Int) : (iv ns).all (fun r => r.all V.ow) = true := by simp [iv, V.ow]
theorem iv_append (a b : List Int) : iv (a ++ b) = iv a ++ iv b := by simp [iv]
theorem iv_takeall (ns : List Int) : (iv ns).take ns.length = iv ns := by rw [← iv_length ns, List.take_length]
theorem own_iv {bl : Int → Option Blk} {ns : List Int} {v : V} {gs : List Int} : OwnD bl (fl 1 (iv ns)) v gs ↔ (ns = [] ∧ v = .nils ∧ gs = []) ∨ ∃ g, v = .lsl g 1 0 ns.length ∧ gs = [g] ∧ bl g = some ⟨1, iv ns⟩ ∧ (g < 0 → ns = []) := by
  rw [own_fl (iv_cl ns) (iv_clen ns)]
  simp [iv]

/-- The joints before n that are free. -/
def freesTo (js : List J) (n : Nat) : List Int := ((List.range n).filter fun i => !(js.getD i default).fixed).map fun (i : Nat) => (i : Int)
def frees (js : List J) : List Int := freesTo js js.length
theorem freesTo_succ (js : List J) (n : Nat) : freesTo js (n + 1) = freesTo js n ++ if (js.getD n default).fixed then [] else [(n : Int)] := by
  unfold freesTo
  rw [List.range_succ, List.filter_append, List.map_append]
  congr 1
  cases h : (js.getD n default).fixed <;> simp only [List.filter_cons, List.filter_nil, h] <;> simp
theorem freesTo_le (js : List J) (n : Nat) : (freesTo js n).length ≤ n := by
  unfold freesTo
  rw [List.length_map]
  exact Nat.le_trans (List.length_filter_le _ _) (by simp)
theorem getD_at {α : Type} (xs : List α) (i : Nat) (d : α) (h : i < xs.length) : xs.getD i d = xs[i] := by simp [h]

theorem freeJoints_nw (s : Str) (hj : s.js.length ≤ 1048576) : NW Try.prog 109 [.ptr s.c] (fl 1 (iv (frees s.js))) := by
  refine nw_of Try.func109 rfl rfl (by rw [Try.ntmps109]; simp) fun bl => ?_
  rw [Try.ntmps109, Try.results109]
  refine AW_run ?_
  simp [Str.c]
  refine AW_ghost 3 1 (by simp) fun g00 hg00 => ?_
  refine AW_for (fun p : Nat × Int => [(3, .lsl p.2 1 0 (freesTo s.js p.1).length), (9, .sl (jv s.js)), (10, .int .i64 s.js.length), (11, .int .i64 p.1)]) (fun p => upd bl p.2 (some ⟨1, iv (freesTo s.js p.1)⟩)) (fun p => p.1 ≤ s.js.length ∧ bl p.2 = none ∧ (p.2 < 0 → freesTo s.js p.1 = [])) (fun p => s.js.length - p.1) _ (0, g00) ⟨Nat.zero_le _, hg00, fun _ => rfl⟩ ⟨rfl, by simp [freesTo], sub_eq (by simp [freesTo, iv])⟩ ?_
  rintro ⟨i, g⟩ ⟨hi, hg, h0⟩
  simp only at hi hg h0
  have hl := freesTo_le s.js i
  refine AW_run ?_
  simp
  refine ⟨fun h => ?_, fun h => ?_⟩
  · simp [h, J.c]
    intro g1 hg1 h1g hb1
    refine ⟨fun hf => ?_, fun hf => ?_⟩
    · intro g2 hg2 h21 h2g hb2
      simp [h1g, h21, h2g, Ne.symm h1g, Ne.symm h21, Ne.symm h2g, appV, elsV, Int.not_lt.2 hg2]
      refine ⟨by omega, fun g3 hg3 hb3 => ?_⟩
      have hb3' : bl g3 = none := by grind
      simp (disch := omega) [i64_in, loopQ_normal]
      have hjf : (s.js.getD i default).fixed = false := by simpa [h] using hf
      have hs1 : freesTo s.js (i + 1) = freesTo s.js i ++ [(i : Int)] := by rw [freesTo_succ, hjf]; rfl
      refine ⟨i + 1, g3, ⟨by omega, hb3', by omega⟩, by omega, rfl, by simp [hs1], ?_⟩
      rw [hs1, iv_append]
      exact sub_put (by rw [iv_takeall]; rfl) (by simp [hg, hb1, hb2, h1g, h21, h2g])
    · simp (disch := omega) [i64_in, loopQ_normal]
      have hjf : (s.js.getD i default).fixed = true := by simpa [h] using hf
      have hs1 : freesTo s.js (i + 1) = freesTo s.js i := by rw [freesTo_succ, hjf]; simp
      refine ⟨i + 1, g, ⟨by omega, hg, by rw [hs1]; exact h0⟩, by omega, rfl, by simp [hs1], ?_⟩
      rw [hs1]
      simp [hb1, h1g]
  · have hi : i = s.js.length := by omega
    subst hi
    refine retNW [.lsl g 1 0 (freesTo s.js s.js.length).length] [g] (by simp) ?_ (by simpa using hg) (by simp [hg])
    refine own_iv.2 (.inr ⟨g, rfl, rfl, by simp [frees], h0⟩)

end Go.Proofs.Ytpkphjoobeacfaa.Vm
