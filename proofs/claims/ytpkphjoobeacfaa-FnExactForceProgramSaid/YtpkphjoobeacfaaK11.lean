/- StructureOk. -/
import Derived.Test.YtpkphjoobeacfaaK10
namespace Go.Proofs.Ytpkphjoobeacfaa.Vm
open Go Go.Proofs
set_option linter.unusedSimpArgs false
set_option linter.unusedVariables false

theorem AW_way0 {P : Program} {id : Nat} {ops : Array Oper} {K : Ex → St → Prop} {σ : St} (l : List (Nat × V)) (n : Nat) (bl : Int → Option Blk) (t : Nat) (v : V) (hf : Fit l n bl σ) (hd : (l.all fun p => !(ops.toList.map (·.dst)).contains (some p.1)) = true)
    (h1 : OpsF P (ops.toList.map (·.dst)) ops.toList (fun σ' => σ'.sl t = v ∧ σ'.bl = bl) ⟨n, hv l, bl⟩) (h2 : K .normal ⟨n, hv ((t, v) :: l), bl⟩) : AW P (.region id ops false) K σ := AW_way l n bl t v bl hf hd h1 h2

instance : Inhabited J := ⟨⟨⟨#[]⟩, 0, 0, false⟩⟩
/-- The joint at an index. -/
def jat (js : List J) (n : Int) : J := js.getD n.toNat default
def mOk (js : List J) (m : Mb) : Bool :=
  (decide (0 ≤ m.a) && decide (m.a < js.length)) && (decide (0 ≤ m.b) && decide (m.b < js.length)) && (decide (1 ≤ m.kind) && decide (m.kind ≤ 3)) &&
  ((decide ((jat js m.a).x ≠ (jat js m.b).x) || decide ((jat js m.a).y ≠ (jat js m.b).y)) && !((jat js m.a).fixed && (jat js m.b).fixed))
def sOk (s : Str) : Bool := decide (s.js.length ≤ 6) && decide (s.ms.length ≤ 8) &&
  decide (∀ i (h : i < s.js.length), s.js[i].ok = true ∧ ixf (fun j => decide (j.name = s.js[i].name)) s.js = i) && s.ms.all (mOk s.js)

theorem jv_at {js : List J} {n : Int} (h0 : 0 ≤ n) (h1 : n < js.length) : (jv js)[n.toNat]? = some (jat js n).c := by
  have : n.toNat < js.length := by omega
  simp [jv, jat, this]

theorem memberOk_ro (s : Str) (m : Mb) (hj : s.js.length ≤ 140737488351232) : RO Try.prog 104 [.ptr s.c, .agg m.c] (.bool (mOk s.js m)) := by
  refine ro_of2 Try.func104 rfl rfl (by rw [Try.ntmps104]; simp) fun bl => ?_
  rw [Try.ntmps104, Try.results104]
  refine AW_run ?_
  simp [Mb.c, Str.c]
  intro g hg0 hg
  refine AW_way [(0, .ptr s.c), (3, .loc g 3 0 0), (5, .int .i64 s.js.length)] _ (upd bl g (some ⟨3, [m.c]⟩)) 42 (.bool (! ((decide (0 ≤ m.a) && decide (m.a < s.js.length)) && (decide (0 ≤ m.b) && decide (m.b < s.js.length)) && (decide (1 ≤ m.kind) && decide (m.kind ≤ 3))))) (upd bl g (some ⟨3, [m.c]⟩)) ⟨rfl, by simp [Mb.c, Str.c], sub_eq (by simp [Mb.c])⟩ rfl ?_ ?_
  · simp [Mb.c]
    refine ⟨fun h => by omega, fun h1 => ⟨fun h => by omega, fun h2 => ⟨fun h => by omega, fun h3 => ⟨fun h => by omega, fun h4 => ⟨fun h => by omega, fun h5 => ?_⟩⟩⟩⟩⟩
    rw [Bool.eq_iff_iff]; simp; omega
  simp
  refine ⟨fun h => ?_, fun h1 h2 h3 h4 h5 h6 => ?_⟩
  · refine retRO [_] 0 rfl ?_ (by simp [hg])
    simp [frz, mOk]
    intro h1 h2 h3 h4 h5 h6
    omega
  · refine AW_mixed mixedO [0, 1, 2, 3, 4, 5, 6, 7, 8, 9, 10, 11, 12, 13, 14, 15] 4 (by kernel_rfl) ?_
    simp [Str.c, Mb.c, h1, h3, jv_at h1 h2, jv_at h3 h4, J.c]
    refine DAny_two (i := 16) (j := 17) (by kernel_rfl) rfl rfl rfl rfl ?_ ?_
    · simp
      intro g1 hg1 h1g hb1
      refine ⟨by simp [hg, hb1, h1g], DAny_one (i := 17) (by kernel_rfl) rfl rfl ?_⟩
      simp
      intro g2 hg2 h21 h2g hb2
      refine ⟨by simp [hg, hb1, h1g, h21, h2g, hb2], DAny_one (i := 18) (by kernel_rfl) rfl rfl ?_⟩
      simp [h1g, h21, h2g, Ne.symm h1g, Ne.symm h21, Ne.symm h2g]
      refine ⟨by simp [hg, hb1, h1g, h21, h2g, hb2], DAny_one (i := 19) (by kernel_rfl) rfl rfl ?_⟩
      simp [h1g, h21, h2g, Ne.symm h1g, Ne.symm h21, Ne.symm h2g]
      refine ⟨by simp [hg, hb1, h1g, h21, h2g, hb2], DAny_done (by kernel_rfl) ?_⟩
      simp [h1g, h21, h2g, Ne.symm h1g, Ne.symm h21, Ne.symm h2g]
      refine AW_way0 [(6, .loc g1 4 0 0), (7, .loc g2 4 0 0)] _ _ 4 (.bool (mOk s.js m)) ⟨rfl, by simp, Sub.refl _⟩ rfl ?_ ?_
      · simp [h1g, h21, h2g, Ne.symm h1g, Ne.symm h21, Ne.symm h2g, mOk, h1, h2, h3, h4, h5, h6]
        grind
      simp
      exact retRO [_] 0 rfl rfl (by simp [hg, hb1, hb2])
    · simp
      intro g2 hg2 h2g hb2
      refine ⟨by simp [hg, hb2, h2g], DAny_one (i := 16) (by kernel_rfl) rfl rfl ?_⟩
      simp
      intro g1 hg1 h12 h1g hb1
      have h21 := Ne.symm h12
      refine ⟨by simp [hg, hb1, h1g, h21, h2g, hb2], DAny_one (i := 18) (by kernel_rfl) rfl rfl ?_⟩
      simp [h1g, h12, h21, h2g, Ne.symm h1g, Ne.symm h2g]
      refine ⟨by simp [hg, hb1, h1g, h21, h2g, hb2], DAny_one (i := 19) (by kernel_rfl) rfl rfl ?_⟩
      simp [h1g, h12, h21, h2g, Ne.symm h1g, Ne.symm h2g]
      refine ⟨by simp [hg, hb1, h1g, h21, h2g, hb2], DAny_done (by kernel_rfl) ?_⟩
      simp [h1g, h12, h21, h2g, Ne.symm h1g, Ne.symm h2g]
      refine AW_way0 [(6, .loc g1 4 0 0), (7, .loc g2 4 0 0)] _ _ 4 (.bool (mOk s.js m)) ⟨rfl, by simp, Sub.refl _⟩ rfl ?_ ?_
      · simp [h1g, h12, h21, h2g, Ne.symm h1g, Ne.symm h2g, mOk, h1, h2, h3, h4, h5, h6]
        grind
      simp
      exact retRO [_] 0 rfl rfl (by simp [hg, hb1, hb2])

end Go.Proofs.Ytpkphjoobeacfaa.Vm
