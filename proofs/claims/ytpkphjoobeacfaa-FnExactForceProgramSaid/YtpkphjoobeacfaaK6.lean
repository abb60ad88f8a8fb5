/- Structures: copies, sizes, comparisons. -/
import Derived.Test.YtpkphjoobeacfaaK5
namespace Go.Proofs.Ytpkphjoobeacfaa.Vm
open Go Go.Proofs
set_option linter.unusedSimpArgs false
set_option linter.unusedVariables false

structure Mb where
  a : Int
  b : Int
  kind : Int
  deriving DecidableEq
def Mb.c (m : Mb) : List V := [.int .i64 m.a, .int .i64 m.b, .int .i64 m.kind]
def jv (js : List J) : List (List V) := js.map J.c
def mv (ms : List Mb) : List (List V) := ms.map Mb.c
structure Str where
  js : List J
  ms : List Mb
  deriving DecidableEq
def Str.c (s : Str) : List V := [.sl (jv s.js), .sl (mv s.ms)]
@[simp] theorem jv_length (ns : List J) : (jv ns).length = ns.length := by simp [jv]
@[simp] theorem jv_getE (ns : List J) (i : Nat) (h : i < (jv ns).length) : (jv ns)[i] = (ns[i]'(by simpa using h)).c := by simp [jv]
@[simp] theorem mv_length (ns : List Mb) : (mv ns).length = ns.length := by simp [mv]
@[simp] theorem mv_getE (ns : List Mb) (i : Nat) (h : i < (mv ns).length) : (mv ns)[i] = (ns[i]'(by simpa using h)).c := by simp [mv]
theorem jv_cl (ns : List J) : (jv ns).all (fun e => e.all V.cl) = true := by simp [jv, J.c, V.cl]
theorem mv_cl (ns : List Mb) : (mv ns).all (fun e => e.all V.cl) = true := by simp [mv, Mb.c, V.cl]
@[simp] theorem J.c_length (j : J) : j.c.length = 4 := rfl
@[simp] theorem Mb.c_length (j : Mb) : j.c.length = 3 := rfl

theorem toMember_ro (m : Mb) : RO Try.prog 122 [.agg m.c] (.agg m.c) := by
  refine ro_of2 Try.func122 rfl rfl (by rw [Try.ntmps122]; simp) fun bl => ?_
  rw [Try.ntmps122, Try.results122]
  refine AW_run ?_
  simp [Mb.c]
  intro g1 hg1 hb1 g2 hg2 h21 hb2
  intro g3 hg3 h32 h31 hb3
  simp [h21, h31, h32, Ne.symm h21, Ne.symm h31, Ne.symm h32]
  refine retRO [.agg m.c] 1 ?_ ?_ ?_
  · simp [h21, h31, h32, Ne.symm h21, Ne.symm h31, Ne.symm h32, Mb.c]
  · rfl
  · simp [hb1, hb2, hb3]

theorem toJointS_ro (a : List J) (ha : a.length ≤ 1048576) : RO Try.prog 86 [.sl (jv a)] (.sl (jv a)) := by
  refine ro_of2 Try.func86 rfl rfl (by rw [Try.ntmps86]; simp) fun bl => ?_
  rw [Try.ntmps86, Try.results86]
  refine AW_run ?_
  simp
  refine ⟨by omega, by unfold maxLen; omega, fun g hg0 hg => ?_⟩
  refine AW_for (fun i : Nat => [(0, .sl (jv a)), (3, .lsl g 4 0 a.length), (4, .int .i64 i)]) (fun i => upd bl g (some ⟨4, part (jv a) [.str { data := #[] }, .int .i64 0, .int .i64 0, .bool false] i⟩)) (fun i => i ≤ a.length) (fun i => a.length - i) _ 0 (Nat.zero_le _) ⟨rfl, by simp, sub_eq (by simp)⟩ ?_
  intro i hi
  refine AW_run ?_
  simp
  refine ⟨fun h => ?_, fun h => ?_⟩
  · have hi' : i < (jv a).length := by simpa using h
    simp [h]
    refine callP_ro (toJoint_ro a[i]) ?_
    simp (disch := omega) [h, part_get _ _ _ hi', i64_in, loopQ_normal, J.c]
    refine ⟨i + 1, by omega, by omega, rfl, by simp, sub_eq ?_⟩
    simp only [upd_idem]
    rw [part_set _ _ _ hi']
    simp [J.c]
  · refine retRO [.lsl g 4 0 a.length] 1 (by simp) ?_ (by simp [hg])
    rw [part_all _ _ _ (by simpa using h)]
    exact frz_slice hg0 hg (by simp) (by simp) (jv_cl a)

theorem toMemberS_ro (a : List Mb) (ha : a.length ≤ 1048576) : RO Try.prog 87 [.sl (mv a)] (.sl (mv a)) := by
  refine ro_of2 Try.func87 rfl rfl (by rw [Try.ntmps87]; simp) fun bl => ?_
  rw [Try.ntmps87, Try.results87]
  refine AW_run ?_
  simp
  refine ⟨by omega, by unfold maxLen; omega, fun g hg0 hg => ?_⟩
  refine AW_for (fun i : Nat => [(0, .sl (mv a)), (3, .lsl g 3 0 a.length), (4, .int .i64 i)]) (fun i => upd bl g (some ⟨3, part (mv a) [.int .i64 0, .int .i64 0, .int .i64 0] i⟩)) (fun i => i ≤ a.length) (fun i => a.length - i) _ 0 (Nat.zero_le _) ⟨rfl, by simp, sub_eq (by simp)⟩ ?_
  intro i hi
  refine AW_run ?_
  simp
  refine ⟨fun h => ?_, fun h => ?_⟩
  · have hi' : i < (mv a).length := by simpa using h
    simp [h]
    refine callP_ro (toMember_ro a[i]) ?_
    simp (disch := omega) [h, part_get _ _ _ hi', i64_in, loopQ_normal, Mb.c]
    refine ⟨i + 1, by omega, by omega, rfl, by simp, sub_eq ?_⟩
    simp only [upd_idem]
    rw [part_set _ _ _ hi']
    simp [Mb.c]
  · refine retRO [.lsl g 3 0 a.length] 1 (by simp) ?_ (by simp [hg])
    rw [part_all _ _ _ (by simpa using h)]
    exact frz_slice hg0 hg (by simp) (by simp) (mv_cl a)

theorem toStructure_ro (s : Str) (hj : s.js.length ≤ 1048576) (hm : s.ms.length ≤ 1048576) : RO Try.prog 34 [.agg s.c] (.agg s.c) := by
  refine ro_of2 Try.func34 rfl rfl (by rw [Try.ntmps34]; simp) fun bl => ?_
  rw [Try.ntmps34, Try.results34]
  refine AW_run ?_
  simp [Str.c]
  intro g1 hg1 hb1 g2 hg2 h21 hb2
  intro g3 hg3 h32 h31 hb3
  simp [h21, h31, h32, Ne.symm h21, Ne.symm h31, Ne.symm h32]
  refine callP_ro (toJointS_ro _ hj) ?_
  simp [h21, h31, h32, Ne.symm h21, Ne.symm h31, Ne.symm h32]
  refine callP_ro (toMemberS_ro _ hm) ?_
  simp [h21, h31, h32, Ne.symm h21, Ne.symm h31, Ne.symm h32]
  refine retRO [.agg s.c] 1 ?_ ?_ ?_
  · simp [h21, h31, h32, Ne.symm h21, Ne.symm h31, Ne.symm h32, Str.c]
  · rfl
  · simp [hb1, hb2, hb3]

end Go.Proofs.Ytpkphjoobeacfaa.Vm
