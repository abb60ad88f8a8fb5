/- Closed facts on the types of this translation, printed by types.py. -/



import Derived.Test.YtmbcofnnibpbeaaProg
import Derived.KernelRfl
import GoSem.ClaimJoined
import Derived.Laws.Strings
import Derived.Test.YtmbcofnnibpbeaaQCFnMixed2

namespace Go.Proofs.Ytmbcofnnibpbeaa.Vm
open Go Go.Proofs

@[simp] theorem ty2_csz : csz Try.prog 2 = some 1 := by kernel_rfl
@[simp] theorem ty2_bsz : bsz Try.prog 2 = 8 := by kernel_rfl
@[simp] theorem ty2_agg : aggT Try.prog 2 = some false := by kernel_rfl
@[simp] theorem ty2_zero : zeroC Try.prog 2 = some [.int .i64 0] := by kernel_rfl
@[simp] theorem ty2_int : isInt Try.prog 2 = some .i64 := by kernel_rfl
@[simp] theorem ty3_csz : csz Try.prog 3 = some 1 := by kernel_rfl
@[simp] theorem ty3_bsz : bsz Try.prog 3 = 8 := by kernel_rfl
@[simp] theorem ty3_agg : aggT Try.prog 3 = some false := by kernel_rfl
@[simp] theorem ty3_zero : zeroC Try.prog 3 = some [.int .i64 0] := by kernel_rfl
@[simp] theorem ty3_int : isInt Try.prog 3 = some .i64 := by kernel_rfl
@[simp] theorem ty4_csz : csz Try.prog 4 = some 1 := by kernel_rfl
@[simp] theorem ty4_bsz : bsz Try.prog 4 = 1 := by kernel_rfl
@[simp] theorem ty4_agg : aggT Try.prog 4 = some false := by kernel_rfl
@[simp] theorem ty4_zero : zeroC Try.prog 4 = some [.bool false] := by kernel_rfl
@[simp] theorem ty5_csz : csz Try.prog 5 = some 1 := by kernel_rfl
@[simp] theorem ty5_bsz : bsz Try.prog 5 = 1 := by kernel_rfl
@[simp] theorem ty5_agg : aggT Try.prog 5 = some false := by kernel_rfl
@[simp] theorem ty5_zero : zeroC Try.prog 5 = some [.int .u8 0] := by kernel_rfl
@[simp] theorem ty5_int : isInt Try.prog 5 = some .u8 := by kernel_rfl
@[simp] theorem ty6_csz : csz Try.prog 6 = some 1 := by kernel_rfl
@[simp] theorem ty6_bsz : bsz Try.prog 6 = 1 := by kernel_rfl
@[simp] theorem ty6_agg : aggT Try.prog 6 = some false := by kernel_rfl
@[simp] theorem ty6_zero : zeroC Try.prog 6 = some [.int .u8 0] := by kernel_rfl
@[simp] theorem ty6_int : isInt Try.prog 6 = some .u8 := by kernel_rfl
@[simp] theorem ty7_csz : csz Try.prog 7 = some 4 := by kernel_rfl
@[simp] theorem ty7_bsz : bsz Try.prog 7 = 24 := by kernel_rfl
@[simp] theorem ty7_agg : aggT Try.prog 7 = some true := by kernel_rfl
@[simp] theorem ty7_zero : zeroC Try.prog 7 = some [.int .i64 0, .int .i64 0, .bool false, .int .u8 0] := by kernel_rfl
@[simp] theorem ty7_f0 : fPl Try.prog 7 0 = some (0, 1) := by kernel_rfl
@[simp] theorem ty7_t0 : fTy Try.prog 7 0 = some 2 := by kernel_rfl
@[simp] theorem ty7_f1 : fPl Try.prog 7 1 = some (1, 1) := by kernel_rfl
@[simp] theorem ty7_t1 : fTy Try.prog 7 1 = some 3 := by kernel_rfl
@[simp] theorem ty7_f2 : fPl Try.prog 7 2 = some (2, 1) := by kernel_rfl
@[simp] theorem ty7_t2 : fTy Try.prog 7 2 = some 4 := by kernel_rfl
@[simp] theorem ty7_f3 : fPl Try.prog 7 3 = some (3, 1) := by kernel_rfl
@[simp] theorem ty7_t3 : fTy Try.prog 7 3 = some 6 := by kernel_rfl
@[simp] theorem ty7_ok : okF Try.prog 7 = true := by kernel_rfl
@[simp] theorem ty8_csz : csz Try.prog 8 = some 4 := by kernel_rfl
@[simp] theorem ty8_bsz : bsz Try.prog 8 = 24 := by kernel_rfl
@[simp] theorem ty8_agg : aggT Try.prog 8 = some true := by kernel_rfl
@[simp] theorem ty8_zero : zeroC Try.prog 8 = some [.int .i64 0, .int .i64 0, .bool false, .int .u8 0] := by kernel_rfl
@[simp] theorem ty8_f0 : fPl Try.prog 8 0 = some (0, 1) := by kernel_rfl
@[simp] theorem ty8_t0 : fTy Try.prog 8 0 = some 2 := by kernel_rfl
@[simp] theorem ty8_f1 : fPl Try.prog 8 1 = some (1, 1) := by kernel_rfl
@[simp] theorem ty8_t1 : fTy Try.prog 8 1 = some 3 := by kernel_rfl
@[simp] theorem ty8_f2 : fPl Try.prog 8 2 = some (2, 1) := by kernel_rfl
@[simp] theorem ty8_t2 : fTy Try.prog 8 2 = some 4 := by kernel_rfl
@[simp] theorem ty8_f3 : fPl Try.prog 8 3 = some (3, 1) := by kernel_rfl
@[simp] theorem ty8_t3 : fTy Try.prog 8 3 = some 6 := by kernel_rfl
@[simp] theorem ty8_ok : okF Try.prog 8 = true := by kernel_rfl
@[simp] theorem ty9_csz : csz Try.prog 9 = some 1 := by kernel_rfl
@[simp] theorem ty9_bsz : bsz Try.prog 9 = 16 := by kernel_rfl
@[simp] theorem ty9_agg : aggT Try.prog 9 = some false := by kernel_rfl
@[simp] theorem ty9_zero : zeroC Try.prog 9 = some [.str ⟨#[]⟩] := by kernel_rfl
@[simp] theorem ty9_str : isStr Try.prog 9 = true := by kernel_rfl
@[simp] theorem ty10_csz : csz Try.prog 10 = some 1 := by kernel_rfl
@[simp] theorem ty10_bsz : bsz Try.prog 10 = 16 := by kernel_rfl
@[simp] theorem ty10_agg : aggT Try.prog 10 = some false := by kernel_rfl
@[simp] theorem ty10_zero : zeroC Try.prog 10 = some [.str ⟨#[]⟩] := by kernel_rfl
@[simp] theorem ty10_str : isStr Try.prog 10 = true := by kernel_rfl
@[simp] theorem ty11_csz : csz Try.prog 11 = some 1 := by kernel_rfl
@[simp] theorem ty11_bsz : bsz Try.prog 11 = 16 := by kernel_rfl
@[simp] theorem ty11_agg : aggT Try.prog 11 = some false := by kernel_rfl
@[simp] theorem ty11_zero : zeroC Try.prog 11 = some [.str ⟨#[]⟩] := by kernel_rfl
@[simp] theorem ty11_str : isStr Try.prog 11 = true := by kernel_rfl
@[simp] theorem ty12_csz : csz Try.prog 12 = some 1 := by kernel_rfl
@[simp] theorem ty12_bsz : bsz Try.prog 12 = 8 := by kernel_rfl
@[simp] theorem ty12_agg : aggT Try.prog 12 = some false := by kernel_rfl
@[simp] theorem ty12_zero : zeroC Try.prog 12 = some [.int .u64 0] := by kernel_rfl
@[simp] theorem ty12_int : isInt Try.prog 12 = some .u64 := by kernel_rfl
@[simp] theorem ty13_csz : csz Try.prog 13 = some 2 := by kernel_rfl
@[simp] theorem ty13_bsz : bsz Try.prog 13 = 24 := by kernel_rfl
@[simp] theorem ty13_agg : aggT Try.prog 13 = some true := by kernel_rfl
@[simp] theorem ty13_zero : zeroC Try.prog 13 = some [.str ⟨#[]⟩, .int .u64 0] := by kernel_rfl
@[simp] theorem ty13_f0 : fPl Try.prog 13 0 = some (0, 1) := by kernel_rfl
@[simp] theorem ty13_t0 : fTy Try.prog 13 0 = some 9 := by kernel_rfl
@[simp] theorem ty13_f1 : fPl Try.prog 13 1 = some (1, 1) := by kernel_rfl
@[simp] theorem ty13_t1 : fTy Try.prog 13 1 = some 12 := by kernel_rfl
@[simp] theorem ty13_ok : okF Try.prog 13 = true := by kernel_rfl
@[simp] theorem ty14_csz : csz Try.prog 14 = some 2 := by kernel_rfl
@[simp] theorem ty14_bsz : bsz Try.prog 14 = 24 := by kernel_rfl
@[simp] theorem ty14_agg : aggT Try.prog 14 = some true := by kernel_rfl
@[simp] theorem ty14_zero : zeroC Try.prog 14 = some [.str ⟨#[]⟩, .int .u64 0] := by kernel_rfl
@[simp] theorem ty14_f0 : fPl Try.prog 14 0 = some (0, 1) := by kernel_rfl
@[simp] theorem ty14_t0 : fTy Try.prog 14 0 = some 9 := by kernel_rfl
@[simp] theorem ty14_f1 : fPl Try.prog 14 1 = some (1, 1) := by kernel_rfl
@[simp] theorem ty14_t1 : fTy Try.prog 14 1 = some 12 := by kernel_rfl
@[simp] theorem ty14_ok : okF Try.prog 14 = true := by kernel_rfl
@[simp] theorem ty15_csz : csz Try.prog 15 = some 1 := by kernel_rfl
@[simp] theorem ty15_bsz : bsz Try.prog 15 = 8 := by kernel_rfl
@[simp] theorem ty15_agg : aggT Try.prog 15 = some false := by kernel_rfl
@[simp] theorem ty15_zero : zeroC Try.prog 15 = some [.nilp] := by kernel_rfl
@[simp] theorem ty15_ptr : isPtr Try.prog 15 = true := by kernel_rfl
@[simp] theorem ty16_csz : csz Try.prog 16 = some 1 := by kernel_rfl
@[simp] theorem ty16_bsz : bsz Try.prog 16 = 8 := by kernel_rfl
@[simp] theorem ty16_agg : aggT Try.prog 16 = some false := by kernel_rfl
@[simp] theorem ty16_zero : zeroC Try.prog 16 = some [.nilp] := by kernel_rfl
@[simp] theorem ty16_ptr : isPtr Try.prog 16 = true := by kernel_rfl
@[simp] theorem ty17_csz : csz Try.prog 17 = some 1 := by kernel_rfl
@[simp] theorem ty17_bsz : bsz Try.prog 17 = 8 := by kernel_rfl
@[simp] theorem ty17_agg : aggT Try.prog 17 = some false := by kernel_rfl
@[simp] theorem ty17_zero : zeroC Try.prog 17 = some [.nilp] := by kernel_rfl
@[simp] theorem ty17_ptr : isPtr Try.prog 17 = true := by kernel_rfl
@[simp] theorem ty18_csz : csz Try.prog 18 = some 1 := by kernel_rfl
@[simp] theorem ty18_bsz : bsz Try.prog 18 = 8 := by kernel_rfl
@[simp] theorem ty18_agg : aggT Try.prog 18 = some true := by kernel_rfl
@[simp] theorem ty18_zero : zeroC Try.prog 18 = some [.nilp] := by kernel_rfl
@[simp] theorem ty18_f0 : fPl Try.prog 18 0 = some (0, 1) := by kernel_rfl
@[simp] theorem ty18_t0 : fTy Try.prog 18 0 = some 17 := by kernel_rfl
@[simp] theorem ty18_ok : okF Try.prog 18 = true := by kernel_rfl
@[simp] theorem ty19_csz : csz Try.prog 19 = some 1 := by kernel_rfl
@[simp] theorem ty19_bsz : bsz Try.prog 19 = 8 := by kernel_rfl
@[simp] theorem ty19_agg : aggT Try.prog 19 = some true := by kernel_rfl
@[simp] theorem ty19_zero : zeroC Try.prog 19 = some [.nilp] := by kernel_rfl
@[simp] theorem ty19_f0 : fPl Try.prog 19 0 = some (0, 1) := by kernel_rfl
@[simp] theorem ty19_t0 : fTy Try.prog 19 0 = some 17 := by kernel_rfl
@[simp] theorem ty19_ok : okF Try.prog 19 = true := by kernel_rfl
@[simp] theorem ty21_csz : csz Try.prog 21 = some 1 := by kernel_rfl
@[simp] theorem ty21_bsz : bsz Try.prog 21 = 4 := by kernel_rfl
@[simp] theorem ty21_agg : aggT Try.prog 21 = some false := by kernel_rfl
@[simp] theorem ty21_zero : zeroC Try.prog 21 = some [.int .i32 0] := by kernel_rfl
@[simp] theorem ty21_int : isInt Try.prog 21 = some .i32 := by kernel_rfl
@[simp] theorem ty22_csz : csz Try.prog 22 = some 1 := by kernel_rfl
@[simp] theorem ty22_bsz : bsz Try.prog 22 = 24 := by kernel_rfl
@[simp] theorem ty22_agg : aggT Try.prog 22 = some false := by kernel_rfl
@[simp] theorem ty22_zero : zeroC Try.prog 22 = some [.nils] := by kernel_rfl
@[simp] theorem ty22_sl : slE Try.prog 22 = some 5 := by kernel_rfl
@[simp] theorem ty23_csz : csz Try.prog 23 = some 1 := by kernel_rfl
@[simp] theorem ty23_bsz : bsz Try.prog 23 = 24 := by kernel_rfl
@[simp] theorem ty23_agg : aggT Try.prog 23 = some false := by kernel_rfl
@[simp] theorem ty23_zero : zeroC Try.prog 23 = some [.nils] := by kernel_rfl
@[simp] theorem ty23_sl : slE Try.prog 23 = some 54 := by kernel_rfl
@[simp] theorem ty24_csz : csz Try.prog 24 = some 1 := by kernel_rfl
@[simp] theorem ty24_bsz : bsz Try.prog 24 = 24 := by kernel_rfl
@[simp] theorem ty24_agg : aggT Try.prog 24 = some false := by kernel_rfl
@[simp] theorem ty24_zero : zeroC Try.prog 24 = some [.nils] := by kernel_rfl
@[simp] theorem ty24_sl : slE Try.prog 24 = some 65 := by kernel_rfl
@[simp] theorem ty25_csz : csz Try.prog 25 = some 2 := by kernel_rfl
@[simp] theorem ty25_bsz : bsz Try.prog 25 = 48 := by kernel_rfl
@[simp] theorem ty25_agg : aggT Try.prog 25 = some true := by kernel_rfl
@[simp] theorem ty25_zero : zeroC Try.prog 25 = some [.nils, .nils] := by kernel_rfl
@[simp] theorem ty25_f0 : fPl Try.prog 25 0 = some (0, 1) := by kernel_rfl
@[simp] theorem ty25_t0 : fTy Try.prog 25 0 = some 23 := by kernel_rfl
@[simp] theorem ty25_f1 : fPl Try.prog 25 1 = some (1, 1) := by kernel_rfl
@[simp] theorem ty25_t1 : fTy Try.prog 25 1 = some 24 := by kernel_rfl
@[simp] theorem ty25_ok : okF Try.prog 25 = true := by kernel_rfl
@[simp] theorem ty26_csz : csz Try.prog 26 = some 2 := by kernel_rfl
@[simp] theorem ty26_bsz : bsz Try.prog 26 = 48 := by kernel_rfl
@[simp] theorem ty26_agg : aggT Try.prog 26 = some true := by kernel_rfl
@[simp] theorem ty26_zero : zeroC Try.prog 26 = some [.nils, .nils] := by kernel_rfl
@[simp] theorem ty26_f0 : fPl Try.prog 26 0 = some (0, 1) := by kernel_rfl
@[simp] theorem ty26_t0 : fTy Try.prog 26 0 = some 23 := by kernel_rfl
@[simp] theorem ty26_f1 : fPl Try.prog 26 1 = some (1, 1) := by kernel_rfl
@[simp] theorem ty26_t1 : fTy Try.prog 26 1 = some 24 := by kernel_rfl
@[simp] theorem ty26_ok : okF Try.prog 26 = true := by kernel_rfl
@[simp] theorem ty27_csz : csz Try.prog 27 = some 1 := by kernel_rfl
@[simp] theorem ty27_bsz : bsz Try.prog 27 = 24 := by kernel_rfl
@[simp] theorem ty27_agg : aggT Try.prog 27 = some false := by kernel_rfl
@[simp] theorem ty27_zero : zeroC Try.prog 27 = some [.nils] := by kernel_rfl
@[simp] theorem ty27_sl : slE Try.prog 27 = some 3 := by kernel_rfl
@[simp] theorem ty34_csz : csz Try.prog 34 = some 1 := by kernel_rfl
@[simp] theorem ty34_bsz : bsz Try.prog 34 = 24 := by kernel_rfl
@[simp] theorem ty34_agg : aggT Try.prog 34 = some false := by kernel_rfl
@[simp] theorem ty34_zero : zeroC Try.prog 34 = some [.nils] := by kernel_rfl
@[simp] theorem ty34_sl : slE Try.prog 34 = some 27 := by kernel_rfl
@[simp] theorem ty42_csz : csz Try.prog 42 = some 1 := by kernel_rfl
@[simp] theorem ty42_bsz : bsz Try.prog 42 = 8 := by kernel_rfl
@[simp] theorem ty42_agg : aggT Try.prog 42 = some false := by kernel_rfl
@[simp] theorem ty42_zero : zeroC Try.prog 42 = some [.nilp] := by kernel_rfl
@[simp] theorem ty42_ptr : isPtr Try.prog 42 = true := by kernel_rfl
@[simp] theorem ty49_csz : csz Try.prog 49 = some 1 := by kernel_rfl
@[simp] theorem ty49_bsz : bsz Try.prog 49 = 8 := by kernel_rfl
@[simp] theorem ty49_agg : aggT Try.prog 49 = some false := by kernel_rfl
@[simp] theorem ty49_zero : zeroC Try.prog 49 = some [.nilp] := by kernel_rfl
@[simp] theorem ty49_ptr : isPtr Try.prog 49 = true := by kernel_rfl
@[simp] theorem ty53_csz : csz Try.prog 53 = some 4 := by kernel_rfl
@[simp] theorem ty53_bsz : bsz Try.prog 53 = 40 := by kernel_rfl
@[simp] theorem ty53_agg : aggT Try.prog 53 = some true := by kernel_rfl
@[simp] theorem ty53_zero : zeroC Try.prog 53 = some [.str ⟨#[]⟩, .int .i64 0, .int .i64 0, .bool false] := by kernel_rfl
@[simp] theorem ty53_f0 : fPl Try.prog 53 0 = some (0, 1) := by kernel_rfl
@[simp] theorem ty53_t0 : fTy Try.prog 53 0 = some 9 := by kernel_rfl
@[simp] theorem ty53_f1 : fPl Try.prog 53 1 = some (1, 1) := by kernel_rfl
@[simp] theorem ty53_t1 : fTy Try.prog 53 1 = some 3 := by kernel_rfl
@[simp] theorem ty53_f2 : fPl Try.prog 53 2 = some (2, 1) := by kernel_rfl
@[simp] theorem ty53_t2 : fTy Try.prog 53 2 = some 3 := by kernel_rfl
@[simp] theorem ty53_f3 : fPl Try.prog 53 3 = some (3, 1) := by kernel_rfl
@[simp] theorem ty53_t3 : fTy Try.prog 53 3 = some 4 := by kernel_rfl
@[simp] theorem ty53_ok : okF Try.prog 53 = true := by kernel_rfl
@[simp] theorem ty54_csz : csz Try.prog 54 = some 4 := by kernel_rfl
@[simp] theorem ty54_bsz : bsz Try.prog 54 = 40 := by kernel_rfl
@[simp] theorem ty54_agg : aggT Try.prog 54 = some true := by kernel_rfl
@[simp] theorem ty54_zero : zeroC Try.prog 54 = some [.str ⟨#[]⟩, .int .i64 0, .int .i64 0, .bool false] := by kernel_rfl
@[simp] theorem ty54_f0 : fPl Try.prog 54 0 = some (0, 1) := by kernel_rfl
@[simp] theorem ty54_t0 : fTy Try.prog 54 0 = some 9 := by kernel_rfl
@[simp] theorem ty54_f1 : fPl Try.prog 54 1 = some (1, 1) := by kernel_rfl
@[simp] theorem ty54_t1 : fTy Try.prog 54 1 = some 3 := by kernel_rfl
@[simp] theorem ty54_f2 : fPl Try.prog 54 2 = some (2, 1) := by kernel_rfl
@[simp] theorem ty54_t2 : fTy Try.prog 54 2 = some 3 := by kernel_rfl
@[simp] theorem ty54_f3 : fPl Try.prog 54 3 = some (3, 1) := by kernel_rfl
@[simp] theorem ty54_t3 : fTy Try.prog 54 3 = some 4 := by kernel_rfl
@[simp] theorem ty54_eq : eqFs Try.prog 54 = some [(0, 2), (1, 1), (2, 1), (3, 0)] := by kernel_rfl
@[simp] theorem ty54_ok : okF Try.prog 54 = true := by kernel_rfl
@[simp] theorem ty56_csz : csz Try.prog 56 = some 3 := by kernel_rfl
@[simp] theorem ty56_bsz : bsz Try.prog 56 = 40 := by kernel_rfl
@[simp] theorem ty56_agg : aggT Try.prog 56 = some true := by kernel_rfl
@[simp] theorem ty56_zero : zeroC Try.prog 56 = some [.nils, .int .i64 0, .int .i64 0] := by kernel_rfl
@[simp] theorem ty56_f0 : fPl Try.prog 56 0 = some (0, 1) := by kernel_rfl
@[simp] theorem ty56_t0 : fTy Try.prog 56 0 = some 22 := by kernel_rfl
@[simp] theorem ty56_f1 : fPl Try.prog 56 1 = some (1, 1) := by kernel_rfl
@[simp] theorem ty56_t1 : fTy Try.prog 56 1 = some 3 := by kernel_rfl
@[simp] theorem ty56_f2 : fPl Try.prog 56 2 = some (2, 1) := by kernel_rfl
@[simp] theorem ty56_t2 : fTy Try.prog 56 2 = some 3 := by kernel_rfl
@[simp] theorem ty56_ok : okF Try.prog 56 = true := by kernel_rfl
@[simp] theorem ty57_csz : csz Try.prog 57 = some 3 := by kernel_rfl
@[simp] theorem ty57_bsz : bsz Try.prog 57 = 40 := by kernel_rfl
@[simp] theorem ty57_agg : aggT Try.prog 57 = some true := by kernel_rfl
@[simp] theorem ty57_zero : zeroC Try.prog 57 = some [.nils, .int .i64 0, .int .i64 0] := by kernel_rfl
@[simp] theorem ty57_f0 : fPl Try.prog 57 0 = some (0, 1) := by kernel_rfl
@[simp] theorem ty57_t0 : fTy Try.prog 57 0 = some 22 := by kernel_rfl
@[simp] theorem ty57_f1 : fPl Try.prog 57 1 = some (1, 1) := by kernel_rfl
@[simp] theorem ty57_t1 : fTy Try.prog 57 1 = some 3 := by kernel_rfl
@[simp] theorem ty57_f2 : fPl Try.prog 57 2 = some (2, 1) := by kernel_rfl
@[simp] theorem ty57_t2 : fTy Try.prog 57 2 = some 3 := by kernel_rfl
@[simp] theorem ty57_ok : okF Try.prog 57 = true := by kernel_rfl
@[simp] theorem ty60_csz : csz Try.prog 60 = some 1 := by kernel_rfl
@[simp] theorem ty60_bsz : bsz Try.prog 60 = 8 := by kernel_rfl
@[simp] theorem ty60_agg : aggT Try.prog 60 = some false := by kernel_rfl
@[simp] theorem ty60_zero : zeroC Try.prog 60 = some [.int .u64 0] := by kernel_rfl
@[simp] theorem ty60_int : isInt Try.prog 60 = some .u64 := by kernel_rfl
@[simp] theorem ty64_csz : csz Try.prog 64 = some 3 := by kernel_rfl
@[simp] theorem ty64_bsz : bsz Try.prog 64 = 24 := by kernel_rfl
@[simp] theorem ty64_agg : aggT Try.prog 64 = some true := by kernel_rfl
@[simp] theorem ty64_zero : zeroC Try.prog 64 = some [.int .i64 0, .int .i64 0, .int .i64 0] := by kernel_rfl
@[simp] theorem ty64_f0 : fPl Try.prog 64 0 = some (0, 1) := by kernel_rfl
@[simp] theorem ty64_t0 : fTy Try.prog 64 0 = some 3 := by kernel_rfl
@[simp] theorem ty64_f1 : fPl Try.prog 64 1 = some (1, 1) := by kernel_rfl
@[simp] theorem ty64_t1 : fTy Try.prog 64 1 = some 3 := by kernel_rfl
@[simp] theorem ty64_f2 : fPl Try.prog 64 2 = some (2, 1) := by kernel_rfl
@[simp] theorem ty64_t2 : fTy Try.prog 64 2 = some 3 := by kernel_rfl
@[simp] theorem ty64_ok : okF Try.prog 64 = true := by kernel_rfl
@[simp] theorem ty65_csz : csz Try.prog 65 = some 3 := by kernel_rfl
@[simp] theorem ty65_bsz : bsz Try.prog 65 = 24 := by kernel_rfl
@[simp] theorem ty65_agg : aggT Try.prog 65 = some true := by kernel_rfl
@[simp] theorem ty65_zero : zeroC Try.prog 65 = some [.int .i64 0, .int .i64 0, .int .i64 0] := by kernel_rfl
@[simp] theorem ty65_f0 : fPl Try.prog 65 0 = some (0, 1) := by kernel_rfl
@[simp] theorem ty65_t0 : fTy Try.prog 65 0 = some 3 := by kernel_rfl
@[simp] theorem ty65_f1 : fPl Try.prog 65 1 = some (1, 1) := by kernel_rfl
@[simp] theorem ty65_t1 : fTy Try.prog 65 1 = some 3 := by kernel_rfl
@[simp] theorem ty65_f2 : fPl Try.prog 65 2 = some (2, 1) := by kernel_rfl
@[simp] theorem ty65_t2 : fTy Try.prog 65 2 = some 3 := by kernel_rfl
@[simp] theorem ty65_eq : eqFs Try.prog 65 = some [(0, 1), (1, 1), (2, 1)] := by kernel_rfl
@[simp] theorem ty65_ok : okF Try.prog 65 = true := by kernel_rfl
@[simp] theorem ty75_csz : csz Try.prog 75 = some 4 := by kernel_rfl
@[simp] theorem ty75_bsz : bsz Try.prog 75 = 40 := by kernel_rfl
@[simp] theorem ty75_agg : aggT Try.prog 75 = some true := by kernel_rfl
@[simp] theorem ty75_zero : zeroC Try.prog 75 = some [.nilp, .nilp, .nilp, .str ⟨#[]⟩] := by kernel_rfl
@[simp] theorem ty75_f0 : fPl Try.prog 75 0 = some (0, 1) := by kernel_rfl
@[simp] theorem ty75_t0 : fTy Try.prog 75 0 = some 17 := by kernel_rfl
@[simp] theorem ty75_f1 : fPl Try.prog 75 1 = some (1, 1) := by kernel_rfl
@[simp] theorem ty75_t1 : fTy Try.prog 75 1 = some 17 := by kernel_rfl
@[simp] theorem ty75_f2 : fPl Try.prog 75 2 = some (2, 1) := by kernel_rfl
@[simp] theorem ty75_t2 : fTy Try.prog 75 2 = some 17 := by kernel_rfl
@[simp] theorem ty75_f3 : fPl Try.prog 75 3 = some (3, 1) := by kernel_rfl
@[simp] theorem ty75_t3 : fTy Try.prog 75 3 = some 9 := by kernel_rfl
@[simp] theorem ty75_ok : okF Try.prog 75 = true := by kernel_rfl
@[simp] theorem ty76_csz : csz Try.prog 76 = some 4 := by kernel_rfl
@[simp] theorem ty76_bsz : bsz Try.prog 76 = 40 := by kernel_rfl
@[simp] theorem ty76_agg : aggT Try.prog 76 = some true := by kernel_rfl
@[simp] theorem ty76_zero : zeroC Try.prog 76 = some [.nilp, .nilp, .nilp, .str ⟨#[]⟩] := by kernel_rfl
@[simp] theorem ty76_f0 : fPl Try.prog 76 0 = some (0, 1) := by kernel_rfl
@[simp] theorem ty76_t0 : fTy Try.prog 76 0 = some 17 := by kernel_rfl
@[simp] theorem ty76_f1 : fPl Try.prog 76 1 = some (1, 1) := by kernel_rfl
@[simp] theorem ty76_t1 : fTy Try.prog 76 1 = some 17 := by kernel_rfl
@[simp] theorem ty76_f2 : fPl Try.prog 76 2 = some (2, 1) := by kernel_rfl
@[simp] theorem ty76_t2 : fTy Try.prog 76 2 = some 17 := by kernel_rfl
@[simp] theorem ty76_f3 : fPl Try.prog 76 3 = some (3, 1) := by kernel_rfl
@[simp] theorem ty76_t3 : fTy Try.prog 76 3 = some 9 := by kernel_rfl
@[simp] theorem ty76_ok : okF Try.prog 76 = true := by kernel_rfl
@[simp] theorem ty78_csz : csz Try.prog 78 = some 0 := by kernel_rfl
@[simp] theorem ty78_bsz : bsz Try.prog 78 = 0 := by kernel_rfl
@[simp] theorem ty78_agg : aggT Try.prog 78 = some true := by kernel_rfl
@[simp] theorem ty78_zero : zeroC Try.prog 78 = some [] := by kernel_rfl
@[simp] theorem ty79_csz : csz Try.prog 79 = some 0 := by kernel_rfl
@[simp] theorem ty79_bsz : bsz Try.prog 79 = 0 := by kernel_rfl
@[simp] theorem ty79_agg : aggT Try.prog 79 = some true := by kernel_rfl
@[simp] theorem ty79_zero : zeroC Try.prog 79 = some [] := by kernel_rfl
@[simp] theorem ty81_csz : csz Try.prog 81 = some 1 := by kernel_rfl
@[simp] theorem ty81_bsz : bsz Try.prog 81 = 4 := by kernel_rfl
@[simp] theorem ty81_agg : aggT Try.prog 81 = some false := by kernel_rfl
@[simp] theorem ty81_zero : zeroC Try.prog 81 = some [.int .u32 0] := by kernel_rfl
@[simp] theorem ty81_int : isInt Try.prog 81 = some .u32 := by kernel_rfl
@[simp] theorem ty82_csz : csz Try.prog 82 = some 1 := by kernel_rfl
@[simp] theorem ty82_bsz : bsz Try.prog 82 = 1 := by kernel_rfl
@[simp] theorem ty82_agg : aggT Try.prog 82 = some false := by kernel_rfl
@[simp] theorem ty82_zero : zeroC Try.prog 82 = some [.int .u8 0] := by kernel_rfl
@[simp] theorem ty82_int : isInt Try.prog 82 = some .u8 := by kernel_rfl
@[simp] theorem ty83_csz : csz Try.prog 83 = some 1 := by kernel_rfl
@[simp] theorem ty83_bsz : bsz Try.prog 83 = 1 := by kernel_rfl
@[simp] theorem ty83_agg : aggT Try.prog 83 = some false := by kernel_rfl
@[simp] theorem ty83_zero : zeroC Try.prog 83 = some [.int .u8 0] := by kernel_rfl
@[simp] theorem ty83_int : isInt Try.prog 83 = some .u8 := by kernel_rfl
@[simp] theorem ty85_csz : csz Try.prog 85 = some 1 := by kernel_rfl
@[simp] theorem ty85_bsz : bsz Try.prog 85 = 8 := by kernel_rfl
@[simp] theorem ty85_agg : aggT Try.prog 85 = some false := by kernel_rfl
@[simp] theorem ty85_zero : zeroC Try.prog 85 = some [.nilp] := by kernel_rfl
@[simp] theorem ty85_ptr : isPtr Try.prog 85 = true := by kernel_rfl
@[simp] theorem ty86_csz : csz Try.prog 86 = some 1 := by kernel_rfl
@[simp] theorem ty86_bsz : bsz Try.prog 86 = 4 := by kernel_rfl
@[simp] theorem ty86_agg : aggT Try.prog 86 = some false := by kernel_rfl
@[simp] theorem ty86_zero : zeroC Try.prog 86 = some [.int .i32 0] := by kernel_rfl
@[simp] theorem ty86_int : isInt Try.prog 86 = some .i32 := by kernel_rfl
@[simp] theorem ty87_csz : csz Try.prog 87 = some 1 := by kernel_rfl
@[simp] theorem ty87_bsz : bsz Try.prog 87 = 4 := by kernel_rfl
@[simp] theorem ty87_agg : aggT Try.prog 87 = some false := by kernel_rfl
@[simp] theorem ty87_zero : zeroC Try.prog 87 = some [.int .i32 0] := by kernel_rfl
@[simp] theorem ty87_int : isInt Try.prog 87 = some .i32 := by kernel_rfl
@[simp] theorem ty88_csz : csz Try.prog 88 = some 11 := by kernel_rfl
@[simp] theorem ty88_bsz : bsz Try.prog 88 = 48 := by kernel_rfl
@[simp] theorem ty88_agg : aggT Try.prog 88 = some true := by kernel_rfl
@[simp] theorem ty88_f0 : fPl Try.prog 88 0 = some (0, 1) := by kernel_rfl
@[simp] theorem ty88_t0 : fTy Try.prog 88 0 = some 12 := by kernel_rfl
@[simp] theorem ty88_f1 : fPl Try.prog 88 1 = some (1, 1) := by kernel_rfl
@[simp] theorem ty88_t1 : fTy Try.prog 88 1 = some 12 := by kernel_rfl
@[simp] theorem ty88_f2 : fPl Try.prog 88 2 = some (2, 1) := by kernel_rfl
@[simp] theorem ty88_t2 : fTy Try.prog 88 2 = some 81 := by kernel_rfl
@[simp] theorem ty88_f3 : fPl Try.prog 88 3 = some (3, 1) := by kernel_rfl
@[simp] theorem ty88_t3 : fTy Try.prog 88 3 = some 82 := by kernel_rfl
@[simp] theorem ty88_f4 : fPl Try.prog 88 4 = some (4, 1) := by kernel_rfl
@[simp] theorem ty88_t4 : fTy Try.prog 88 4 = some 5 := by kernel_rfl
@[simp] theorem ty88_f5 : fPl Try.prog 88 5 = some (5, 1) := by kernel_rfl
@[simp] theorem ty88_t5 : fTy Try.prog 88 5 = some 5 := by kernel_rfl
@[simp] theorem ty88_f6 : fPl Try.prog 88 6 = some (6, 1) := by kernel_rfl
@[simp] theorem ty88_t6 : fTy Try.prog 88 6 = some 83 := by kernel_rfl
@[simp] theorem ty88_f8 : fPl Try.prog 88 8 = some (8, 1) := by kernel_rfl
@[simp] theorem ty88_t8 : fTy Try.prog 88 8 = some 85 := by kernel_rfl
@[simp] theorem ty88_f9 : fPl Try.prog 88 9 = some (9, 1) := by kernel_rfl
@[simp] theorem ty88_t9 : fTy Try.prog 88 9 = some 86 := by kernel_rfl
@[simp] theorem ty88_f10 : fPl Try.prog 88 10 = some (10, 1) := by kernel_rfl
@[simp] theorem ty88_t10 : fTy Try.prog 88 10 = some 87 := by kernel_rfl
@[simp] theorem ty89_csz : csz Try.prog 89 = some 11 := by kernel_rfl
@[simp] theorem ty89_bsz : bsz Try.prog 89 = 48 := by kernel_rfl
@[simp] theorem ty89_agg : aggT Try.prog 89 = some true := by kernel_rfl
@[simp] theorem ty89_f0 : fPl Try.prog 89 0 = some (0, 1) := by kernel_rfl
@[simp] theorem ty89_t0 : fTy Try.prog 89 0 = some 12 := by kernel_rfl
@[simp] theorem ty89_f1 : fPl Try.prog 89 1 = some (1, 1) := by kernel_rfl
@[simp] theorem ty89_t1 : fTy Try.prog 89 1 = some 12 := by kernel_rfl
@[simp] theorem ty89_f2 : fPl Try.prog 89 2 = some (2, 1) := by kernel_rfl
@[simp] theorem ty89_t2 : fTy Try.prog 89 2 = some 81 := by kernel_rfl
@[simp] theorem ty89_f3 : fPl Try.prog 89 3 = some (3, 1) := by kernel_rfl
@[simp] theorem ty89_t3 : fTy Try.prog 89 3 = some 82 := by kernel_rfl
@[simp] theorem ty89_f4 : fPl Try.prog 89 4 = some (4, 1) := by kernel_rfl
@[simp] theorem ty89_t4 : fTy Try.prog 89 4 = some 5 := by kernel_rfl
@[simp] theorem ty89_f5 : fPl Try.prog 89 5 = some (5, 1) := by kernel_rfl
@[simp] theorem ty89_t5 : fTy Try.prog 89 5 = some 5 := by kernel_rfl
@[simp] theorem ty89_f6 : fPl Try.prog 89 6 = some (6, 1) := by kernel_rfl
@[simp] theorem ty89_t6 : fTy Try.prog 89 6 = some 83 := by kernel_rfl
@[simp] theorem ty89_f8 : fPl Try.prog 89 8 = some (8, 1) := by kernel_rfl
@[simp] theorem ty89_t8 : fTy Try.prog 89 8 = some 85 := by kernel_rfl
@[simp] theorem ty89_f9 : fPl Try.prog 89 9 = some (9, 1) := by kernel_rfl
@[simp] theorem ty89_t9 : fTy Try.prog 89 9 = some 86 := by kernel_rfl
@[simp] theorem ty89_f10 : fPl Try.prog 89 10 = some (10, 1) := by kernel_rfl
@[simp] theorem ty89_t10 : fTy Try.prog 89 10 = some 87 := by kernel_rfl
end Go.Proofs.Ytmbcofnnibpbeaa.Vm

namespace Go.Proofs.Ytmbcofnnibpbeaa.Vm
open Go Go.RowKit
set_option linter.unusedSimpArgs false
set_option linter.unusedVariables false



section
variable {α : Type} {k : α → Prop}
@[simp high] theorem bindP_if (c : Prop) [Decidable c] (o : Option α) : bindP (if c then o else none) k = (c ∧ bindP o k) := by
  by_cases h : c <;> simp [h]
@[simp] theorem none_if {β : Type} (c : Prop) [Decidable c] (b : β) (x : Option β) : ((if c then some b else x) = none) = (¬ c ∧ x = none) := by
  by_cases h : c <;> simp [h]
@[simp] theorem sub_refl (bl : Int → Option Blk) : Sub bl bl = True := eq_true (Sub.refl bl)
@[simp] theorem sub_upd {bl bl' : Int → Option Blk} {g : Int} {b : Option Blk} (h : bl g = none) : Sub bl (upd bl' g b) = Sub bl bl' := by
  apply propext
  constructor
  · intro hs g' b' hb
    have := hs g' b' hb
    rw [upd_ne _ _ _ _ (fun e => by subst e; rw [h] at hb; cases hb)] at this
    exact this
  · intro hs; exact hs.upd h b
theorem bindP_eq {o : Option α} {x : α} (h : o = some x) : bindP o k = k x := by rw [h]; exact bindP_some x k
theorem i64_in {n : Int} (h1 : -9223372036854775808 ≤ n) (h2 : n ≤ 9223372036854775807) : IntKind.i64.wrap n = n := IntWalk.i64_in n ⟨h1, h2⟩
end
/-! ### One operation, its continuation as data (so that simp runs it once, when its value is known) -/
section
variable (K : St → Prop) (σ : St) (d : Option Tmp)
def putQ (o : Option V) : Prop := bindP o fun v => K (σ.put d v)
def pickQ (c a b : V) : Prop := onB c fun t => K (σ.put d (pickV t a b))
def allocQ (o : Option (List V)) : Prop := bindP o fun cs => ∀ g : Int, 0 ≤ g → σ.bl g = none → K (({ σ with bl := upd σ.bl g (some ⟨cs.length, [cs]⟩) } : St).put d (.loc g cs.length 0 0))
def aggQ (o : Option (List V)) : Prop := bindP o fun r => K (σ.put d (.agg r))
def buildQ (P : Program) (t : TypeId) (ps : List (Nat × V)) (o : Option (List V)) : Prop := bindP o fun cs => okF P t = true ∧ aggQ K σ d (fillV (fPl P t) cs ps)
def bslQ (n sz : Nat) (o : Option (List V)) : Prop := bindP o fun r => ∀ g : Int, 0 ≤ g → σ.bl g = none → K (({ σ with bl := upd σ.bl g (some ⟨sz, (List.range n).map fun i => (r.drop (i * sz)).take sz⟩) } : St).put d (.lsl g sz 0 n))
def bsQ (P : Program) (n : Nat) (ps : List (Nat × V)) (o : Option (List V)) : Prop := bindP o fun cs => 1 ≤ cs.length ∧ n * cs.length ≤ 16777216 ∧ bslQ K σ d n cs.length (fillV (fun i => some (i * cs.length, cs.length)) (List.replicate n cs).flatten ps)
def loadQ (P : Program) (t : TypeId) (o : Option (List V)) : Prop := bindP o fun cs => putQ K σ d (loadV P t cs)
def storeQ3 (P : Program) (t : TypeId) (g : Int) (sz k j : Nat) (b : Blk) (y : V) (o : Option (List V)) : Prop := bindP o fun e => b.sz = sz ∧ csz P t = some y.cells.length ∧ j + y.cells.length ≤ sz ∧ y.cells.all V.one = true ∧
  K (({ σ with bl := upd σ.bl g (some ⟨sz, b.els.set k (splice e j y.cells)⟩) } : St).put d .junk)
def storeQ2 (P : Program) (t : TypeId) (g : Int) (sz k j : Nat) (y : V) (o : Option Blk) : Prop := bindP o fun b => storeQ3 K σ d P t g sz k j b y (b.els[k]?)
def storeQ (P : Program) (t : TypeId) (x y : V) : Prop := match x with | .loc g sz k j => storeQ2 K σ d P t g sz k j y (σ.bl g) | _ => False
def makeQ2 (bz : Nat) (l c : V) (cs : List V) : Prop := ∃ n : Nat, l = .int .i64 n ∧ c = .int .i64 n ∧ bz * n ≤ 281474976710656 ∧ n ≤ maxLen ∧
  ∀ g : Int, 0 ≤ g → σ.bl g = none → K (({ σ with bl := upd σ.bl g (some ⟨cs.length, List.replicate n cs⟩) } : St).put d (.lsl g cs.length 0 n))
def makeQ (bz : Nat) (l c : V) (o : Option (List V)) : Prop := bindP o fun cs => makeQ2 K σ d bz l c cs
def slQ (o : Option TypeId) (k : TypeId → Prop) : Prop := bindP o k
def callQ (v : V) (bl' : Int → Option Blk) : Prop := K (({ σ with bl := bl' } : St).put d v)
def callT (P : Program) (o : Option (FuncId × List V)) : Prop := bindP o fun p => CallP P p.1 p.2 σ.bl (callQ K σ d)
def appQ (P : Program) (e : Option TypeId) (o : Option ((Int → Option Blk) × Nat × List (List V))) : Prop := bindP o fun p =>
  e.elim False (fun e => p.2.2.length * bsz P e ≤ 140737488355328 ∧ 1 ≤ bsz P e ∧ ∃ z, zeroC P e = some z ∧ 1 ≤ z.length) ∧
  ∀ g : Int, (0 ≤ g ∨ p.2.2 = []) → p.1 g = none → K (({ σ with bl := upd p.1 g (some ⟨p.2.1, p.2.2⟩) } : St).put d (.lsl g p.2.1 0 p.2.2.length))

@[simp] theorem putQ_some (v : V) : putQ K σ d (some v) = K (σ.put d v) := bindP_some _ _
@[simp] theorem putQ_none : putQ K σ d none = False := bindP_none _
@[simp high] theorem putQ_if (c : Prop) [Decidable c] (o : Option V) : putQ K σ d (if c then o else none) = (c ∧ putQ K σ d o) := bindP_if c o
@[simp high] theorem putQ_ifn (c : Prop) [Decidable c] (o : Option V) : putQ K σ d (if c then none else o) = (¬ c ∧ putQ K σ d o) := by
  by_cases h : c <;> simp [h]
@[simp] theorem pickQ_bool (t : Bool) (a b : V) : pickQ K σ d (.bool t) a b = K (σ.put d (pickV t a b)) := rfl
@[simp] theorem allocQ_some (cs : List V) : allocQ K σ d (some cs) = ∀ g : Int, 0 ≤ g → σ.bl g = none → K (({ σ with bl := upd σ.bl g (some ⟨cs.length, [cs]⟩) } : St).put d (.loc g cs.length 0 0)) := bindP_some _ _
@[simp] theorem aggQ_some (r : List V) : aggQ K σ d (some r) = K (σ.put d (.agg r)) := bindP_some _ _
@[simp] theorem buildQ_some (P : Program) (t : TypeId) (ps : List (Nat × V)) (cs : List V) : buildQ K σ d P t ps (some cs) = (okF P t = true ∧ aggQ K σ d (fillV (fPl P t) cs ps)) := bindP_some _ _
@[simp] theorem bslQ_some (n sz : Nat) (r : List V) : bslQ K σ d n sz (some r) = ∀ g : Int, 0 ≤ g → σ.bl g = none → K (({ σ with bl := upd σ.bl g (some ⟨sz, (List.range n).map fun i => (r.drop (i * sz)).take sz⟩) } : St).put d (.lsl g sz 0 n)) := bindP_some _ _
@[simp] theorem bsQ_some (P : Program) (n : Nat) (ps : List (Nat × V)) (cs : List V) : bsQ K σ d P n ps (some cs) = (1 ≤ cs.length ∧ n * cs.length ≤ 16777216 ∧ bslQ K σ d n cs.length (fillV (fun i => some (i * cs.length, cs.length)) (List.replicate n cs).flatten ps)) := bindP_some _ _
@[simp] theorem loadQ_some (P : Program) (t : TypeId) (cs : List V) : loadQ K σ d P t (some cs) = putQ K σ d (loadV P t cs) := bindP_some _ _
@[simp] theorem storeQ_loc (P : Program) (t : TypeId) (g : Int) (sz k j : Nat) (y : V) : storeQ K σ d P t (.loc g sz k j) y = storeQ2 K σ d P t g sz k j y (σ.bl g) := rfl
@[simp] theorem storeQ2_some (P : Program) (t : TypeId) (g : Int) (sz k j : Nat) (y : V) (b : Blk) : storeQ2 K σ d P t g sz k j y (some b) = storeQ3 K σ d P t g sz k j b y (b.els[k]?) := bindP_some _ _
@[simp] theorem storeQ3_some (P : Program) (t : TypeId) (g : Int) (sz k j : Nat) (b : Blk) (y : V) (e : List V) : storeQ3 K σ d P t g sz k j b y (some e) = (b.sz = sz ∧ csz P t = some y.cells.length ∧ j + y.cells.length ≤ sz ∧ y.cells.all V.one = true ∧
  K (({ σ with bl := upd σ.bl g (some ⟨sz, b.els.set k (splice e j y.cells)⟩) } : St).put d .junk)) := bindP_some _ _
@[simp] theorem makeQ_some (bz : Nat) (l c : V) (cs : List V) : makeQ K σ d bz l c (some cs) = makeQ2 K σ d bz l c cs := bindP_some _ _
@[simp] theorem makeQ2_nat (bz n : Nat) (cs : List V) : makeQ2 K σ d bz (.int .i64 n) (.int .i64 n) cs = (bz * n ≤ 281474976710656 ∧ n ≤ maxLen ∧
  ∀ g : Int, 0 ≤ g → σ.bl g = none → K (({ σ with bl := upd σ.bl g (some ⟨cs.length, List.replicate n cs⟩) } : St).put d (.lsl g cs.length 0 n))) := by
  apply propext
  constructor
  · rintro ⟨m, h1, h2, h3, h4, h5⟩
    have : n = m := by injection h1 with _ h; omega
    subst this; exact ⟨h3, h4, h5⟩
  · rintro ⟨h3, h4, h5⟩; exact ⟨n, rfl, rfl, h3, h4, h5⟩
@[simp] theorem slQ_some (e : TypeId) (k : TypeId → Prop) : slQ (some e) k = k e := bindP_some _ _
@[simp] theorem callT_some (P : Program) (f : FuncId) (xs : List V) : callT K σ d P (some (f, xs)) = CallP P f xs σ.bl (callQ K σ d) := bindP_some _ _
@[simp] theorem callQ_ap (v : V) (bl' : Int → Option Blk) : callQ K σ d v bl' = K (({ σ with bl := bl' } : St).put d v) := rfl
@[simp] theorem appQ_some (P : Program) (e : TypeId) (b : Int → Option Blk) (sz : Nat) (xs : List (List V)) : appQ K σ d P (some e) (some (b, sz, xs)) = ((xs.length * bsz P e ≤ 140737488355328 ∧ 1 ≤ bsz P e ∧ ∃ z, zeroC P e = some z ∧ 1 ≤ z.length) ∧
  ∀ g : Int, (0 ≤ g ∨ xs = []) → b g = none → K (({ σ with bl := upd b g (some ⟨sz, xs⟩) } : St).put d (.lsl g sz 0 xs.length))) := bindP_some _ _

variable (P : Program) (ty : TypeId) (pos : String) (af : Array Edge) (gd : Option (Nat × Bool))
@[simp] theorem T_move (x : Operand) : T P ⟨d, .move x, ty, pos, af, gd⟩ K σ = K (σ.put d (σ.ev x)) := rfl
@[simp] theorem T_assign (x : Operand) : T P ⟨d, .assign x, ty, pos, af, gd⟩ K σ = K (σ.put d (σ.ev x)) := rfl
@[simp] theorem T_pick (c a b : Operand) : T P ⟨d, .pick c a b, ty, pos, af, gd⟩ K σ = pickQ K σ d (σ.ev c) (σ.ev a) (σ.ev b) := rfl
@[simp] theorem T_alloc (t : TypeId) : T P ⟨d, .alloc t, ty, pos, af, gd⟩ K σ = allocQ K σ d (zeroC P t) := rfl
@[simp] theorem T_box (t : TypeId) (x : Operand) : T P ⟨d, .box t x, ty, pos, af, gd⟩ K σ = ((σ.ev x).cells.all V.one = true ∧ allocQ K σ d (some (σ.ev x).cells)) := by
  rw [allocQ_some]; rfl
@[simp] theorem T_build (t : TypeId) (ps : Array (Nat × Operand)) : T P ⟨d, .build t ps, ty, pos, af, gd⟩ K σ = buildQ K σ d P t (ps.toList.map fun p => (p.1, σ.ev p.2)) (zeroC P t) := rfl
@[simp] theorem T_buildSlice (t : TypeId) (n : Nat) (ps : Array (Nat × Operand)) : T P ⟨d, .buildSlice t n ps, ty, pos, af, gd⟩ K σ = slQ (slE P t) fun e => bsQ K σ d P n (ps.toList.map fun p => (p.1, σ.ev p.2)) (zeroC P e) := rfl
@[simp] theorem T_load (t : TypeId) (x : Operand) : T P ⟨d, .load t x, ty, pos, af, gd⟩ K σ = loadQ K σ d P t (rdP σ.bl (σ.ev x)) := rfl
@[simp] theorem T_store (t : TypeId) (x y : Operand) : T P ⟨d, .store t x y, ty, pos, af, gd⟩ K σ = storeQ K σ d P t (σ.ev x) (σ.ev y) := by
  unfold T storeQ
  simp only
  generalize σ.ev x = v
  cases v <;> rfl
@[simp] theorem T_nilCheck (x : Operand) : T P ⟨d, .nilCheck x, ty, pos, af, gd⟩ K σ = putQ K σ d (nilV (σ.ev x)) := rfl
@[simp] theorem T_binOp (op : BinOp) (t : TypeId) (x y : Operand) (t' : TypeId) : T P ⟨d, .binOp op t x y t', ty, pos, af, gd⟩ K σ = putQ K σ d (binV P op t (σ.ev x) (σ.ev y)) := rfl
@[simp] theorem T_unOp (op : UnOp) (t : TypeId) (x : Operand) : T P ⟨d, .unOp op t x, ty, pos, af, gd⟩ K σ = putQ K σ d (unV op (σ.ev x)) := rfl
@[simp] theorem T_convert (s t : TypeId) (x : Operand) : T P ⟨d, .convert s t x, ty, pos, af, gd⟩ K σ = putQ K σ d (cvtV P σ.bl s t (σ.ev x)) := rfl
@[simp] theorem T_makeFunc (f : FuncId) (cap : Array Operand) : T P ⟨d, .makeFunc (.func f) #[] cap, ty, pos, af, gd⟩ K σ = K (σ.put d (.fn f (cap.toList.map σ.ev))) := by
  show (_ ∧ _) = _
  simp
@[simp] theorem T_makeSlice (t : TypeId) (l c : Operand) : T P ⟨d, .makeSlice t l c, ty, pos, af, gd⟩ K σ = slQ (slE P t) fun e => makeQ K σ d (bsz P e) (σ.ev l) (σ.ev c) (zeroC P e) := rfl
@[simp] theorem T_slice (t : TypeId) (x : Operand) (lo hi : Option Operand) : T P ⟨d, .slice t x lo hi none, ty, pos, af, gd⟩ K σ = putQ K σ d (sliV P t (σ.ev x) (lo.map σ.ev) (hi.map σ.ev)) := rfl
@[simp] theorem T_fieldAddr (t : TypeId) (x : Operand) (i : Nat) : T P ⟨d, .fieldAddr t x i, ty, pos, af, gd⟩ K σ = putQ K σ d (fldV P t i (σ.ev x)) := rfl
@[simp] theorem T_field (t : TypeId) (x : Operand) (i : Nat) : T P ⟨d, .field t x i, ty, pos, af, gd⟩ K σ = putQ K σ d (fieldV P t i (σ.ev x)) := rfl
@[simp] theorem T_indexAddr (t : TypeId) (x i : Operand) : T P ⟨d, .indexAddr t x i, ty, pos, af, gd⟩ K σ = putQ K σ d (idxV P t (σ.ev x) (σ.ev i)) := rfl
@[simp] theorem T_index (t : TypeId) (x i : Operand) : T P ⟨d, .index t x i, ty, pos, af, gd⟩ K σ = putQ K σ d (idsV P t (σ.ev x) (σ.ev i)) := rfl
@[simp] theorem T_extract (x : Operand) (i : Nat) : T P ⟨d, .extract x i, ty, pos, af, gd⟩ K σ = putQ K σ d (extV i (σ.ev x)) := rfl
@[simp] theorem T_lookup (t : TypeId) (x i : Operand) (co : Bool) : T P ⟨d, .lookup t x i co, ty, pos, af, gd⟩ K σ = putQ K σ d (lkV P t (σ.ev x) (σ.ev i) co) := rfl
@[simp] theorem T_call (f : Operand) (args : Array Operand) (ats : Array TypeId) : T P ⟨d, .call { callee := .value f, args := args, argTypes := ats }, ty, pos, af, gd⟩ K σ = callT K σ d P (callV σ f args.toList) := rfl
@[simp] theorem T_len (x : Operand) (t : TypeId) : T P ⟨d, .call { callee := .builtin .len, args := #[x], argTypes := #[t] }, ty, pos, af, gd⟩ K σ = putQ K σ d (lenV P t (σ.ev x)) := by
  show (∃ v, _ ∧ _ ∧ _ ∧ _) = (∃ v, _ ∧ _)
  simp
@[simp] theorem T_min (x y : Operand) (ts : Array TypeId) : T P ⟨d, .call { callee := .builtin .min, args := #[x, y], argTypes := ts }, ty, pos, af, gd⟩ K σ = putQ K σ d (minV (σ.ev x) (σ.ev y)) := by
  show (∃ v, _ ∧ _ ∧ _) = (∃ v, _ ∧ _)
  simp
@[simp] theorem T_append (x y : Operand) (t tx : TypeId) : T P ⟨d, .call { callee := .builtin .append, args := #[x, y], argTypes := #[t, tx] }, ty, pos, af, gd⟩ K σ = appQ K σ d P (slE P t) (appV P t tx σ.bl (σ.ev x) (σ.ev y)) := by
  show (∃ p, _ ∧ _ ∧ _ ∧ _ ∧ _) = (∃ p, _ ∧ _ ∧ _)
  simp
end

/-! ### A region; a guard's branches wait for its value -/
def OpsF (P : Program) (ds : List (Option Tmp)) : List Oper → (St → Prop) → St → Prop
  | [], K, σ => K σ
  | o :: rest, K, σ => match o.guard with
    | none => T P o (OpsF P ds rest K) σ
    | some (j, b) => match ds[j]? with
      | some (some d) => match σ.ev (.tmp d) with
        | .bool q => (q = true → if b = true then T P o (OpsF P ds rest K) (σ.put (some d) (.bool true)) else OpsF P ds rest K ((σ.put (some d) (.bool true)).put o.dst (.tup []))) ∧
            (q = false → if b = false then T P o (OpsF P ds rest K) (σ.put (some d) (.bool false)) else OpsF P ds rest K ((σ.put (some d) (.bool false)).put o.dst (.tup [])))
        | .tup [] => OpsF P ds rest K (σ.put o.dst (.tup []))
        | _ => False
      | _ => False
def guardQ (P : Program) (ds : List (Option Tmp)) (b : Bool) (o : Oper) (rest : List Oper) (K : St → Prop) (d : Tmp) (σ : St) (x : V) : Prop := match x with
  | .bool q => (q = true → if b = true then T P o (OpsF P ds rest K) (σ.put (some d) (.bool true)) else OpsF P ds rest K ((σ.put (some d) (.bool true)).put o.dst (.tup []))) ∧
      (q = false → if b = false then T P o (OpsF P ds rest K) (σ.put (some d) (.bool false)) else OpsF P ds rest K ((σ.put (some d) (.bool false)).put o.dst (.tup [])))
  | .tup [] => OpsF P ds rest K (σ.put o.dst (.tup []))
  | _ => False
def guardS (P : Program) (ds : List (Option Tmp)) (b : Bool) (o : Oper) (rest : List Oper) (K : St → Prop) (σ : St) (x : Option (Option Tmp)) : Prop := match x with
  | some (some d) => guardQ P ds b o rest K d σ (σ.ev (.tmp d))
  | _ => False
section
variable (P : Program) (ds : List (Option Tmp)) (K : St → Prop) (σ : St) (d : Option Tmp) (op : Op) (ty : TypeId) (pos : String) (af : Array Edge) (rest : List Oper) (b : Bool) (o : Oper) (t : Tmp)
@[simp] theorem OpsF_nil : OpsF P ds [] K σ = K σ := rfl
@[simp] theorem OpsF_none : OpsF P ds (⟨d, op, ty, pos, af, none⟩ :: rest) K σ = T P ⟨d, op, ty, pos, af, none⟩ (OpsF P ds rest K) σ := rfl
@[simp] theorem OpsF_guard (j : Nat) : OpsF P ds (⟨d, op, ty, pos, af, some (j, b)⟩ :: rest) K σ = guardS P ds b ⟨d, op, ty, pos, af, some (j, b)⟩ rest K σ (ds[j]?) := rfl
@[simp] theorem guardS_some : guardS P ds b o rest K σ (some (some t)) = guardQ P ds b o rest K t σ (σ.ev (.tmp t)) := rfl
@[simp] theorem guardQ_tt : guardQ P ds true o rest K t σ (.bool true) = T P o (OpsF P ds rest K) (σ.put (some t) (.bool true)) := by simp [guardQ]
@[simp] theorem guardQ_tf : guardQ P ds true o rest K t σ (.bool false) = OpsF P ds rest K ((σ.put (some t) (.bool false)).put o.dst (.tup [])) := by simp [guardQ]
@[simp] theorem guardQ_ft : guardQ P ds false o rest K t σ (.bool true) = OpsF P ds rest K ((σ.put (some t) (.bool true)).put o.dst (.tup [])) := by simp [guardQ]
@[simp] theorem guardQ_ff : guardQ P ds false o rest K t σ (.bool false) = T P o (OpsF P ds rest K) (σ.put (some t) (.bool false)) := by simp [guardQ]
@[simp] theorem guardQ_skip : guardQ P ds b o rest K t σ (.tup []) = OpsF P ds rest K (σ.put o.dst (.tup [])) := rfl
@[simp low] theorem guardQ_true (q : Bool) : guardQ P ds true o rest K t σ (.bool q) = ((q = true → T P o (OpsF P ds rest K) (σ.put (some t) (.bool true))) ∧ (q = false → OpsF P ds rest K ((σ.put (some t) (.bool false)).put o.dst (.tup [])))) := by simp [guardQ]
@[simp low] theorem guardQ_false (q : Bool) : guardQ P ds false o rest K t σ (.bool q) = ((q = true → OpsF P ds rest K ((σ.put (some t) (.bool true)).put o.dst (.tup []))) ∧ (q = false → T P o (OpsF P ds rest K) (σ.put (some t) (.bool false)))) := by simp [guardQ]
end

theorem Ops_of {P : Program} {ds : List (Option Tmp)} {K : St → Prop} : ∀ {l : List Oper} {σ : St}, OpsF P ds l K σ → Ops P ds l K σ
  | [], σ, h => h
  | o :: rest, σ, h => by
    have ih : ∀ σ, OpsF P ds rest K σ → Ops P ds rest K σ := fun σ => Ops_of
    unfold OpsF at h
    unfold Ops
    split
    · rename_i hg; simp only [hg] at h; exact T_mono h ih
    · rename_i j b hg
      simp only [hg] at h
      split
      · rename_i d hd
        simp only [hd] at h
        split at h
        · rename_i q hq
          obtain ⟨h1, h2⟩ := h
          rw [hq, onG_bool]
          refine ⟨fun hb => ?_, fun hb => ?_⟩
          · subst hb
            cases q
            · exact T_mono (h2 rfl) ih
            · exact T_mono (h1 rfl) ih
          · cases b
            · subst hb; exact ih _ (h1 rfl)
            · subst hb; exact ih _ (h2 rfl)
        · rename_i hq
          rw [hq, onG_skip]
          exact ih _ h
        · exact h.elim
      · rename_i hd
        split at h
        · rename_i d hd2; exact absurd hd2 (hd d)
        · exact h

/-! ### Straight code in one go -/
def runC (P : Program) : Code → (Ex → St → Prop) → St → Prop
  | .skip, K, σ => K .normal σ
  | .seq x y, K, σ => runC P x (fun e σ' => match e with | .normal => runC P y K σ' | .exit i => K (.exit i) σ' | .ret => K .ret σ') σ
  | .region id ops true, K, σ => AW P (.region id ops true) K σ
  | .region id ops false, K, σ => if ops.toList.any (fun o => o.guard.isSome) = true then AW P (.region id ops false) K σ else OpsF P (ops.toList.map (·.dst)) ops.toList (K .normal) σ
  | .cond c x y, K, σ => onB (σ.ev c) fun b => (b = true → runC P x K σ) ∧ (b = false → runC P y K σ)
  | .block id c, K, σ => runC P c (blockK id K) σ
  | .loop c, K, σ => AW P (.loop c) K σ
  | .exit i, K, σ => K (.exit i) σ
  | .ret, K, σ => K .ret σ
  | _, _, _ => False

/-- What follows a statement, sealed. -/
def seqR (P : Program) (y : Code) (K : Ex → St → Prop) (e : Ex) (σ : St) : Prop := match e with | .normal => runC P y K σ | .exit i => K (.exit i) σ | .ret => K .ret σ
@[simp] theorem seqR_normal (P : Program) (y : Code) (K : Ex → St → Prop) (σ : St) : seqR P y K .normal σ = runC P y K σ := rfl
@[simp] theorem seqR_exit (P : Program) (y : Code) (K : Ex → St → Prop) (i : Nat) (σ : St) : seqR P y K (.exit i) σ = K (.exit i) σ := rfl
@[simp] theorem seqR_ret (P : Program) (y : Code) (K : Ex → St → Prop) (σ : St) : seqR P y K .ret σ = K .ret σ := rfl
def condQ (P : Program) (x y : Code) (K : Ex → St → Prop) (σ : St) (v : V) : Prop := onB v fun b => (b = true → runC P x K σ) ∧ (b = false → runC P y K σ)
@[simp] theorem runC_skip (P : Program) (K : Ex → St → Prop) (σ : St) : runC P .skip K σ = K .normal σ := rfl
@[simp] theorem runC_seq (P : Program) (x y : Code) (K : Ex → St → Prop) (σ : St) : runC P (.seq x y) K σ = runC P x (seqR P y K) σ := rfl
@[simp] theorem runC_draw (P : Program) (id : Nat) (ops : Array Oper) (K : Ex → St → Prop) (σ : St) : runC P (.region id ops true) K σ = AW P (.region id ops true) K σ := rfl
@[simp] theorem runC_region (P : Program) (id : Nat) (ops : Array Oper) (K : Ex → St → Prop) (σ : St) : runC P (.region id ops false) K σ = if ops.toList.any (fun o => o.guard.isSome) = true then AW P (.region id ops false) K σ else OpsF P (ops.toList.map (·.dst)) ops.toList (K .normal) σ := rfl
@[simp] theorem runC_cond (P : Program) (c : Operand) (x y : Code) (K : Ex → St → Prop) (σ : St) : runC P (.cond c x y) K σ = condQ P x y K σ (σ.ev c) := rfl
@[simp] theorem condQ_true (P : Program) (x y : Code) (K : Ex → St → Prop) (σ : St) : condQ P x y K σ (.bool true) = runC P x K σ := by simp [condQ]
@[simp] theorem condQ_false (P : Program) (x y : Code) (K : Ex → St → Prop) (σ : St) : condQ P x y K σ (.bool false) = runC P y K σ := by simp [condQ]
@[simp low] theorem condQ_bool (P : Program) (x y : Code) (K : Ex → St → Prop) (σ : St) (q : Bool) : condQ P x y K σ (.bool q) = ((q = true → runC P x K σ) ∧ (q = false → runC P y K σ)) := by simp [condQ]
@[simp] theorem runC_block (P : Program) (id : Nat) (c : Code) (K : Ex → St → Prop) (σ : St) : runC P (.block id c) K σ = runC P c (blockK id K) σ := rfl
@[simp] theorem runC_loop (P : Program) (c : Code) (K : Ex → St → Prop) (σ : St) : runC P (.loop c) K σ = AW P (.loop c) K σ := rfl
@[simp] theorem runC_exit (P : Program) (i : Nat) (K : Ex → St → Prop) (σ : St) : runC P (.exit i) K σ = K (.exit i) σ := rfl
@[simp] theorem runC_ret (P : Program) (K : Ex → St → Prop) (σ : St) : runC P .ret K σ = K .ret σ := rfl

theorem AW_run {P : Program} : ∀ {c : Code} {K : Ex → St → Prop} {σ : St}, runC P c K σ → AW P c K σ
  | .skip, K, σ, h => AW_skip h
  | .seq x y, K, σ, h => by
    have h1 : AW P x (seqR P y K) σ := AW_run h
    refine AW_seq (h1.mono fun e σ' h' => ?_)
    cases e with
    | normal => exact AW_run h'
    | exit i => exact h'
    | ret => exact h'
  | .region id ops true, K, σ, h => h
  | .region id ops false, K, σ, h => by
    unfold runC at h
    split at h
    · exact h
    · exact AW_region (Ops_of h)
  | .cond c x y, K, σ, h => by
    unfold runC at h
    obtain ⟨q, hq, h1, h2⟩ := onB_some h
    exact AW_cond ⟨q, hq, fun h => AW_run (h1 h), fun h => AW_run (h2 h)⟩
  | .block id c, K, σ, h => AW_block (AW_run h)
  | .loop c, K, σ, h => h
  | .exit i, K, σ, h => AW_exit h
  | .ret, K, σ, h => AW_ret h
  | .rangeFunc .., _, _, h => h.elim
  | .scope _, _, _, h => h.elim
  | .label _, _, _, h => h.elim
  | .goto _, _, _, h => h.elim

/-! ### A slice that is filled from its beginning -/
def part (xs : List (List V)) (z : List V) (i : Nat) : List (List V) := xs.take i ++ List.replicate (xs.length - i) z
@[simp] theorem part_zero (xs : List (List V)) (z : List V) : part xs z 0 = List.replicate xs.length z := by simp [part]
theorem part_all (xs : List (List V)) (z : List V) (i : Nat) (h : xs.length ≤ i) : part xs z i = xs := by simp [part, List.take_of_length_le h, Nat.sub_eq_zero_of_le h]
theorem part_length (xs : List (List V)) (z : List V) (i : Nat) : (part xs z i).length = xs.length := by simp [part]; omega
theorem part_get (xs : List (List V)) (z : List V) (i : Nat) (h : i < xs.length) : (part xs z i)[i]? = some z := by
  unfold part
  rw [List.getElem?_append_right (by simp; omega)]
  rw [List.getElem?_replicate, if_pos (by simp; omega)]
theorem part_set (xs : List (List V)) (z : List V) (i : Nat) (h : i < xs.length) (x : List V) (hx : x = xs[i]) : (part xs z i).set i x = part xs z (i + 1) := by
  subst hx
  apply List.ext_getElem?
  intro j
  have hz : ∀ k, k ≤ xs.length → ∀ j, (part xs z k)[j]? = if j < k then xs[j]? else if j < xs.length then some z else none := by
    intro k hk j
    unfold part
    by_cases hj : j < k
    · rw [if_pos hj, List.getElem?_append_left (by simp; omega), List.getElem?_take_of_lt hj]
    · rw [if_neg hj, List.getElem?_append_right (by simp; omega), List.getElem?_replicate]
      simp only [List.length_take]
      by_cases h2 : j < xs.length
      · rw [if_pos (by omega), if_pos h2]
      · rw [if_neg (by omega), if_neg h2]
  rw [List.getElem?_set, hz i (by omega), hz (i + 1) (by omega), part_length]
  by_cases hij : i = j
  · subst hij; simp [h]
  · rw [if_neg hij]
    by_cases h1 : j < i
    · simp [h1, show j < i + 1 by omega]
    · simp [h1, show ¬ j < i + 1 by omega]
theorem frz_slice {bl bl0 : Int → Option Blk} {g : Int} {sz n : Nat} {els : List (List V)} (hg0 : 0 ≤ g) (hg : bl0 g = none) (hb : bl g = some ⟨sz, els⟩) (hn : els.length = n) (hcl : els.all (fun e => e.all V.cl) = true) : frz (dropB bl bl0) 1 (.lsl g sz 0 n) = some (.sl els) := by
  subst hn
  unfold frz
  rw [if_neg (by omega)]
  unfold dropB
  rw [hg]
  simp only [hb]
  rw [if_pos (by simp), List.drop_zero, List.take_length, if_pos hcl]
theorem sub_eq {bl bl' : Int → Option Blk} (h : bl' = bl) : Sub bl bl' := by rw [h]; exact Sub.refl _

/-! ### Regions that draw their order, all of whose operations read -/
def qval (P : Program) (blK : Int → Option Blk) (σ : St) : Op → Option V
  | .move x => some (σ.ev x)
  | .assign x => some (σ.ev x)
  | .pick c a b => match σ.ev c with | .bool t => some (pickV t (σ.ev a) (σ.ev b)) | _ => none
  | .load t x => match rdP blK (σ.ev x) with | some cs => loadV P t cs | none => none
  | .nilCheck x => nilV (σ.ev x)
  | .binOp op t x y _ => binV P op t (σ.ev x) (σ.ev y)
  | .unOp op _ x => unV op (σ.ev x)
  | .convert s d x => cvtV P blK s d (σ.ev x)
  | .slice t x lo hi none => sliV P t (σ.ev x) (lo.map σ.ev) (hi.map σ.ev)
  | .fieldAddr t x i => fldV P t i (σ.ev x)
  | .field t x i => fieldV P t i (σ.ev x)
  | .indexAddr t x i => idxV P t (σ.ev x) (σ.ev i)
  | .index t x i => idsV P t (σ.ev x) (σ.ev i)
  | .extract x i => extV i (σ.ev x)
  | .makeFunc (.func f) first cap => if first = #[] then some (.fn f (cap.toList.map σ.ev)) else none
  | .call c => match c.callee with
    | .builtin .len => if c.args.size = 1 ∧ c.argTypes.size = 1 then lenV P (c.argTypes.getD 0 0) (σ.ev (c.args.getD 0 (.const undef))) else none
    | _ => none
  | _ => none

theorem qval_sv {P : Program} {blK : Int → Option Blk} {o : Oper} {σ : St} {v : V} (h : qval P blK σ o.op = some v) : SV P blK o σ v := by
  have e : ∀ x, (σ.withBl blK).ev x = σ.ev x := withBl_ev σ blK
  unfold qval at h
  cases ho : o.op <;> rw [ho] at h <;> (try simp only at h) <;> try (cases h; done)
  case move x => cases h; exact .inl ⟨by rw [ho]; rfl, by unfold T; rw [ho]; simp only [e]⟩
  case assign x => cases h; exact .inl ⟨by rw [ho]; rfl, by unfold T; rw [ho]; simp only [e]⟩
  case pick c a b =>
    split at h
    · rename_i t hc; cases h; exact .inl ⟨by rw [ho]; rfl, by unfold T; rw [ho]; simp only [e, hc, onB_bool]⟩
    · cases h
  case load t x =>
    split at h
    · rename_i cs hcs; exact .inl ⟨by rw [ho]; rfl, by unfold T; rw [ho]; simp only [e]; exact ⟨cs, hcs, v, h, rfl⟩⟩
    · cases h
  case nilCheck x => exact .inl ⟨by rw [ho]; rfl, by unfold T; rw [ho]; simp only [e]; exact ⟨v, h, rfl⟩⟩
  case binOp => exact .inl ⟨by rw [ho]; rfl, by unfold T; rw [ho]; simp only [e]; exact ⟨v, h, rfl⟩⟩
  case unOp => exact .inl ⟨by rw [ho]; rfl, by unfold T; rw [ho]; simp only [e]; exact ⟨v, h, rfl⟩⟩
  case convert => exact .inl ⟨by rw [ho]; rfl, by unfold T; rw [ho]; simp only [e]; exact ⟨v, h, rfl⟩⟩
  case fieldAddr => exact .inl ⟨by rw [ho]; rfl, by unfold T; rw [ho]; simp only [e]; exact ⟨v, h, rfl⟩⟩
  case field => exact .inl ⟨by rw [ho]; rfl, by unfold T; rw [ho]; simp only [e]; exact ⟨v, h, rfl⟩⟩
  case indexAddr => exact .inl ⟨by rw [ho]; rfl, by unfold T; rw [ho]; simp only [e]; exact ⟨v, h, rfl⟩⟩
  case index => exact .inl ⟨by rw [ho]; rfl, by unfold T; rw [ho]; simp only [e]; exact ⟨v, h, rfl⟩⟩
  case extract => exact .inl ⟨by rw [ho]; rfl, by unfold T; rw [ho]; simp only [e]; exact ⟨v, h, rfl⟩⟩
  case slice t x lo hi mx =>
    cases mx <;> simp only at h <;> try (cases h; done)
    have e1 : lo.map (σ.withBl blK).ev = lo.map σ.ev := by cases lo <;> simp [withBl_ev]
    have e2 : hi.map (σ.withBl blK).ev = hi.map σ.ev := by cases hi <;> simp [withBl_ev]
    exact .inl ⟨by rw [ho]; rfl, by unfold T; rw [ho]; simp only [e, e1, e2]; exact ⟨v, h, rfl⟩⟩
  case makeFunc f first cap =>
    cases f <;> simp only at h <;> try (cases h; done)
    split at h
    · rename_i hf
      cases h
      have : (cap.toList.map (σ.withBl blK).ev) = cap.toList.map σ.ev := List.map_congr_left fun x _ => e x
      exact .inl ⟨by rw [ho]; rfl, by unfold T; rw [ho]; simp only [this]; exact ⟨hf, trivial⟩⟩
    · cases h
  case call c =>
    split at h
    · rename_i hc
      split at h
      · rename_i hs
        refine .inl ⟨?_, ?_⟩
        · rw [ho]; obtain ⟨cal, args, ats⟩ := c; simp only at hc; subst hc; rfl
        · unfold T; rw [ho]; simp only [hc, e]; exact ⟨v, h, hs.1, hs.2, rfl⟩
      · cases h
    · cases h

/-- Reading operations in the text's order. -/
def HoistF (P : Program) (ds : List (Option Tmp)) (blK : Int → Option Blk) : List Oper → (St → Prop) → St → Prop
  | [], K, σ => K σ
  | o :: rest, K, σ => match o.guard with
    | none => match o.op with
      | .call ⟨.value f, args, _⟩ => bindP (callV σ f args.toList) fun p => ∃ v n ys, ((frzL blK n p.2 = some ys ∧ RO P p.1 ys v ∧ v.sc = true) ∨ RO P p.1 p.2 v) ∧ HoistF P ds blK rest K (σ.put o.dst v)
      | op => bindP (qval P blK σ op) fun v => HoistF P ds blK rest K (σ.put o.dst v)
    | some (j, b) => match ds[j]? with
      | some (some d) => match σ.ev (.tmp d) with
        | .bool q => if q = b then bindP (qval P blK σ o.op) fun v => HoistF P ds blK rest K (σ.put o.dst v) else HoistF P ds blK rest K (σ.put o.dst (.tup []))
        | .tup [] => HoistF P ds blK rest K (σ.put o.dst (.tup []))
        | _ => False
      | _ => False

def hoQ (P : Program) (ds : List (Option Tmp)) (blK : Int → Option Blk) (rest : List Oper) (K : St → Prop) (σ : St) (d : Option Tmp) (o : Option V) : Prop := bindP o fun v => HoistF P ds blK rest K (σ.put d v)
def hcQ (P : Program) (ds : List (Option Tmp)) (blK : Int → Option Blk) (rest : List Oper) (K : St → Prop) (σ : St) (d : Option Tmp) (o : Option (FuncId × List V)) : Prop := bindP o fun p => ∃ v n ys, ((frzL blK n p.2 = some ys ∧ RO P p.1 ys v ∧ v.sc = true) ∨ RO P p.1 p.2 v) ∧ HoistF P ds blK rest K (σ.put d v)
section
variable (P : Program) (ds : List (Option Tmp)) (blK : Int → Option Blk) (rest : List Oper) (K : St → Prop) (σ : St) (d : Option Tmp) (ty : TypeId) (pos : String) (af : Array Edge)
@[simp] theorem HoistF_nil : HoistF P ds blK [] K σ = K σ := rfl
@[simp] theorem HoistF_call (f : Operand) (args : Array Operand) (ats : Array TypeId) : HoistF P ds blK (⟨d, .call ⟨.value f, args, ats⟩, ty, pos, af, none⟩ :: rest) K σ = hcQ P ds blK rest K σ d (callV σ f args.toList) := rfl
@[simp] theorem HoistF_len (x : Operand) (t : TypeId) : HoistF P ds blK (⟨d, .call ⟨.builtin .len, #[x], #[t]⟩, ty, pos, af, none⟩ :: rest) K σ = hoQ P ds blK rest K σ d (lenV P t (σ.ev x)) := rfl
@[simp] theorem HoistF_move (x : Operand) : HoistF P ds blK (⟨d, .move x, ty, pos, af, none⟩ :: rest) K σ = HoistF P ds blK rest K (σ.put d (σ.ev x)) := bindP_some _ _
@[simp] theorem HoistF_assign (x : Operand) : HoistF P ds blK (⟨d, .assign x, ty, pos, af, none⟩ :: rest) K σ = HoistF P ds blK rest K (σ.put d (σ.ev x)) := bindP_some _ _
@[simp] theorem HoistF_pick (c a b : Operand) : HoistF P ds blK (⟨d, .pick c a b, ty, pos, af, none⟩ :: rest) K σ = hoQ P ds blK rest K σ d (qval P blK σ (.pick c a b)) := rfl
@[simp] theorem HoistF_load (t : TypeId) (x : Operand) : HoistF P ds blK (⟨d, .load t x, ty, pos, af, none⟩ :: rest) K σ = hoQ P ds blK rest K σ d (qval P blK σ (.load t x)) := rfl
@[simp] theorem HoistF_nilCheck (x : Operand) : HoistF P ds blK (⟨d, .nilCheck x, ty, pos, af, none⟩ :: rest) K σ = hoQ P ds blK rest K σ d (nilV (σ.ev x)) := rfl
@[simp] theorem HoistF_binOp (op : BinOp) (t : TypeId) (x y : Operand) (t' : TypeId) : HoistF P ds blK (⟨d, .binOp op t x y t', ty, pos, af, none⟩ :: rest) K σ = hoQ P ds blK rest K σ d (binV P op t (σ.ev x) (σ.ev y)) := rfl
@[simp] theorem HoistF_unOp (op : UnOp) (t : TypeId) (x : Operand) : HoistF P ds blK (⟨d, .unOp op t x, ty, pos, af, none⟩ :: rest) K σ = hoQ P ds blK rest K σ d (unV op (σ.ev x)) := rfl
@[simp] theorem HoistF_convert (s t : TypeId) (x : Operand) : HoistF P ds blK (⟨d, .convert s t x, ty, pos, af, none⟩ :: rest) K σ = hoQ P ds blK rest K σ d (cvtV P blK s t (σ.ev x)) := rfl
@[simp] theorem HoistF_slice (t : TypeId) (x : Operand) (lo hi : Option Operand) : HoistF P ds blK (⟨d, .slice t x lo hi none, ty, pos, af, none⟩ :: rest) K σ = hoQ P ds blK rest K σ d (sliV P t (σ.ev x) (lo.map σ.ev) (hi.map σ.ev)) := rfl
@[simp] theorem HoistF_fieldAddr (t : TypeId) (x : Operand) (i : Nat) : HoistF P ds blK (⟨d, .fieldAddr t x i, ty, pos, af, none⟩ :: rest) K σ = hoQ P ds blK rest K σ d (fldV P t i (σ.ev x)) := rfl
@[simp] theorem HoistF_field (t : TypeId) (x : Operand) (i : Nat) : HoistF P ds blK (⟨d, .field t x i, ty, pos, af, none⟩ :: rest) K σ = hoQ P ds blK rest K σ d (fieldV P t i (σ.ev x)) := rfl
@[simp] theorem HoistF_indexAddr (t : TypeId) (x i : Operand) : HoistF P ds blK (⟨d, .indexAddr t x i, ty, pos, af, none⟩ :: rest) K σ = hoQ P ds blK rest K σ d (idxV P t (σ.ev x) (σ.ev i)) := rfl
@[simp] theorem HoistF_index (t : TypeId) (x i : Operand) : HoistF P ds blK (⟨d, .index t x i, ty, pos, af, none⟩ :: rest) K σ = hoQ P ds blK rest K σ d (idsV P t (σ.ev x) (σ.ev i)) := rfl
@[simp] theorem HoistF_extract (x : Operand) (i : Nat) : HoistF P ds blK (⟨d, .extract x i, ty, pos, af, none⟩ :: rest) K σ = hoQ P ds blK rest K σ d (extV i (σ.ev x)) := rfl
@[simp] theorem hoQ_some (v : V) : hoQ P ds blK rest K σ d (some v) = HoistF P ds blK rest K (σ.put d v) := bindP_some _ _
@[simp high] theorem hoQ_if (c : Prop) [Decidable c] (o : Option V) : hoQ P ds blK rest K σ d (if c then o else none) = (c ∧ hoQ P ds blK rest K σ d o) := bindP_if c o
end
theorem hcQ_of {P : Program} {ds : List (Option Tmp)} {blK : Int → Option Blk} {rest : List Oper} {K : St → Prop} {σ : St} {d : Option Tmp} {f : FuncId} {xs ys : List V} {v : V} (n : Nat) (h : RO P f ys v) (hf : frzL blK n xs = some ys) (hv : v.sc = true) (hK : HoistF P ds blK rest K (σ.put d v)) : hcQ P ds blK rest K σ d (some (f, xs)) :=
  ⟨_, rfl, v, n, ys, .inl ⟨hf, h, hv⟩, hK⟩
theorem hcQ_ro {P : Program} {ds : List (Option Tmp)} {blK : Int → Option Blk} {rest : List Oper} {K : St → Prop} {σ : St} {d : Option Tmp} {f : FuncId} {xs : List V} {v : V} (h : RO P f xs v) (hK : HoistF P ds blK rest K (σ.put d v)) : hcQ P ds blK rest K σ d (some (f, xs)) :=
  ⟨_, rfl, v, 0, [], .inr h, hK⟩

theorem Hoist_of {P : Program} {ops : Array Oper} {blK : Int → Option Blk} {K : St → Prop} : ∀ (l : List Oper) (k : Nat) (σ : St), (∀ j, l[j]? = ops[k + j]?) → HoistF P (ops.toList.map (·.dst)) blK l K σ → Hoist P ops blK (List.range' k l.length) K σ
  | [], k, σ, _, h => h
  | o :: rest, k, σ, hl, h => by
    have h0 : ops[k]? = some o := by simpa using (hl 0).symm
    have ih := fun σ' (h' : HoistF P (ops.toList.map (·.dst)) blK rest K σ') => Hoist_of rest (k + 1) σ' (fun j => by have := hl (j + 1); simpa [Nat.add_assoc, Nat.add_comm 1 j] using this) h'
    have hds : ∀ (j : Nat) d, (ops.toList.map (·.dst))[j]? = some (some d) → (ops[j]?).bind (·.dst) = some d := by
      intro j d hd
      rw [List.getElem?_map, Array.getElem?_toList] at hd
      rcases h : ops[j]? with _ | o
      · rw [h] at hd; cases hd
      · rw [h] at hd; simpa using hd
    show Hoist P ops blK (k :: List.range' (k + 1) rest.length) K σ
    unfold Hoist
    rw [h0]
    simp only
    have plain : bindP (qval P blK σ o.op) (fun v => HoistF P (ops.toList.map (·.dst)) blK rest K (σ.put o.dst v)) → ∃ v, SV P blK o σ v ∧ Hoist P ops blK (List.range' (k + 1) rest.length) K (σ.put o.dst v) := by
      rintro ⟨v, h1, h2⟩
      exact ⟨v, qval_sv h1, ih _ h2⟩
    unfold HoistF at h
    unfold DY
    split at h
    · rename_i hg
      simp only [hg]
      split at h
      · rename_i f args ats hop
        obtain ⟨p, hp, v, n, ys, h1, h4⟩ := h
        exact ⟨v, .inr ⟨_, f, p, n, ys, hop, rfl, hp, h1⟩, ih _ h4⟩
      · exact plain h
    · rename_i j b hg
      simp only [hg]
      split at h
      · rename_i d hd
        rw [hds j d hd]
        simp only
        split at h
        · rename_i q hq
          rw [hq]
          split at h
          · rename_i hqb
            obtain ⟨v, h1, h2⟩ := plain h
            exact ⟨v, ⟨fun _ => h1, fun hh => by subst hqb; cases q <;> cases hh⟩, h2⟩
          · rename_i hqb
            exact ⟨.tup [], ⟨fun hh => absurd hh hqb, fun _ => rfl⟩, ih _ h⟩
        · rename_i hq
          rw [hq]
          exact ⟨.tup [], rfl, ih _ h⟩
        · exact h.elim
      · exact h.elim

theorem Hoist_is {P : Program} {ops : Array Oper} {blK : Int → Option Blk} {K : St → Prop} : ∀ (l : List Oper) (is : List Nat) (σ : St), l.map some = is.map (fun i => ops[i]?) → HoistF P (ops.toList.map (·.dst)) blK l K σ → Hoist P ops blK is K σ
  | [], is, σ, hl, h => by
    cases is with
    | nil => exact h
    | cons i is => cases hl
  | o :: rest, [], σ, hl, h => by cases hl
  | o :: rest, k :: is, σ, hl, h => by
    have h0 : ops[k]? = some o := (List.cons.inj hl).1.symm
    have ih := fun σ' (h' : HoistF P (ops.toList.map (·.dst)) blK rest K σ') => Hoist_is rest is σ' (List.cons.inj hl).2 h'
    have hds : ∀ (j : Nat) d, (ops.toList.map (·.dst))[j]? = some (some d) → (ops[j]?).bind (·.dst) = some d := by
      intro j d hd
      rw [List.getElem?_map, Array.getElem?_toList] at hd
      rcases h : ops[j]? with _ | o
      · rw [h] at hd; cases hd
      · rw [h] at hd; simpa using hd
    unfold Hoist
    rw [h0]
    simp only
    have plain : bindP (qval P blK σ o.op) (fun v => HoistF P (ops.toList.map (·.dst)) blK rest K (σ.put o.dst v)) → ∃ v, SV P blK o σ v ∧ Hoist P ops blK is K (σ.put o.dst v) := by
      rintro ⟨v, h1, h2⟩
      exact ⟨v, qval_sv h1, ih _ h2⟩
    unfold HoistF at h
    unfold DY
    split at h
    · rename_i hg
      simp only [hg]
      split at h
      · rename_i f args ats hop
        obtain ⟨p, hp, v, n, ys, h1, h4⟩ := h
        exact ⟨v, .inr ⟨_, f, p, n, ys, hop, rfl, hp, h1⟩, ih _ h4⟩
      · exact plain h
    · rename_i j b hg
      simp only [hg]
      split at h
      · rename_i d hd
        rw [hds j d hd]
        simp only
        split at h
        · rename_i q hq
          rw [hq]
          split at h
          · rename_i hqb
            obtain ⟨v, h1, h2⟩ := plain h
            exact ⟨v, ⟨fun _ => h1, fun hh => by subst hqb; cases q <;> cases hh⟩, h2⟩
          · rename_i hqb
            exact ⟨.tup [], ⟨fun hh => absurd hh hqb, fun _ => rfl⟩, ih _ h⟩
        · rename_i hq
          rw [hq]
          exact ⟨.tup [], rfl, ih _ h⟩
        · exact h.elim
      · exact h.elim

theorem filter_some {ops : Array Oper} : ∀ (is : List Nat), is.all (fun i => decide (i < ops.size)) = true → (is.filterMap fun i => ops[i]?).map some = is.map (fun i => ops[i]?)
  | [], _ => rfl
  | i :: is, h => by
    simp only [List.all_cons, Bool.and_eq_true, decide_eq_true_eq] at h
    have ih := filter_some is h.2
    rw [List.filterMap_cons]
    simp only [Array.getElem?_eq_getElem h.1, List.map_cons]
    rw [ih]

/-- Reading operations first (is), then the others in every order. -/
theorem AW_mixed {P : Program} {id : Nat} {ops : Array Oper} {K : Ex → St → Prop} {σ : St} (hm : P.follows .mixedOrders = true) (is : List Nat) (fuel : Nat) (hn : (ops.size == fuel + is.length && is.all (fun i => decide (i < ops.size)) && hoistB ops is (Array.replicate ops.size false)) = true)
    (h : HoistF P (ops.toList.map (·.dst)) σ.bl (is.filterMap fun i => ops[i]?) (DAny P ops σ.bl (fun _ => false) (K .normal) fuel (setAll is (Array.replicate ops.size false))) σ) : AW P (.region id ops true) K σ := by
  simp only [Bool.and_eq_true, beq_iff_eq] at hn
  exact AW_draw_mixed hm is fuel σ.bl (Sub.refl _) hn.1.1 hn.2 (tl := fun _ => false) (fun _ _ _ _ h => by cases h) (Hoist_is _ is σ (filter_some is hn.1.2) h)
/-- .. where the last operations, from n on, wait for all that are read first: they may store into what has been read. -/
theorem AW_mixedT {P : Program} {id : Nat} {ops : Array Oper} {K : Ex → St → Prop} {σ : St} (hm : P.follows .mixedOrders = true) (is : List Nat) (fuel n : Nat) (hn : (ops.size == fuel + is.length && is.all (fun i => decide (i < ops.size)) && hoistB ops is (Array.replicate ops.size false) && tailB ops (fun j => decide (n ≤ j)) is) = true)
    (h : HoistF P (ops.toList.map (·.dst)) σ.bl (is.filterMap fun i => ops[i]?) (DAny P ops σ.bl (fun j => decide (n ≤ j)) (K .normal) fuel (setAll is (Array.replicate ops.size false))) σ) : AW P (.region id ops true) K σ := by
  simp only [Bool.and_eq_true, beq_iff_eq] at hn
  exact AW_draw_mixed hm is fuel σ.bl (Sub.refl _) hn.1.1.1 hn.1.2 (tl := fun j => decide (n ≤ j)) (tailB_spec hn.2) (Hoist_is _ is σ (filter_some is hn.1.1.2) h)

section
variable {P : Program} {ops : Array Oper} {blK : Int → Option Blk} {tl : Nat → Bool} {K : St → Prop} {fuel : Nat} {l : Array Bool} {σ : St}
theorem DAny_done (hr : Region.ready .any ops l = []) (h : K σ) : DAny P ops blK tl K fuel l σ := by
  cases fuel with
  | zero => exact ⟨hr, h⟩
  | succ n => exact ⟨fun _ => h, fun i hi => by rw [hr] at hi; cases hi⟩
theorem DAny_one {i : Nat} {o : Oper} (hr : Region.ready .any ops l = [i]) (ho : ops[i]? = some o) (hg : o.guard = none) (h : T P o (fun σ' => Sub blK σ'.bl ∧ DAny P ops blK tl K fuel (l.setIfInBounds i true) σ') σ) : DAny P ops blK tl K (fuel + 1) l σ := by
  refine ⟨fun h0 => (by rw [hr] at h0; cases h0), fun j hj => ?_⟩
  rw [hr] at hj
  obtain rfl : j = i := by simpa using hj
  unfold D1; rw [ho]; simp only [hg]; exact T_mono h fun _ ⟨h1, h2⟩ => ⟨fun _ => h1, h2⟩
/-- One of the last operations. -/
theorem DAny_last {i : Nat} {o : Oper} (hr : Region.ready .any ops l = [i]) (ho : ops[i]? = some o) (hg : o.guard = none) (ht : tl i = true) (h : T P o (fun σ' => DAny P ops blK tl K fuel (l.setIfInBounds i true) σ') σ) : DAny P ops blK tl K (fuel + 1) l σ := by
  refine ⟨fun h0 => (by rw [hr] at h0; cases h0), fun j hj => ?_⟩
  rw [hr] at hj
  obtain rfl : j = i := by simpa using hj
  unfold D1; rw [ho]; simp only [hg]; exact T_mono h fun _ h2 => ⟨fun hh => (by rw [ht] at hh; cases hh), h2⟩
theorem DAny_two {i j : Nat} {o o' : Oper} (hr : Region.ready .any ops l = [i, j]) (ho : ops[i]? = some o) (hg : o.guard = none) (ho' : ops[j]? = some o') (hg' : o'.guard = none)
    (h : T P o (fun σ' => Sub blK σ'.bl ∧ DAny P ops blK tl K fuel (l.setIfInBounds i true) σ') σ) (h' : T P o' (fun σ' => Sub blK σ'.bl ∧ DAny P ops blK tl K fuel (l.setIfInBounds j true) σ') σ) : DAny P ops blK tl K (fuel + 1) l σ := by
  refine ⟨fun h0 => (by rw [hr] at h0; cases h0), fun k hk => ?_⟩
  rw [hr] at hk
  rcases List.mem_cons.1 hk with rfl | hk
  · unfold D1; rw [ho]; simp only [hg]; exact T_mono h fun _ ⟨h1, h2⟩ => ⟨fun _ => h1, h2⟩
  · obtain rfl : k = j := by simpa using hk
    unfold D1; rw [ho']; simp only [hg']; exact T_mono h' fun _ ⟨h1, h2⟩ => ⟨fun _ => h1, h2⟩
end

def quietB (ops : Array Oper) : Bool := hoistB ops (List.range ops.size) (Array.replicate ops.size false) && (Region.ready .any ops (setAll (List.range ops.size) (Array.replicate ops.size false))).isEmpty

theorem AW_quiet {P : Program} {id : Nat} {ops : Array Oper} {K : Ex → St → Prop} {σ : St} (hm : P.follows .mixedOrders = true) (hB : quietB ops = true)
    (h : HoistF P (ops.toList.map (·.dst)) σ.bl ops.toList (K .normal) σ) : AW P (.region id ops true) K σ := by
  simp only [quietB, Bool.and_eq_true, List.isEmpty_iff] at hB
  refine AW_draw_quiet hm hB.1 hB.2 ?_
  have := Hoist_of ops.toList 0 σ (fun j => by simp) h
  rw [List.range_eq_range', ← Array.length_toList]
  exact this

/-! ### Loops over a few slots -/
def hv : List (Nat × V) → Nat → V
  | [], _ => .junk
  | (t, v) :: r, x => if x = t then v else hv r x
def Fit (l : List (Nat × V)) (n : Nat) (b : Int → Option Blk) (σ : St) : Prop := σ.n = n ∧ (∀ p, p ∈ l → σ.sl p.1 = p.2) ∧ Sub b σ.bl

theorem le_hv {σ : St} {l : List (Nat × V)} {n : Nat} {b : Int → Option Blk} (h : Fit l n b σ) : Le σ ⟨n, hv l, b⟩ := by
  obtain ⟨hn, hl, hb⟩ := h
  refine ⟨hn.symm, fun t _ => ?_, hb⟩
  show hv l t = σ.sl t ∨ hv l t = .junk
  clear hn hb
  induction l with
  | nil => exact .inr rfl
  | cons p r ih =>
    obtain ⟨u, v⟩ := p
    unfold hv
    split
    · rename_i ht; subst ht; exact .inl (hl (t, v) List.mem_cons_self).symm
    · exact ih fun p hp => hl p (List.mem_cons_of_mem _ hp)

/-- Only these slots matter from here on. -/
theorem AW_at {P : Program} {c : Code} {K : Ex → St → Prop} {σ : St} (l : List (Nat × V)) (n : Nat) (b : Int → Option Blk) (hf : Fit l n b σ) (h : AW P c K ⟨n, hv l, b⟩) : AW P c K σ := AW_le (le_hv hf) h

/-- Whatever way a region goes: these slots stay, and one is set. -/
theorem AW_way {P : Program} {id : Nat} {ops : Array Oper} {K : Ex → St → Prop} {σ : St} (l : List (Nat × V)) (n : Nat) (bl : Int → Option Blk) (t : Nat) (v : V) (bl' : Int → Option Blk) (hf : Fit l n bl σ) (hd : (l.all fun p => !(ops.toList.map (·.dst)).contains (some p.1)) = true)
    (h1 : OpsF P (ops.toList.map (·.dst)) ops.toList (fun σ' => σ'.sl t = v ∧ σ'.bl = bl') ⟨n, hv l, bl⟩) (h2 : K .normal ⟨n, hv ((t, v) :: l), bl'⟩) : AW P (.region id ops false) K σ := by
  refine AW_at l n bl hf ?_
  have hk : jn (hv l) (ops.toList.map (·.dst)) t v = hv ((t, v) :: l) := by
    funext x
    show (if x = t then v else if _ then _ else _) = if x = t then v else hv l x
    split
    · rfl
    · split
      · rename_i hx hc
        have : ∀ l : List (Nat × V), (l.all fun p => !(ops.toList.map (·.dst)).contains (some p.1)) = true → hv l x = .junk := by
          intro l
          induction l with
          | nil => intro _; rfl
          | cons p r ih =>
            obtain ⟨u, y⟩ := p
            intro ha
            simp only [List.all_cons, Bool.and_eq_true] at ha
            unfold hv
            rw [if_neg (by rintro rfl; rw [hc] at ha; exact absurd ha.1 (by simp)), ih ha.2]
        exact (this l hd).symm
      · rfl
  refine AW_join t v bl' (Ops_of h1) ?_
  rw [hk]; exact h2

def loopQ {α : Type} (S : α → List (Nat × V)) (B : α → Int → Option Blk) (I : α → Prop) (μ : α → Nat) (n m : Nat) (K : Ex → St → Prop) : Ex → St → Prop
  | .normal, σ => ∃ a, I a ∧ μ a < m ∧ Fit (S a) n (B a) σ
  | e, σ => K e σ

theorem AW_for {α : Type} {P : Program} {c : Code} {K : Ex → St → Prop} {σ : St} (S : α → List (Nat × V)) (B : α → Int → Option Blk) (I : α → Prop) (μ : α → Nat) (n : Nat) (a0 : α) (h0 : I a0) (hσ : Fit (S a0) n (B a0) σ)
    (round : ∀ a, I a → AW P c (loopQ S B I μ n (μ a) K) ⟨n, hv (S a), B a⟩) : AW P (.loop c) K σ := by
  intro w0 M F a w hs
  have hs := hs.le (le_hv hσ)
  intro b k cs
  have key : ∀ m (x : α) F1 a w, μ x = m → I x → (∀ b, F b → F1 b) → Sim w0 M F1 ⟨n, hv (S x), B x⟩ a w →
      ∃ e a' w', Post w0 M F K e a' w' ∧ Arrives P (lone (b.at a (.code c :: .inLoop c :: k)) cs w) b k cs e a' w' := by
    intro m
    induction m using Nat.strongRecOn with
    | _ m ih =>
      intro x F1 a w hm hI hF hs
      obtain ⟨e, a₁, w₁, hq, harr⟩ := round x hI w0 M F1 a w hs b (.inLoop c :: k) cs
      obtain ⟨ex, σ1, F2, rfl, hF2, hs1, hK⟩ := hq
      cases ex with
      | normal =>
        obtain ⟨y, hI2, hlt, hfit⟩ := hK
        have hfit' := le_hv hfit
        obtain ⟨e₂, a₂, w₂, hq₂, harr₂⟩ := ih (μ y) (hm ▸ hlt) y F2 a₁ w₁ rfl hI2 (fun b hb => hF2 b (hF b hb)) (hs1.le hfit')
        exact ⟨e₂, a₂, w₂, hq₂, .of_steps (Steps.trans harr (.one step_inLoop)) harr₂⟩
      | exit id => exact ⟨.exit id, a₁, w₁, ⟨.exit id, σ1, F2, rfl, fun b hb => hF2 b (hF b hb), hs1, hK⟩, .pass (x := .inLoop c) rfl (fun _ _ => .inl (by simp)) harr⟩
      | ret => exact ⟨.ret, a₁, w₁, ⟨.ret, σ1, F2, rfl, fun b hb => hF2 b (hF b hb), hs1, hK⟩, .pass (x := .inLoop c) rfl (fun _ _ => .inl (by simp)) harr⟩
  obtain ⟨e, a', w', hq, harr⟩ := key _ a0 F a w rfl h0 (fun _ h => h) hs
  exact ⟨e, a', w', hq, .of_steps (.one step_loop) harr⟩

theorem loopQ_normal {α : Type} (S : α → List (Nat × V)) (B : α → Int → Option Blk) (I : α → Prop) (μ : α → Nat) (n m : Nat) (K : Ex → St → Prop) (σ : St) : loopQ S B I μ n m K .normal σ = ∃ a, I a ∧ μ a < m ∧ Fit (S a) n (B a) σ := rfl
theorem loopQ_exit {α : Type} (S : α → List (Nat × V)) (B : α → Int → Option Blk) (I : α → Prop) (μ : α → Nat) (n m : Nat) (K : Ex → St → Prop) (i : Nat) (σ : St) : loopQ S B I μ n m K (.exit i) σ = K (.exit i) σ := rfl
theorem loopQ_ret {α : Type} (S : α → List (Nat × V)) (B : α → Int → Option Blk) (I : α → Prop) (μ : α → Nat) (n m : Nat) (K : Ex → St → Prop) (σ : St) : loopQ S B I μ n m K .ret σ = K .ret σ := rfl

section
variable {P : Program} {σ : St} {K : Ex → St → Prop}

theorem AW_seq_ret {c : Code} (h : K .ret σ) : AW P (.seq .ret c) K σ := AW_seq (AW_ret (by rw [seqK_ret]; exact h))

/-- What is left of a call that reads: the value r, frozen. -/
def ROk (bl : Int → Option Blk) (r : V) (v : V) (bl' : Int → Option Blk) : Prop := ∃ n, frz (dropB bl' bl) n v = some r ∧ Sub bl bl'

theorem ro_of2 {f : FuncId} {fn : Func} {c : Code} {xs : List V} {r : V} (hf : P.funcs[f]? = some fn) (hb : fn.body = some c) (hn : (fn.name == "runtime.NumGoroutine") = false) (hl : xs.length ≤ fn.ntmps)
    (h : ∀ bl, AW P c (retK P fn.results.toList (ROk bl r)) ⟨fn.ntmps, fun t => xs.getD t .junk, bl⟩) : RO P f xs r := ro_of hf hb hn hl h

/-- The end of a function that reads. -/
theorem retRO {rs : List ResultVar} {bl : Int → Option Blk} {r : V} (vs : List V) (n : Nat) (h : resV P σ rs = some vs) (hf : frz (dropB σ.bl bl) n (retV vs) = some r) (hs : Sub bl σ.bl) :
    retK P rs (ROk bl r) .ret σ := by rw [retK_ret]; exact ⟨vs, h, n, hf, hs⟩
/-- .. that tells a value of one cell and has made nothing. -/
theorem retRO0 {rs : List ResultVar} {bl : Int → Option Blk} {r : V} (h : resV P σ rs = some [r]) (hb : σ.bl = bl) (hf : frz (dropB bl bl) 0 r = some r) : retK P rs (ROk bl r) .ret σ :=
  retRO [r] 0 h (by rw [hb]; exact hf) (by rw [hb]; exact Sub.refl _)

end
attribute [simp] St.ev St.put seqK_normal seqK_exit seqK_ret blockK_normal blockK_exit blockK_ret loopK_normal loopK_exit loopK_ret ofValue ofCell retV resV rdP loadV pickV intV binV unV lenV nilV fldV idxV idsV partV fieldV extV cvtV callV frzL jn fillV splice
attribute [simp] upd_idem eqA eqV eq1 qval upd_apply hv loopQ_exit loopQ_ret
@[simp] theorem cells_junk  : V.cells .junk = [.junk] := rfl
@[simp] theorem one_junk  : V.one .junk = false := rfl
@[simp] theorem cells_bool (b : Bool) : V.cells (.bool b) = [.bool b] := rfl
@[simp] theorem one_bool (b : Bool) : V.one (.bool b) = true := rfl
@[simp] theorem cells_int (k : IntKind) (n : Int) : V.cells (.int k n) = [.int k n] := rfl
@[simp] theorem one_int (k : IntKind) (n : Int) : V.one (.int k n) = true := rfl
@[simp] theorem cells_str (s : ByteArray) : V.cells (.str s) = [.str s] := rfl
@[simp] theorem one_str (s : ByteArray) : V.one (.str s) = true := rfl
@[simp] theorem cells_nilp  : V.cells .nilp = [.nilp] := rfl
@[simp] theorem one_nilp  : V.one .nilp = true := rfl
@[simp] theorem cells_ptr (cs : List V) : V.cells (.ptr cs) = [.ptr cs] := rfl
@[simp] theorem one_ptr (cs : List V) : V.one (.ptr cs) = true := rfl
@[simp] theorem cells_nils  : V.cells .nils = [.nils] := rfl
@[simp] theorem one_nils  : V.one .nils = true := rfl
@[simp] theorem cells_sle  : V.cells .sle = [.sle] := rfl
@[simp] theorem one_sle  : V.one .sle = true := rfl
@[simp] theorem cells_sl (xs : List (List V)) : V.cells (.sl xs) = [.sl xs] := rfl
@[simp] theorem one_sl (xs : List (List V)) : V.one (.sl xs) = true := rfl
@[simp] theorem cells_loc (g : Int) (sz k j : Nat) : V.cells (.loc g sz k j) = [.loc g sz k j] := rfl
@[simp] theorem one_loc (g : Int) (sz k j : Nat) : V.one (.loc g sz k j) = true := rfl
@[simp] theorem cells_lsl (g : Int) (sz o n : Nat) : V.cells (.lsl g sz o n) = [.lsl g sz o n] := rfl
@[simp] theorem one_lsl (g : Int) (sz o n : Nat) : V.one (.lsl g sz o n) = true := rfl
@[simp] theorem cells_agg (cs : List V) : V.cells (.agg cs) = cs := rfl
@[simp] theorem one_agg (cs : List V) : V.one (.agg cs) = false := rfl
@[simp] theorem cells_tup (vs : List V) : V.cells (.tup vs) = [.tup vs] := rfl
@[simp] theorem one_tup (vs : List V) : V.one (.tup vs) = false := rfl
@[simp] theorem cells_fn (f : FuncId) (cap : List V) : V.cells (.fn f cap) = [.fn f cap] := rfl
@[simp] theorem one_fn (f : FuncId) (cap : List V) : V.one (.fn f cap) = true := rfl
end Go.Proofs.Ytmbcofnnibpbeaa.Vm

namespace Go.Proofs.Ytmbcofnnibpbeaa.Vm
open Go Go.Proofs
set_option linter.unusedSimpArgs false
set_option linter.unusedVariables false

def kindName (n : Int) : ByteArray := if n = 1 then { data := #[114, 111, 112, 101] } else if n = 2 then { data := #[115, 116, 114, 117, 116] } else if n = 3 then { data := #[98, 97, 114] } else { data := #[] }

end Go.Proofs.Ytmbcofnnibpbeaa.Vm

namespace Go.Proofs.Ytmbcofnnibpbeaa.Vm
open Go Go.Proofs
set_option linter.unusedSimpArgs false
set_option linter.unusedVariables false

theorem str_eq {a b : ByteArray} : a.toList = b.toList ↔ a = b := by
  refine ⟨fun h => ?_, fun h => by rw [h]⟩
  rw [ByteArray.toList_eq, ByteArray.toList_eq] at h
  exact ByteArray.ext (Array.toList_inj.1 h)

def charOk (i : Nat) (c : Nat) : Bool := (decide (97 ≤ c) && decide (c ≤ 122)) || (decide (i ≠ 0) && (decide (48 ≤ c) && decide (c ≤ 57)))
def isName (s : ByteArray) : Bool := decide (1 ≤ s.size) && decide (s.size ≤ 8) && decide (∀ i (h : i < s.size), charOk i s[i].toNat = true)

theorem isLetter_ro (c : Nat) : RO Try.prog 41 [.int .u8 c] (.bool (decide (97 ≤ c) && decide (c ≤ 122))) := by
  refine ro_of2 Try.func41 rfl rfl (by rw [Try.ntmps41]; simp) fun bl => ?_
  rw [Try.ntmps41, Try.results41]
  refine AW_run ?_
  simp
  refine AW_way [(0, .int .u8 c)] _ bl 2 (.bool (decide (97 ≤ c) && decide (c ≤ 122))) bl ⟨rfl, by simp, Sub.refl _⟩ rfl ?_ ?_
  · simp; grind
  simp
  exact retRO0 (by simp) rfl rfl

theorem isDigit_ro (c : Nat) : RO Try.prog 42 [.int .u8 c] (.bool (decide (48 ≤ c) && decide (c ≤ 57))) := by
  refine ro_of2 Try.func42 rfl rfl (by rw [Try.ntmps42]; simp) fun bl => ?_
  rw [Try.ntmps42, Try.results42]
  refine AW_run ?_
  simp
  refine AW_way [(0, .int .u8 c)] _ bl 2 (.bool (decide (48 ≤ c) && decide (c ≤ 57))) bl ⟨rfl, by simp, Sub.refl _⟩ rfl ?_ ?_
  · simp; grind
  simp
  exact retRO0 (by simp) rfl rfl

theorem isPlace_ro (n : Int) : RO Try.prog 35 [.int .i64 n] (.bool (decide (-50 ≤ n) && decide (n ≤ 50))) := by
  refine ro_of2 Try.func35 rfl rfl (by rw [Try.ntmps35]; simp) fun bl => ?_
  rw [Try.ntmps35, Try.results35]
  refine AW_run ?_
  simp
  refine AW_way [(0, .int .i64 n)] _ bl 2 (.bool (decide (-50 ≤ n) && decide (n ≤ 50))) bl ⟨rfl, by simp, Sub.refl _⟩ rfl ?_ ?_
  · simp; grind
  simp
  exact retRO0 (by simp) rfl rfl

theorem impl_IsName_ro (s : ByteArray) (hs : s.size ≤ 140737488351232) : RO Try.prog 34 [.str s] (.bool (isName s)) := by
  refine ro_of2 Try.func34 rfl rfl (by rw [Try.ntmps34]; simp) fun bl => ?_
  rw [Try.ntmps34, Try.results34]
  refine AW_run ?_
  simp
  refine AW_for (fun i : Nat => [(0, .str s), (5, .int .i64 s.size), (6, .int .i64 i)]) (fun _ => bl) (fun i => i ≤ s.size ∧ ∀ j (h : j < s.size), j < i → charOk j s[j].toNat = true) (fun i => s.size - i) _ 0 ⟨Nat.zero_le _, fun j h h0 => by omega⟩ ⟨rfl, by simp, Sub.refl _⟩ ?_
  intro i ⟨hi, hc⟩
  refine AW_run ?_
  simp
  refine ⟨fun h => ?_, fun h => ?_⟩
  · refine AW_way [(0, .str s), (5, .int .i64 s.size), (6, .int .i64 i), (3, .int .i64 i)] _ bl 24 (.bool (! charOk i s[i].toNat)) bl ⟨rfl, by simp, Sub.refl _⟩ rfl ?_ ?_
    · simp [h]
      refine callP_ro (isLetter_ro _) ?_
      simp [h, charOk]
      refine ⟨fun h1 => ⟨fun h2 => ⟨h1, .inl h2⟩, fun h2 => ?_⟩, by omega⟩
      refine callP_ro (isDigit_ro _) ?_
      simp
      grind
    simp
    refine ⟨fun h1 => ?_, fun h1 => ?_⟩
    · refine retRO0 (by simp [isName]; intro _ _; exact ⟨i, h, h1⟩) rfl rfl
    · simp (disch := omega) [i64_in, loopQ_normal]
      refine ⟨i + 1, ⟨by omega, fun j hj hji => ?_⟩, by omega, rfl, by simp, Sub.refl _⟩
      rcases Nat.lt_or_ge j i with hlt | hge
      · exact hc j hj hlt
      · obtain rfl : j = i := by omega
        exact h1
  · have hall : ∀ j (h : j < s.size), charOk j s[j].toNat = true := fun j hj => hc j hj (by omega)
    refine AW_way [(0, .str s)] _ bl 2 (.bool (isName s)) bl ⟨rfl, by simp, Sub.refl _⟩ rfl ?_ ?_
    · by_cases hz : s.size = 0
      · obtain rfl : s = ByteArray.empty := ByteArray.ext (Array.eq_empty_of_size_eq_zero hz)
        simp [isName]
      · have h1 : s ≠ ByteArray.empty := fun h => hz (by rw [h]; rfl)
        have h2 : s.toList ≠ [] := fun h => hz (by rw [ByteArray.toList_eq, ← List.length_eq_zero_iff, Array.length_toList] at h; exact h)
        simp [isName, hall, h1, h2]
        rw [Bool.eq_iff_iff]; simp; omega
    simp
    exact retRO0 (by simp) rfl rfl

/-! ### Joints -/
structure J where
  name : ByteArray
  x : Int
  y : Int
  fixed : Bool
  deriving DecidableEq
def J.c (j : J) : List V := [.str j.name, .int .i64 j.x, .int .i64 j.y, .bool j.fixed]
def J.fit (j : J) : Prop := j.name.size ≤ 140737488351232 ∧ (-9223372036854775808 ≤ j.x ∧ j.x ≤ 9223372036854775807) ∧ (-9223372036854775808 ≤ j.y ∧ j.y ≤ 9223372036854775807)
def J.ok (j : J) : Bool := isName j.name && (decide (-50 ≤ j.x) && decide (j.x ≤ 50)) && (decide (-50 ≤ j.y) && decide (j.y ≤ 50))

theorem impl_JointOk_ro (j : J) (hj : j.name.size ≤ 140737488351232) : RO Try.prog 25 [.agg j.c] (.bool j.ok) := by
  refine ro_of2 Try.func25 rfl rfl (by rw [Try.ntmps25]; simp) fun bl => ?_
  rw [Try.ntmps25, Try.results25]
  refine AW_run ?_
  simp [J.c]
  intro g hg0 hg
  refine AW_way [(1, .loc g 4 0 0)] _ (upd bl g (some ⟨4, [j.c]⟩)) 2 (.bool j.ok) (upd bl g (some ⟨4, [j.c]⟩)) ⟨rfl, by simp, Sub.refl _⟩ rfl ?_ ?_
  · simp [J.c]
    refine callP_ro (impl_IsName_ro _ hj) ?_
    simp
    refine ⟨fun h => ?_, fun h => ?_⟩
    · refine callP_ro (isPlace_ro _) ?_
      simp
      refine ⟨fun h1 h2 => ?_, fun h1 => ?_⟩
      · refine callP_ro (isPlace_ro _) ?_
        simp [J.ok, h, h1, h2]
      · simp [J.ok, h]
        grind
    · simp [J.ok, h]
  simp
  exact retRO [_] 0 rfl rfl ((Sub.refl bl).upd hg _)

end Go.Proofs.Ytmbcofnnibpbeaa.Vm

namespace Go.Proofs.Ytmbcofnnibpbeaa.Vm
open Go Go.Proofs
set_option linter.unusedSimpArgs false
set_option linter.unusedVariables false

/-- What is left of an allowance. -/
def less (left : Int) (n : Nat) : Int := if left - n < 0 then -1 else left - n

end Go.Proofs.Ytmbcofnnibpbeaa.Vm

namespace Go.Proofs.Ytmbcofnnibpbeaa.Vm
open Go Go.Proofs
set_option linter.unusedSimpArgs false
set_option linter.unusedVariables false

theorem mixedO : Try.prog.follows .mixedOrders = true := by kernel_rfl

/-- Numbers as the elements of a slice. -/
def iv (ns : List Int) : List (List V) := ns.map fun n => [.int .i64 n]
@[simp] theorem iv_length (ns : List Int) : (iv ns).length = ns.length := by simp [iv]
@[simp] theorem iv_get (ns : List Int) (i : Nat) (h : i < ns.length) : (iv ns)[i]? = some [.int .i64 ns[i]] := by simp [iv, h]

@[simp] theorem iv_getE (ns : List Int) (i : Nat) (h : i < (iv ns).length) : (iv ns)[i] = [.int .i64 (ns[i]'(by simpa using h))] := by simp [iv]

theorem iv_cl (ns : List Int) : (iv ns).all (fun e => e.all V.cl) = true := by simp [iv, V.cl]

end Go.Proofs.Ytmbcofnnibpbeaa.Vm

namespace Go.Proofs.Ytmbcofnnibpbeaa.Vm
open Go Go.Proofs
set_option linter.unusedSimpArgs false
set_option linter.unusedVariables false

structure Mb where
  a : Int
  b : Int
  kind : Int
  deriving DecidableEq
def Mb.c (m : Mb) : List V := [.int .i64 m.a, .int .i64 m.b, .int .i64 m.kind]
def jv (js : List J) : List (List V) := js.map J.c
def mv (ms : List Mb) : List (List V) := ms.map Mb.c
structure Str where
  js : List J
  ms : List Mb
  deriving DecidableEq
def Str.c (s : Str) : List V := [.sl (jv s.js), .sl (mv s.ms)]
@[simp] theorem jv_length (ns : List J) : (jv ns).length = ns.length := by simp [jv]
@[simp] theorem jv_getE (ns : List J) (i : Nat) (h : i < (jv ns).length) : (jv ns)[i] = (ns[i]'(by simpa using h)).c := by simp [jv]
@[simp] theorem mv_length (ns : List Mb) : (mv ns).length = ns.length := by simp [mv]
@[simp] theorem mv_getE (ns : List Mb) (i : Nat) (h : i < (mv ns).length) : (mv ns)[i] = (ns[i]'(by simpa using h)).c := by simp [mv]
theorem jv_cl (ns : List J) : (jv ns).all (fun e => e.all V.cl) = true := by simp [jv, J.c, V.cl]
theorem mv_cl (ns : List Mb) : (mv ns).all (fun e => e.all V.cl) = true := by simp [mv, Mb.c, V.cl]
@[simp] theorem J.c_length (j : J) : j.c.length = 4 := rfl
@[simp] theorem Mb.c_length (j : Mb) : j.c.length = 3 := rfl

end Go.Proofs.Ytmbcofnnibpbeaa.Vm

namespace Go.Proofs.Ytmbcofnnibpbeaa.Vm
open Go Go.Proofs
set_option linter.unusedSimpArgs false
set_option linter.unusedVariables false

theorem J.ext_iff' {a b : J} : a = b ↔ a.name = b.name ∧ a.x = b.x ∧ a.y = b.y ∧ a.fixed = b.fixed := by
  cases a; cases b; simp
theorem Mb.ext_iff' {a b : Mb} : a = b ↔ a.a = b.a ∧ a.b = b.b ∧ a.kind = b.kind := by
  cases a; cases b; simp

/-! ### Sizes: an allowance that is spent, -1 when it is overspent -/
theorem less_le {left : Int} {n : Nat} (h : -1 ≤ left ∧ left ≤ 1048576) : -1 ≤ less left n ∧ less left n ≤ 1048576 := by unfold less; split <;> omega

/-- What joints leave of an allowance, one after another; -1 at once when it is overspent. -/
def szJs : List J → Int → Int
  | [], left => left
  | j :: js, left => if less left j.name.size < 0 then -1 else szJs js (less left j.name.size)
def szJS (js : List J) (left : Int) : Int := if less left js.length < 0 then -1 else szJs js (less left js.length)

/-- What a structure leaves of an allowance. -/
def szStr (s : Str) (left : Int) : Int := if szJS s.js left < 0 then -1 else if less (szJS s.js left) s.ms.length < 0 then -1 else less (szJS s.js left) s.ms.length

theorem szJs_le : ∀ (js : List J) (left : Int), -1 ≤ left ∧ left ≤ 1048576 → -1 ≤ szJs js left ∧ szJs js left ≤ left
  | [], left, h => by simp [szJs]; omega
  | j :: js, left, h => by
    unfold szJs
    have := less_le (left := left) (n := j.name.size) h
    split
    · omega
    · have h2 := szJs_le js _ this
      have : less left j.name.size ≤ left := by unfold less at *; split <;> split at * <;> omega
      omega
theorem szJS_le (js : List J) (left : Int) (h : -1 ≤ left ∧ left ≤ 1048576) : -1 ≤ szJS js left ∧ szJS js left ≤ left ∧ (0 ≤ szJS js left → (js.length : Int) ≤ left) := by
  unfold szJS
  split
  · omega
  · rename_i hn
    have h1 := less_le (left := left) (n := js.length) h
    have h2 := szJs_le js _ h1
    have : less left js.length = left - js.length := by unfold less at *; split <;> split at * <;> omega
    omega

theorem szStr_le {s : Str} {left : Int} (hl : -1 ≤ left ∧ left ≤ 1048576) (h : 0 ≤ szStr s left) : (s.js.length : Int) ≤ left ∧ (s.ms.length : Int) ≤ left ∧ szStr s left ≤ left := by
  have hle := szJS_le s.js left hl
  unfold szStr at *
  split at h
  · omega
  · rename_i h1
    rw [if_neg h1]
    split at h
    · omega
    · rename_i h2
      rw [if_neg h2]
      unfold less at *
      split at h2
      · omega
      · rename_i h3
        rw [if_neg h3]
        omega

end Go.Proofs.Ytmbcofnnibpbeaa.Vm

namespace Go.Proofs.Ytmbcofnnibpbeaa.Vm
open Go Go.Proofs
set_option linter.unusedSimpArgs false
set_option linter.unusedVariables false

theorem str_beq (a b : ByteArray) : (a.toList == b.toList) = decide (a = b) := by
  rw [Bool.eq_iff_iff]; simp [str_eq]

/-- The first index at which p holds, else -1. -/
def ixf {α : Type} (p : α → Bool) (xs : List α) : Int := match xs.findIdx? p with | some i => i | none => -1
theorem ixf_here {α : Type} {p : α → Bool} {xs : List α} {i : Nat} (h : i < xs.length) (hb : ∀ j (hj : j < xs.length), j < i → p xs[j] = false) (hp : p xs[i] = true) : ixf p xs = i := by
  unfold ixf
  have : xs.findIdx? p = some i := by
    rw [List.findIdx?_eq_some_iff_getElem]
    exact ⟨h, hp, fun j hj => by simp [hb j (by omega) hj]⟩
  rw [this]
theorem ixf_none {α : Type} {p : α → Bool} {xs : List α} (hb : ∀ j (hj : j < xs.length), p xs[j] = false) : ixf p xs = -1 := by
  unfold ixf
  have : xs.findIdx? p = none := by
    rw [List.findIdx?_eq_none_iff]
    intro x hx
    obtain ⟨i, hi, rfl⟩ := List.mem_iff_getElem.1 hx
    exact hb i hi
  rw [this]

theorem IndexFunc_joints_ro (a : List J) (f : FuncId) (cap : List V) (p : J → Bool) (ha : a.length ≤ 140737488351232) (hf : ∀ j, j ∈ a → RO Try.prog f (.agg j.c :: cap) (.bool (p j))) :
    RO Try.prog 36 [.sl (jv a), .fn f cap] (.int .i64 (ixf p a)) := by
  refine ro_of2 Try.func36 rfl rfl (by rw [Try.ntmps36]; simp) fun bl => ?_
  rw [Try.ntmps36, Try.results36]
  refine AW_run ?_
  simp
  refine AW_for (fun i : Nat => [(0, .sl (jv a)), (1, .fn f cap), (7, .int .i64 a.length), (8, .int .i64 i)]) (fun _ => bl) (fun i => i ≤ a.length ∧ ∀ j (h1 : j < a.length), j < i → p a[j] = false) (fun i => a.length - i) _ 0 ⟨Nat.zero_le _, fun j _ h0 => by omega⟩ ⟨rfl, by simp, Sub.refl _⟩ ?_
  intro i ⟨hi, hc⟩
  refine AW_run ?_
  simp
  refine ⟨fun h1 => ?_, fun h1 => ?_⟩
  · simp [h1]
    refine callP_ro (hf _ (List.getElem_mem h1)) ?_
    simp
    refine ⟨fun h2 => ?_, fun h2 => ?_⟩
    · exact retRO0 (by simp [ixf_here h1 hc h2]) rfl rfl
    · simp (disch := omega) [i64_in, loopQ_normal]
      refine ⟨i + 1, ⟨by omega, fun j hj1 hji => ?_⟩, by omega, rfl, by simp, Sub.refl _⟩
      rcases Nat.lt_or_ge j i with hlt | hge
      · exact hc j hj1 hlt
      · obtain rfl : j = i := by omega
        exact h2
  · exact retRO0 (by simp [ixf_none fun j hj => hc j hj (by omega)]) rfl rfl

theorem JointNamed1_ro (j : J) (name : ByteArray) : RO Try.prog 37 [.agg j.c, .ptr [.str name]] (.bool (decide (j.name = name))) := by
  refine ro_of2 Try.func37 rfl rfl (by rw [Try.ntmps37]; simp) fun bl => ?_
  rw [Try.ntmps37, Try.results37]
  refine AW_run ?_
  simp [J.c]
  intro g hg0 hg
  exact retRO [_] 0 (by simp [str_beq]; rfl) rfl (by simp [hg])

theorem impl_JointNamed_ro (s : Str) (name : ByteArray) (hj : s.js.length ≤ 140737488351232) : RO Try.prog 26 [.agg s.c, .str name] (.int .i64 (ixf (fun j => decide (j.name = name)) s.js)) := by
  refine ro_of2 Try.func26 rfl rfl (by rw [Try.ntmps26]; simp) fun bl => ?_
  rw [Try.ntmps26, Try.results26]
  refine AW_run ?_
  simp [Str.c]
  intro g1 hg1 hb1 g2 hg2 h21 hb2
  simp [h21, Ne.symm h21]
  refine callP_borrow 2 (ys := [.sl (jv s.js), .fn 37 [.ptr [.str name]]]) ?_ (IndexFunc_joints_ro _ _ _ (fun j => decide (j.name = name)) hj fun j _ => JointNamed1_ro j name) rfl ?_
  · simp [frz, dropB, V.cl]
  simp
  exact retRO [_] 0 rfl rfl (by simp [hb1, hb2])

end Go.Proofs.Ytmbcofnnibpbeaa.Vm

namespace Go.Proofs.Ytmbcofnnibpbeaa.Vm
open Go Go.Proofs
set_option linter.unusedSimpArgs false
set_option linter.unusedVariables false

theorem beq_dec {α : Type} [DecidableEq α] (a b : α) : (a == b) = decide (a = b) := by rw [Bool.eq_iff_iff]; simp
theorem J.beq (a b : J) : (a.name.toList == b.name.toList && (a.x == b.x && (a.y == b.y && (a.fixed == b.fixed)))) = decide (a = b) := by
  rw [Bool.eq_iff_iff]; simp [J.ext_iff', str_eq]
theorem Mb.beq (a b : Mb) : (a.a == b.a && (a.b == b.b && (a.kind == b.kind))) = decide (a = b) := by
  rw [Bool.eq_iff_iff]; simp [Mb.ext_iff']

theorem Str.eq_iff {a b : Str} : a = b ↔ a.js = b.js ∧ a.ms = b.ms := by cases a; cases b; simp

end Go.Proofs.Ytmbcofnnibpbeaa.Vm

namespace Go.Proofs.Ytmbcofnnibpbeaa.Vm
open Go Go.Proofs
set_option linter.unusedSimpArgs false
set_option linter.unusedVariables false

theorem AW_way0 {P : Program} {id : Nat} {ops : Array Oper} {K : Ex → St → Prop} {σ : St} (l : List (Nat × V)) (n : Nat) (bl : Int → Option Blk) (t : Nat) (v : V) (hf : Fit l n bl σ) (hd : (l.all fun p => !(ops.toList.map (·.dst)).contains (some p.1)) = true)
    (h1 : OpsF P (ops.toList.map (·.dst)) ops.toList (fun σ' => σ'.sl t = v ∧ σ'.bl = bl) ⟨n, hv l, bl⟩) (h2 : K .normal ⟨n, hv ((t, v) :: l), bl⟩) : AW P (.region id ops false) K σ := AW_way l n bl t v bl hf hd h1 h2

instance : Inhabited J := ⟨⟨⟨#[]⟩, 0, 0, false⟩⟩
/-- The joint at an index. -/
def jat (js : List J) (n : Int) : J := js.getD n.toNat default
def mOk (js : List J) (m : Mb) : Bool :=
  (decide (0 ≤ m.a) && decide (m.a < js.length)) && (decide (0 ≤ m.b) && decide (m.b < js.length)) && (decide (1 ≤ m.kind) && decide (m.kind ≤ 3)) &&
  ((decide ((jat js m.a).x ≠ (jat js m.b).x) || decide ((jat js m.a).y ≠ (jat js m.b).y)) && !((jat js m.a).fixed && (jat js m.b).fixed))
def sOk (s : Str) : Bool := decide (s.js.length ≤ 6) && decide (s.ms.length ≤ 8) &&
  decide (∀ i (h : i < s.js.length), s.js[i].ok = true ∧ ixf (fun j => decide (j.name = s.js[i].name)) s.js = i) && s.ms.all (mOk s.js)

theorem jv_at {js : List J} {n : Int} (h0 : 0 ≤ n) (h1 : n < js.length) : (jv js)[n.toNat]? = some (jat js n).c := by
  have : n.toNat < js.length := by omega
  simp [jv, jat, this]

theorem memberOk_ro (s : Str) (m : Mb) (hj : s.js.length ≤ 140737488351232) : RO Try.prog 29 [.ptr s.c, .agg m.c] (.bool (mOk s.js m)) := by
  refine ro_of2 Try.func29 rfl rfl (by rw [Try.ntmps29]; simp) fun bl => ?_
  rw [Try.ntmps29, Try.results29]
  refine AW_run ?_
  simp [Mb.c, Str.c]
  intro g hg0 hg
  refine AW_way [(0, .ptr s.c), (3, .loc g 3 0 0), (5, .int .i64 s.js.length)] _ (upd bl g (some ⟨3, [m.c]⟩)) 42 (.bool (! ((decide (0 ≤ m.a) && decide (m.a < s.js.length)) && (decide (0 ≤ m.b) && decide (m.b < s.js.length)) && (decide (1 ≤ m.kind) && decide (m.kind ≤ 3))))) (upd bl g (some ⟨3, [m.c]⟩)) ⟨rfl, by simp [Mb.c, Str.c], sub_eq (by simp [Mb.c])⟩ rfl ?_ ?_
  · simp [Mb.c]
    refine ⟨fun h => by omega, fun h1 => ⟨fun h => by omega, fun h2 => ⟨fun h => by omega, fun h3 => ⟨fun h => by omega, fun h4 => ⟨fun h => by omega, fun h5 => ?_⟩⟩⟩⟩⟩
    rw [Bool.eq_iff_iff]; simp; omega
  simp
  refine ⟨fun h => ?_, fun h1 h2 h3 h4 h5 h6 => ?_⟩
  · refine retRO [_] 0 rfl ?_ (by simp [hg])
    simp [frz, mOk]
    intro h1 h2 h3 h4 h5 h6
    omega
  · refine AW_mixed mixedO [0, 1, 2, 3, 4, 5, 6, 7, 8, 9, 10, 11, 12, 13, 14, 15] 4 (by kernel_rfl) ?_
    simp [Str.c, Mb.c, h1, h3, jv_at h1 h2, jv_at h3 h4, J.c]
    refine DAny_two (i := 16) (j := 17) (by kernel_rfl) rfl rfl rfl rfl ?_ ?_
    · simp
      intro g1 hg1 h1g hb1
      refine ⟨by simp [hg, hb1, h1g], DAny_one (i := 17) (by kernel_rfl) rfl rfl ?_⟩
      simp
      intro g2 hg2 h21 h2g hb2
      refine ⟨by simp [hg, hb1, h1g, h21, h2g, hb2], DAny_one (i := 18) (by kernel_rfl) rfl rfl ?_⟩
      simp [h1g, h21, h2g, Ne.symm h1g, Ne.symm h21, Ne.symm h2g]
      refine ⟨by simp [hg, hb1, h1g, h21, h2g, hb2], DAny_one (i := 19) (by kernel_rfl) rfl rfl ?_⟩
      simp [h1g, h21, h2g, Ne.symm h1g, Ne.symm h21, Ne.symm h2g]
      refine ⟨by simp [hg, hb1, h1g, h21, h2g, hb2], DAny_done (by kernel_rfl) ?_⟩
      simp [h1g, h21, h2g, Ne.symm h1g, Ne.symm h21, Ne.symm h2g]
      refine AW_way0 [(6, .loc g1 4 0 0), (7, .loc g2 4 0 0)] _ _ 4 (.bool (mOk s.js m)) ⟨rfl, by simp, Sub.refl _⟩ rfl ?_ ?_
      · simp [h1g, h21, h2g, Ne.symm h1g, Ne.symm h21, Ne.symm h2g, mOk, h1, h2, h3, h4, h5, h6]
        grind
      simp
      exact retRO [_] 0 rfl rfl (by simp [hg, hb1, hb2])
    · simp
      intro g2 hg2 h2g hb2
      refine ⟨by simp [hg, hb2, h2g], DAny_one (i := 16) (by kernel_rfl) rfl rfl ?_⟩
      simp
      intro g1 hg1 h12 h1g hb1
      have h21 := Ne.symm h12
      refine ⟨by simp [hg, hb1, h1g, h21, h2g, hb2], DAny_one (i := 18) (by kernel_rfl) rfl rfl ?_⟩
      simp [h1g, h12, h21, h2g, Ne.symm h1g, Ne.symm h2g]
      refine ⟨by simp [hg, hb1, h1g, h21, h2g, hb2], DAny_one (i := 19) (by kernel_rfl) rfl rfl ?_⟩
      simp [h1g, h12, h21, h2g, Ne.symm h1g, Ne.symm h2g]
      refine ⟨by simp [hg, hb1, h1g, h21, h2g, hb2], DAny_done (by kernel_rfl) ?_⟩
      simp [h1g, h12, h21, h2g, Ne.symm h1g, Ne.symm h2g]
      refine AW_way0 [(6, .loc g1 4 0 0), (7, .loc g2 4 0 0)] _ _ 4 (.bool (mOk s.js m)) ⟨rfl, by simp, Sub.refl _⟩ rfl ?_ ?_
      · simp [h1g, h12, h21, h2g, Ne.symm h1g, Ne.symm h2g, mOk, h1, h2, h3, h4, h5, h6]
        grind
      simp
      exact retRO [_] 0 rfl rfl (by simp [hg, hb1, hb2])

end Go.Proofs.Ytmbcofnnibpbeaa.Vm

namespace Go.Proofs.Ytmbcofnnibpbeaa.Vm
open Go Go.Proofs
set_option linter.unusedSimpArgs false
set_option linter.unusedVariables false

theorem IndexFunc_members_ro (a : List Mb) (f : FuncId) (cap : List V) (p : Mb → Bool) (ha : a.length ≤ 140737488351232) (hf : ∀ j, j ∈ a → RO Try.prog f (.agg j.c :: cap) (.bool (p j))) :
    RO Try.prog 38 [.sl (mv a), .fn f cap] (.int .i64 (ixf p a)) := by
  refine ro_of2 Try.func38 rfl rfl (by rw [Try.ntmps38]; simp) fun bl => ?_
  rw [Try.ntmps38, Try.results38]
  refine AW_run ?_
  simp
  refine AW_for (fun i : Nat => [(0, .sl (mv a)), (1, .fn f cap), (7, .int .i64 a.length), (8, .int .i64 i)]) (fun _ => bl) (fun i => i ≤ a.length ∧ ∀ j (h1 : j < a.length), j < i → p a[j] = false) (fun i => a.length - i) _ 0 ⟨Nat.zero_le _, fun j _ h0 => by omega⟩ ⟨rfl, by simp, Sub.refl _⟩ ?_
  intro i ⟨hi, hc⟩
  refine AW_run ?_
  simp
  refine ⟨fun h1 => ?_, fun h1 => ?_⟩
  · simp [h1]
    refine callP_ro (hf _ (List.getElem_mem h1)) ?_
    simp
    refine ⟨fun h2 => ?_, fun h2 => ?_⟩
    · exact retRO0 (by simp [ixf_here h1 hc h2]) rfl rfl
    · simp (disch := omega) [i64_in, loopQ_normal]
      refine ⟨i + 1, ⟨by omega, fun j hj1 hji => ?_⟩, by omega, rfl, by simp, Sub.refl _⟩
      rcases Nat.lt_or_ge j i with hlt | hge
      · exact hc j hj1 hlt
      · obtain rfl : j = i := by omega
        exact h2
  · exact retRO0 (by simp [ixf_none fun j hj => hc j hj (by omega)]) rfl rfl

theorem StructureOk1_ro (s : Str) (m : Mb) (hj : s.js.length ≤ 140737488351232) : RO Try.prog 28 [.agg m.c, .ptr s.c] (.bool (!mOk s.js m)) := by
  refine ro_of2 Try.func28 rfl rfl (by rw [Try.ntmps28]; simp) fun bl => ?_
  rw [Try.ntmps28, Try.results28]
  refine AW_run ?_
  simp [Mb.c]
  intro g hg0 hg
  refine callP_ro (memberOk_ro s m hj) ?_
  simp
  exact retRO [_] 0 rfl rfl (by simp [hg])

theorem ixf_lt {α : Type} (p : α → Bool) (xs : List α) : (decide (0 ≤ ixf p xs)) = xs.any p := by
  unfold ixf
  cases h : xs.findIdx? p with
  | none =>
    rw [List.findIdx?_eq_none_iff] at h
    have : xs.any p = false := by rw [List.any_eq_false]; intro x hx; simp [h x hx]
    simp [this]
  | some i =>
    rw [List.findIdx?_eq_some_iff_getElem] at h
    obtain ⟨h1, h2, _⟩ := h
    have : xs.any p = true := List.any_eq_true.2 ⟨xs[i], List.getElem_mem h1, h2⟩
    rw [this]; simp

theorem ContainsFunc_members_ro (a : List Mb) (f : FuncId) (cap : List V) (p : Mb → Bool) (ha : a.length ≤ 140737488351232) (hf : ∀ j, j ∈ a → RO Try.prog f (.agg j.c :: cap) (.bool (p j))) :
    RO Try.prog 27 [.sl (mv a), .fn f cap] (.bool (a.any p)) := by
  refine ro_of2 Try.func27 rfl rfl (by rw [Try.ntmps27]; simp) fun bl => ?_
  rw [Try.ntmps27, Try.results27]
  refine AW_run ?_
  simp
  refine callP_ro (IndexFunc_members_ro a f cap p ha hf) ?_
  simp
  exact retRO0 (by simp [ixf_lt]) rfl rfl

/-- The joint at i is valid and the first of its name. -/
def jOk (js : List J) (i : Nat) : Bool := if h : i < js.length then js[i].ok && decide (ixf (fun j => decide (j.name = js[i].name)) js = i) else false
theorem sOk_eq (s : Str) : sOk s = (decide (s.js.length ≤ 6) && decide (s.ms.length ≤ 8) && decide (∀ i, i < s.js.length → jOk s.js i = true) && s.ms.all (mOk s.js)) := by
  unfold sOk
  congr 2
  rw [Bool.eq_iff_iff]
  simp only [decide_eq_true_eq]
  constructor
  · intro h i hi; simp only [jOk, dif_pos hi, Bool.and_eq_true, decide_eq_true_eq]; exact h i hi
  · intro h i hi; have := h i hi; simp only [jOk, dif_pos hi, Bool.and_eq_true, decide_eq_true_eq] at this; exact this

theorem impl_StructureOk_ro (s : Str) (hj : s.js.length ≤ 140737488351232) (hm : s.ms.length ≤ 140737488351232) (hn : ∀ j, j ∈ s.js → j.name.size ≤ 140737488351232) : RO Try.prog 17 [.agg s.c] (.bool (sOk s)) := by
  refine ro_of2 Try.func17 rfl rfl (by rw [Try.ntmps17]; simp) fun bl => ?_
  rw [Try.ntmps17, Try.results17]
  refine AW_run ?_
  simp [Str.c]
  intro g hg0 hg
  refine AW_way [(1, .loc g 2 0 0)] _ (upd bl g (some ⟨2, [s.c]⟩)) 14 (.bool (! (decide (s.js.length ≤ 6) && decide (s.ms.length ≤ 8)))) (upd bl g (some ⟨2, [s.c]⟩)) ⟨rfl, by simp, sub_eq (by simp [Str.c])⟩ rfl ?_ ?_
  · simp [Str.c]
    refine ⟨fun h => .inl (by omega), fun h => ?_⟩
    rw [Bool.eq_iff_iff]; simp; omega
  simp [Str.c]
  refine ⟨fun h => ?_, fun hl1 hl2 => ?_⟩
  · refine retRO [_] 0 rfl ?_ (by simp [hg])
    simp [frz, sOk_eq]; omega
  refine AW_for (fun i : Nat => [(1, .loc g 2 0 0), (16, .sl (jv s.js)), (17, .int .i64 s.js.length), (18, .int .i64 i)]) (fun _ => upd bl g (some ⟨2, [s.c]⟩)) (fun i => i ≤ s.js.length ∧ ∀ j, j < i → jOk s.js j = true) (fun i => s.js.length - i) _ 0 ⟨Nat.zero_le _, fun j h0 => by omega⟩ ⟨rfl, by simp, sub_eq (by simp [Str.c])⟩ ?_
  intro i ⟨hi, hc⟩
  refine AW_run ?_
  simp
  refine ⟨fun h1 => ?_, fun h1 => ?_⟩
  · simp [h1, J.c]
    intro g2 hg2 h2g hb2
    refine AW_way [(1, .loc g 2 0 0), (3, .int .i64 i), (4, .loc g2 4 0 0), (16, .sl (jv s.js)), (17, .int .i64 s.js.length), (18, .int .i64 i)] _ (upd (upd bl g (some ⟨2, [s.c]⟩)) g2 (some ⟨4, [s.js[i].c]⟩)) 33 (.bool (!jOk s.js i)) (upd (upd bl g (some ⟨2, [s.c]⟩)) g2 (some ⟨4, [s.js[i].c]⟩)) ⟨rfl, by simp, sub_eq (by simp [J.c])⟩ rfl ?_ ?_
    · simp [J.c, h2g, Ne.symm h2g]
      refine callP_ro (impl_JointOk_ro s.js[i] (hn _ (List.getElem_mem h1))) ?_
      simp [h2g, Ne.symm h2g, Str.c]
      refine ⟨fun h => by simp [jOk, h1, h], fun h => ?_⟩
      refine callP_ro (impl_JointNamed_ro s _ hj) ?_
      simp [jOk, h1, h]
      rw [Bool.eq_iff_iff]; simp
    simp
    refine ⟨fun h3 => ?_, fun h3 => ?_⟩
    · refine retRO [_] 0 rfl ?_ (by simp [hg, hb2])
      have : ¬ ∀ i, i < s.js.length → jOk s.js i = true := fun hh => by rw [hh i h1] at h3; cases h3
      simp [frz, sOk_eq, this]
    · simp (disch := omega) [i64_in, loopQ_normal]
      refine ⟨i + 1, ⟨by omega, fun j hji => ?_⟩, by omega, rfl, by simp, by simp [h2g, hb2, hg]⟩
      rcases Nat.lt_or_ge j i with hlt | hge
      · exact hc j hlt
      · obtain rfl : j = i := by omega
        exact h3
  · have hall : ∀ i, i < s.js.length → jOk s.js i = true := fun j hj => hc j (by omega)
    simp [Str.c]
    refine callP_borrow 2 (ys := [.sl (mv s.ms), .fn 28 [.ptr s.c]]) ?_ (ContainsFunc_members_ro s.ms _ _ (fun m => !mOk s.js m) hm fun m _ => StructureOk1_ro s m hj) rfl ?_
    · simp [frz, dropB, V.cl, Str.c]
    simp
    have hd : decide (∀ i, i < s.js.length → jOk s.js i = true) = true := decide_eq_true hall
    have hs : sOk s = !s.ms.any fun m => !mOk s.js m := by
      rw [sOk_eq]
      simp only [hl1, hl2, hd, decide_true, Bool.true_and]
      rw [Bool.eq_iff_iff]; simp
    exact retRO [_] 0 rfl (by rw [hs]; rfl) (by simp [hg])

end Go.Proofs.Ytmbcofnnibpbeaa.Vm

namespace Go.Proofs.Ytmbcofnnibpbeaa.Vm
open Go Go.Proofs
set_option linter.unusedSimpArgs false
set_option linter.unusedVariables false

end Go.Proofs.Ytmbcofnnibpbeaa.Vm

namespace Go.Proofs.Ytmbcofnnibpbeaa.Vm
open Go Go.Proofs
set_option linter.unusedSimpArgs false
set_option linter.unusedVariables false

end Go.Proofs.Ytmbcofnnibpbeaa.Vm

namespace Go.Proofs.Ytmbcofnnibpbeaa.Vm
open Go Go.Proofs
set_option linter.unusedSimpArgs false
set_option linter.unusedVariables false

theorem IndexFunc_ints_ro (a : List Int) (f : FuncId) (cap : List V) (p : Int → Bool) (ha : a.length ≤ 140737488351232) (hf : ∀ j, j ∈ a → RO Try.prog f (V.int .i64 j :: cap) (.bool (p j))) :
    RO Try.prog 39 [.sl (iv a), .fn f cap] (.int .i64 (ixf p a)) := by
  refine ro_of2 Try.func39 rfl rfl (by rw [Try.ntmps39]; simp) fun bl => ?_
  rw [Try.ntmps39, Try.results39]
  refine AW_run ?_
  simp
  refine AW_for (fun i : Nat => [(0, .sl (iv a)), (1, .fn f cap), (7, .int .i64 a.length), (8, .int .i64 i)]) (fun _ => bl) (fun i => i ≤ a.length ∧ ∀ j (h1 : j < a.length), j < i → p a[j] = false) (fun i => a.length - i) _ 0 ⟨Nat.zero_le _, fun j _ h0 => by omega⟩ ⟨rfl, by simp, Sub.refl _⟩ ?_
  intro i ⟨hi, hc⟩
  refine AW_run ?_
  simp
  refine ⟨fun h1 => ?_, fun h1 => ?_⟩
  · simp [h1]
    refine callP_ro (hf _ (List.getElem_mem h1)) ?_
    simp
    refine ⟨fun h2 => ?_, fun h2 => ?_⟩
    · exact retRO0 (by simp [ixf_here h1 hc h2]) rfl rfl
    · simp (disch := omega) [i64_in, loopQ_normal]
      refine ⟨i + 1, ⟨by omega, fun j hj1 hji => ?_⟩, by omega, rfl, by simp, Sub.refl _⟩
      rcases Nat.lt_or_ge j i with hlt | hge
      · exact hc j hj1 hlt
      · obtain rfl : j = i := by omega
        exact h2
  · exact retRO0 (by simp [ixf_none fun j hj => hc j hj (by omega)]) rfl rfl

theorem ContainsFunc_ints_ro (a : List Int) (f : FuncId) (cap : List V) (p : Int → Bool) (ha : a.length ≤ 140737488351232) (hf : ∀ j, j ∈ a → RO Try.prog f (V.int .i64 j :: cap) (.bool (p j))) :
    RO Try.prog 30 [.sl (iv a), .fn f cap] (.bool (a.any p)) := by
  refine ro_of2 Try.func30 rfl rfl (by rw [Try.ntmps30]; simp) fun bl => ?_
  rw [Try.ntmps30, Try.results30]
  refine AW_run ?_
  simp
  refine callP_ro (IndexFunc_ints_ro a f cap p ha hf) ?_
  simp
  exact retRO0 (by simp [ixf_lt]) rfl rfl

def forceOk (n : Int) : Bool := decide (-100 ≤ n) && decide (n ≤ 100)
def fitsL (js : List J) (l : List Int) : Bool := decide (l.length = 2 * js.length) && l.all forceOk
def lOk (s : Str) (l : List Int) : Bool := sOk s && fitsL s.js l

theorem isForce_ro (n : Int) : RO Try.prog 21 [.int .i64 n] (.bool (forceOk n)) := by
  refine ro_of2 Try.func21 rfl rfl (by rw [Try.ntmps21]; simp) fun bl => ?_
  rw [Try.ntmps21, Try.results21]
  refine AW_run ?_
  simp
  refine AW_way [(0, .int .i64 n)] _ bl 2 (.bool (forceOk n)) bl ⟨rfl, by simp, Sub.refl _⟩ rfl ?_ ?_
  · simp [forceOk]; grind
  simp
  exact retRO0 (by simp) rfl rfl

theorem fitsLoad1_ro (n : Int) : RO Try.prog 31 [.int .i64 n] (.bool (!forceOk n)) := by
  refine ro_of2 Try.func31 rfl rfl (by rw [Try.ntmps31]; simp) fun bl => ?_
  rw [Try.ntmps31, Try.results31]
  refine AW_run ?_
  simp
  refine callP_ro (isForce_ro n) ?_
  simp
  exact retRO0 (by simp) rfl rfl

theorem fitsLoad_ro (s : Str) (l : List Int) (hj : s.js.length ≤ 140737488351232) (hl : l.length ≤ 140737488351232) : RO Try.prog 18 [.ptr s.c, .sl (iv l)] (.bool (fitsL s.js l)) := by
  refine ro_of2 Try.func18 rfl rfl (by rw [Try.ntmps18]; simp) fun bl => ?_
  rw [Try.ntmps18, Try.results18]
  refine AW_run ?_
  simp
  refine AW_way [(0, .ptr s.c), (1, .sl (iv l))] _ bl 4 (.bool (fitsL s.js l)) bl ⟨rfl, by simp, Sub.refl _⟩ rfl ?_ ?_
  · simp [Str.c]
    simp (disch := omega) [i64_in]
    refine ⟨fun h => ?_, fun h => ?_⟩
    · refine callP_ro (ContainsFunc_ints_ro l _ [] (fun n => !forceOk n) hl fun n _ => fitsLoad1_ro n) ?_
      simp
      have : l.length = 2 * s.js.length := by omega
      simp [fitsL, this]
      rw [Bool.eq_iff_iff]; simp
    · have : ¬ l.length = 2 * s.js.length := by omega
      simp [fitsL, this]
  simp
  exact retRO0 (by simp) rfl rfl

theorem impl_LoadOk_ro (s : Str) (l : List Int) (hj : s.js.length ≤ 140737488351232) (hm : s.ms.length ≤ 140737488351232) (hn : ∀ j, j ∈ s.js → j.name.size ≤ 140737488351232) (hl : l.length ≤ 140737488351232) : RO Try.prog 19 [.agg s.c, .sl (iv l)] (.bool (lOk s l)) := by
  refine ro_of2 Try.func19 rfl rfl (by rw [Try.ntmps19]; simp) fun bl => ?_
  rw [Try.ntmps19, Try.results19]
  refine AW_run ?_
  simp [Str.c]
  intro g hg0 hg
  refine AW_way0 [(1, .sl (iv l)), (2, .loc g 2 0 0)] _ _ 4 (.bool (lOk s l)) ⟨rfl, by simp, Sub.refl _⟩ rfl ?_ ?_
  · simp
    refine callP_ro (impl_StructureOk_ro s hj hm hn) ?_
    simp
    refine ⟨fun h => ?_, fun h => ?_⟩
    · refine callP_borrow 2 (ys := [.ptr s.c, .sl (iv l)]) ?_ (fitsLoad_ro s l hj hl) rfl ?_
      · simp [frz, dropB, V.cl, Str.c]
      simp [lOk, h]
    · simp [lOk, h]
  simp
  exact retRO [_] 0 rfl rfl (by simp [hg])

end Go.Proofs.Ytmbcofnnibpbeaa.Vm

namespace Go.Proofs.Ytmbcofnnibpbeaa.Vm
open Go Go.Proofs
set_option linter.unusedSimpArgs false
set_option linter.unusedVariables false

/-- What a valid structure is known for. -/
structure SOk (s : Str) : Prop where
  nj : s.js.length ≤ 6
  nm : s.ms.length ≤ 8
  pl : ∀ i, i < s.js.length → (-50 ≤ (s.js.getD i default).x ∧ (s.js.getD i default).x ≤ 50) ∧ (-50 ≤ (s.js.getD i default).y ∧ (s.js.getD i default).y ≤ 50)
  ix : ∀ m, m ∈ s.ms → (0 ≤ m.a ∧ m.a < s.js.length) ∧ (0 ≤ m.b ∧ m.b < s.js.length)
  kd : ∀ m, m ∈ s.ms → 1 ≤ m.kind ∧ m.kind ≤ 3

theorem sOk_of {s : Str} (h : sOk s = true) : SOk s := by
  unfold sOk at h
  simp only [Bool.and_eq_true, decide_eq_true_eq] at h
  obtain ⟨⟨⟨h1, h2⟩, h3⟩, h4⟩ := h
  refine ⟨h1, h2, fun i hi => ?_, fun m hm => ?_, fun m hm => ?_⟩
  · have := (h3 i hi).1
    simp [J.ok] at this
    simp [hi]
    omega
  · have := List.all_eq_true.1 h4 m hm
    simp [mOk] at this
    omega
  · have := List.all_eq_true.1 h4 m hm
    simp [mOk] at this
    omega

theorem SOk.at {s : Str} (h : SOk s) {n : Int} (h0 : 0 ≤ n) (h1 : n < s.js.length) : (-50 ≤ (jat s.js n).x ∧ (jat s.js n).x ≤ 50) ∧ (-50 ≤ (jat s.js n).y ∧ (jat s.js n).y ≤ 50) := h.pl n.toNat (by omega)

instance : Inhabited Mb := ⟨⟨0, 0, 0⟩⟩
/-- From joint A to joint B of a member. -/
def vx (s : Str) (m : Mb) : Int := (jat s.js m.b).x - (jat s.js m.a).x
def vy (s : Str) (m : Mb) : Int := (jat s.js m.b).y - (jat s.js m.a).y
def mat (s : Str) (k : Int) : Mb := s.ms.getD k.toNat default
theorem mat_mem {s : Str} {k : Int} (h0 : 0 ≤ k) (h1 : k < s.ms.length) : mat s k ∈ s.ms := by
  have : k.toNat < s.ms.length := by omega
  simp [mat, this]
theorem mv_at {s : Str} {k : Int} (h0 : 0 ≤ k) (h1 : k < s.ms.length) : (mv s.ms)[k.toNat]? = some (mat s k).c := by
  have : k.toNat < s.ms.length := by omega
  simp [mv, mat, this]

def vecX (s : Str) (k : Int) : Int := if (decide (0 ≤ k) && decide (k < s.ms.length) && sOk s) = true then vx s (mat s k) else 0
def vecY (s : Str) (k : Int) : Int := if (decide (0 ≤ k) && decide (k < s.ms.length) && sOk s) = true then vy s (mat s k) else 0

/-- What a member adds to the force on joint j. -/
def eqX (s : Str) (j : Int) (m : Mb) : Int := if j = m.a then vx s m else if j = m.b then -vx s m else 0
def eqY (s : Str) (j : Int) (m : Mb) : Int := if j = m.a then vy s m else if j = m.b then -vy s m else 0

end Go.Proofs.Ytmbcofnnibpbeaa.Vm
