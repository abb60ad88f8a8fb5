/- Closed facts on the types of this translation, printed by types.py. -/
import Derived.Test.YtpkphjoobeacfaaVmC
import Derived.Test.YtpkphjoobeacfaaProg
import Derived.KernelRfl
namespace Go.Proofs.Ytpkphjoobeacfaa.Vm
open Go Go.Proofs

@[simp] theorem ty2_csz : csz Try.prog 2 = some 1 := by kernel_rfl
@[simp] theorem ty2_bsz : bsz Try.prog 2 = 8 := by kernel_rfl
@[simp] theorem ty2_agg : aggT Try.prog 2 = some false := by kernel_rfl
@[simp] theorem ty2_zero : zeroC Try.prog 2 = some [.int .i64 0] := by kernel_rfl
@[simp] theorem ty2_int : isInt Try.prog 2 = some .i64 := by kernel_rfl
@[simp] theorem ty3_csz : csz Try.prog 3 = some 1 := by kernel_rfl
@[simp] theorem ty3_bsz : bsz Try.prog 3 = 8 := by kernel_rfl
@[simp] theorem ty3_agg : aggT Try.prog 3 = some false := by kernel_rfl
@[simp] theorem ty3_zero : zeroC Try.prog 3 = some [.int .i64 0] := by kernel_rfl
@[simp] theorem ty3_int : isInt Try.prog 3 = some .i64 := by kernel_rfl
@[simp] theorem ty4_csz : csz Try.prog 4 = some 1 := by kernel_rfl
@[simp] theorem ty4_bsz : bsz Try.prog 4 = 1 := by kernel_rfl
@[simp] theorem ty4_agg : aggT Try.prog 4 = some false := by kernel_rfl
@[simp] theorem ty4_zero : zeroC Try.prog 4 = some [.bool false] := by kernel_rfl
@[simp] theorem ty5_csz : csz Try.prog 5 = some 1 := by kernel_rfl
@[simp] theorem ty5_bsz : bsz Try.prog 5 = 1 := by kernel_rfl
@[simp] theorem ty5_agg : aggT Try.prog 5 = some false := by kernel_rfl
@[simp] theorem ty5_zero : zeroC Try.prog 5 = some [.int .u8 0] := by kernel_rfl
@[simp] theorem ty5_int : isInt Try.prog 5 = some .u8 := by kernel_rfl
@[simp] theorem ty6_csz : csz Try.prog 6 = some 1 := by kernel_rfl
@[simp] theorem ty6_bsz : bsz Try.prog 6 = 1 := by kernel_rfl
@[simp] theorem ty6_agg : aggT Try.prog 6 = some false := by kernel_rfl
@[simp] theorem ty6_zero : zeroC Try.prog 6 = some [.int .u8 0] := by kernel_rfl
@[simp] theorem ty6_int : isInt Try.prog 6 = some .u8 := by kernel_rfl
@[simp] theorem ty7_csz : csz Try.prog 7 = some 4 := by kernel_rfl
@[simp] theorem ty7_bsz : bsz Try.prog 7 = 24 := by kernel_rfl
@[simp] theorem ty7_agg : aggT Try.prog 7 = some true := by kernel_rfl
@[simp] theorem ty7_zero : zeroC Try.prog 7 = some [.int .i64 0, .int .i64 0, .bool false, .int .u8 0] := by kernel_rfl
@[simp] theorem ty7_f0 : fPl Try.prog 7 0 = some (0, 1) := by kernel_rfl
@[simp] theorem ty7_t0 : fTy Try.prog 7 0 = some 2 := by kernel_rfl
@[simp] theorem ty7_f1 : fPl Try.prog 7 1 = some (1, 1) := by kernel_rfl
@[simp] theorem ty7_t1 : fTy Try.prog 7 1 = some 3 := by kernel_rfl
@[simp] theorem ty7_f2 : fPl Try.prog 7 2 = some (2, 1) := by kernel_rfl
@[simp] theorem ty7_t2 : fTy Try.prog 7 2 = some 4 := by kernel_rfl
@[simp] theorem ty7_f3 : fPl Try.prog 7 3 = some (3, 1) := by kernel_rfl
@[simp] theorem ty7_t3 : fTy Try.prog 7 3 = some 6 := by kernel_rfl
@[simp] theorem ty7_ok : okF Try.prog 7 = true := by kernel_rfl
@[simp] theorem ty8_csz : csz Try.prog 8 = some 4 := by kernel_rfl
@[simp] theorem ty8_bsz : bsz Try.prog 8 = 24 := by kernel_rfl
@[simp] theorem ty8_agg : aggT Try.prog 8 = some true := by kernel_rfl
@[simp] theorem ty8_zero : zeroC Try.prog 8 = some [.int .i64 0, .int .i64 0, .bool false, .int .u8 0] := by kernel_rfl
@[simp] theorem ty8_f0 : fPl Try.prog 8 0 = some (0, 1) := by kernel_rfl
@[simp] theorem ty8_t0 : fTy Try.prog 8 0 = some 2 := by kernel_rfl
@[simp] theorem ty8_f1 : fPl Try.prog 8 1 = some (1, 1) := by kernel_rfl
@[simp] theorem ty8_t1 : fTy Try.prog 8 1 = some 3 := by kernel_rfl
@[simp] theorem ty8_f2 : fPl Try.prog 8 2 = some (2, 1) := by kernel_rfl
@[simp] theorem ty8_t2 : fTy Try.prog 8 2 = some 4 := by kernel_rfl
@[simp] theorem ty8_f3 : fPl Try.prog 8 3 = some (3, 1) := by kernel_rfl
@[simp] theorem ty8_t3 : fTy Try.prog 8 3 = some 6 := by kernel_rfl
@[simp] theorem ty8_ok : okF Try.prog 8 = true := by kernel_rfl
@[simp] theorem ty9_csz : csz Try.prog 9 = some 1 := by kernel_rfl
@[simp] theorem ty9_bsz : bsz Try.prog 9 = 16 := by kernel_rfl
@[simp] theorem ty9_agg : aggT Try.prog 9 = some false := by kernel_rfl
@[simp] theorem ty9_zero : zeroC Try.prog 9 = some [.str ⟨#[]⟩] := by kernel_rfl
@[simp] theorem ty9_str : isStr Try.prog 9 = true := by kernel_rfl
@[simp] theorem ty10_csz : csz Try.prog 10 = some 1 := by kernel_rfl
@[simp] theorem ty10_bsz : bsz Try.prog 10 = 16 := by kernel_rfl
@[simp] theorem ty10_agg : aggT Try.prog 10 = some false := by kernel_rfl
@[simp] theorem ty10_zero : zeroC Try.prog 10 = some [.str ⟨#[]⟩] := by kernel_rfl
@[simp] theorem ty10_str : isStr Try.prog 10 = true := by kernel_rfl
@[simp] theorem ty11_csz : csz Try.prog 11 = some 1 := by kernel_rfl
@[simp] theorem ty11_bsz : bsz Try.prog 11 = 16 := by kernel_rfl
@[simp] theorem ty11_agg : aggT Try.prog 11 = some false := by kernel_rfl
@[simp] theorem ty11_zero : zeroC Try.prog 11 = some [.str ⟨#[]⟩] := by kernel_rfl
@[simp] theorem ty11_str : isStr Try.prog 11 = true := by kernel_rfl
@[simp] theorem ty12_csz : csz Try.prog 12 = some 1 := by kernel_rfl
@[simp] theorem ty12_bsz : bsz Try.prog 12 = 8 := by kernel_rfl
@[simp] theorem ty12_agg : aggT Try.prog 12 = some false := by kernel_rfl
@[simp] theorem ty12_zero : zeroC Try.prog 12 = some [.int .u64 0] := by kernel_rfl
@[simp] theorem ty12_int : isInt Try.prog 12 = some .u64 := by kernel_rfl
@[simp] theorem ty13_csz : csz Try.prog 13 = some 2 := by kernel_rfl
@[simp] theorem ty13_bsz : bsz Try.prog 13 = 24 := by kernel_rfl
@[simp] theorem ty13_agg : aggT Try.prog 13 = some true := by kernel_rfl
@[simp] theorem ty13_zero : zeroC Try.prog 13 = some [.str ⟨#[]⟩, .int .u64 0] := by kernel_rfl
@[simp] theorem ty13_f0 : fPl Try.prog 13 0 = some (0, 1) := by kernel_rfl
@[simp] theorem ty13_t0 : fTy Try.prog 13 0 = some 9 := by kernel_rfl
@[simp] theorem ty13_f1 : fPl Try.prog 13 1 = some (1, 1) := by kernel_rfl
@[simp] theorem ty13_t1 : fTy Try.prog 13 1 = some 12 := by kernel_rfl
@[simp] theorem ty13_ok : okF Try.prog 13 = true := by kernel_rfl
@[simp] theorem ty14_csz : csz Try.prog 14 = some 2 := by kernel_rfl
@[simp] theorem ty14_bsz : bsz Try.prog 14 = 24 := by kernel_rfl
@[simp] theorem ty14_agg : aggT Try.prog 14 = some true := by kernel_rfl
@[simp] theorem ty14_zero : zeroC Try.prog 14 = some [.str ⟨#[]⟩, .int .u64 0] := by kernel_rfl
@[simp] theorem ty14_f0 : fPl Try.prog 14 0 = some (0, 1) := by kernel_rfl
@[simp] theorem ty14_t0 : fTy Try.prog 14 0 = some 9 := by kernel_rfl
@[simp] theorem ty14_f1 : fPl Try.prog 14 1 = some (1, 1) := by kernel_rfl
@[simp] theorem ty14_t1 : fTy Try.prog 14 1 = some 12 := by kernel_rfl
@[simp] theorem ty14_ok : okF Try.prog 14 = true := by kernel_rfl
@[simp] theorem ty15_csz : csz Try.prog 15 = some 1 := by kernel_rfl
@[simp] theorem ty15_bsz : bsz Try.prog 15 = 8 := by kernel_rfl
@[simp] theorem ty15_agg : aggT Try.prog 15 = some false := by kernel_rfl
@[simp] theorem ty15_zero : zeroC Try.prog 15 = some [.nilp] := by kernel_rfl
@[simp] theorem ty15_ptr : isPtr Try.prog 15 = true := by kernel_rfl
@[simp] theorem ty16_csz : csz Try.prog 16 = some 1 := by kernel_rfl
@[simp] theorem ty16_bsz : bsz Try.prog 16 = 8 := by kernel_rfl
@[simp] theorem ty16_agg : aggT Try.prog 16 = some false := by kernel_rfl
@[simp] theorem ty16_zero : zeroC Try.prog 16 = some [.nilp] := by kernel_rfl
@[simp] theorem ty16_ptr : isPtr Try.prog 16 = true := by kernel_rfl
@[simp] theorem ty17_csz : csz Try.prog 17 = some 1 := by kernel_rfl
@[simp] theorem ty17_bsz : bsz Try.prog 17 = 8 := by kernel_rfl
@[simp] theorem ty17_agg : aggT Try.prog 17 = some false := by kernel_rfl
@[simp] theorem ty17_zero : zeroC Try.prog 17 = some [.nilp] := by kernel_rfl
@[simp] theorem ty17_ptr : isPtr Try.prog 17 = true := by kernel_rfl
@[simp] theorem ty18_csz : csz Try.prog 18 = some 1 := by kernel_rfl
@[simp] theorem ty18_bsz : bsz Try.prog 18 = 8 := by kernel_rfl
@[simp] theorem ty18_agg : aggT Try.prog 18 = some true := by kernel_rfl
@[simp] theorem ty18_zero : zeroC Try.prog 18 = some [.nilp] := by kernel_rfl
@[simp] theorem ty18_f0 : fPl Try.prog 18 0 = some (0, 1) := by kernel_rfl
@[simp] theorem ty18_t0 : fTy Try.prog 18 0 = some 17 := by kernel_rfl
@[simp] theorem ty18_ok : okF Try.prog 18 = true := by kernel_rfl
@[simp] theorem ty19_csz : csz Try.prog 19 = some 1 := by kernel_rfl
@[simp] theorem ty19_bsz : bsz Try.prog 19 = 8 := by kernel_rfl
@[simp] theorem ty19_agg : aggT Try.prog 19 = some true := by kernel_rfl
@[simp] theorem ty19_zero : zeroC Try.prog 19 = some [.nilp] := by kernel_rfl
@[simp] theorem ty19_f0 : fPl Try.prog 19 0 = some (0, 1) := by kernel_rfl
@[simp] theorem ty19_t0 : fTy Try.prog 19 0 = some 17 := by kernel_rfl
@[simp] theorem ty19_ok : okF Try.prog 19 = true := by kernel_rfl
@[simp] theorem ty21_csz : csz Try.prog 21 = some 1 := by kernel_rfl
@[simp] theorem ty21_bsz : bsz Try.prog 21 = 4 := by kernel_rfl
@[simp] theorem ty21_agg : aggT Try.prog 21 = some false := by kernel_rfl
@[simp] theorem ty21_zero : zeroC Try.prog 21 = some [.int .i32 0] := by kernel_rfl
@[simp] theorem ty21_int : isInt Try.prog 21 = some .i32 := by kernel_rfl
@[simp] theorem ty24_csz : csz Try.prog 24 = some 4 := by kernel_rfl
@[simp] theorem ty24_bsz : bsz Try.prog 24 = 40 := by kernel_rfl
@[simp] theorem ty24_agg : aggT Try.prog 24 = some true := by kernel_rfl
@[simp] theorem ty24_zero : zeroC Try.prog 24 = some [.str ⟨#[]⟩, .int .i64 0, .int .i64 0, .bool false] := by kernel_rfl
@[simp] theorem ty24_f0 : fPl Try.prog 24 0 = some (0, 1) := by kernel_rfl
@[simp] theorem ty24_t0 : fTy Try.prog 24 0 = some 9 := by kernel_rfl
@[simp] theorem ty24_f1 : fPl Try.prog 24 1 = some (1, 1) := by kernel_rfl
@[simp] theorem ty24_t1 : fTy Try.prog 24 1 = some 3 := by kernel_rfl
@[simp] theorem ty24_f2 : fPl Try.prog 24 2 = some (2, 1) := by kernel_rfl
@[simp] theorem ty24_t2 : fTy Try.prog 24 2 = some 3 := by kernel_rfl
@[simp] theorem ty24_f3 : fPl Try.prog 24 3 = some (3, 1) := by kernel_rfl
@[simp] theorem ty24_t3 : fTy Try.prog 24 3 = some 4 := by kernel_rfl
@[simp] theorem ty24_ok : okF Try.prog 24 = true := by kernel_rfl
@[simp] theorem ty25_csz : csz Try.prog 25 = some 4 := by kernel_rfl
@[simp] theorem ty25_bsz : bsz Try.prog 25 = 40 := by kernel_rfl
@[simp] theorem ty25_agg : aggT Try.prog 25 = some true := by kernel_rfl
@[simp] theorem ty25_zero : zeroC Try.prog 25 = some [.str ⟨#[]⟩, .int .i64 0, .int .i64 0, .bool false] := by kernel_rfl
@[simp] theorem ty25_f0 : fPl Try.prog 25 0 = some (0, 1) := by kernel_rfl
@[simp] theorem ty25_t0 : fTy Try.prog 25 0 = some 9 := by kernel_rfl
@[simp] theorem ty25_f1 : fPl Try.prog 25 1 = some (1, 1) := by kernel_rfl
@[simp] theorem ty25_t1 : fTy Try.prog 25 1 = some 3 := by kernel_rfl
@[simp] theorem ty25_f2 : fPl Try.prog 25 2 = some (2, 1) := by kernel_rfl
@[simp] theorem ty25_t2 : fTy Try.prog 25 2 = some 3 := by kernel_rfl
@[simp] theorem ty25_f3 : fPl Try.prog 25 3 = some (3, 1) := by kernel_rfl
@[simp] theorem ty25_t3 : fTy Try.prog 25 3 = some 4 := by kernel_rfl
@[simp] theorem ty25_eq : eqFs Try.prog 25 = some [(0, 2), (1, 1), (2, 1), (3, 0)] := by kernel_rfl
@[simp] theorem ty25_ok : okF Try.prog 25 = true := by kernel_rfl
@[simp] theorem ty28_csz : csz Try.prog 28 = some 4 := by kernel_rfl
@[simp] theorem ty28_bsz : bsz Try.prog 28 = 40 := by kernel_rfl
@[simp] theorem ty28_agg : aggT Try.prog 28 = some true := by kernel_rfl
@[simp] theorem ty28_zero : zeroC Try.prog 28 = some [.str ⟨#[]⟩, .int .i64 0, .int .i64 0, .bool false] := by kernel_rfl
@[simp] theorem ty28_f0 : fPl Try.prog 28 0 = some (0, 1) := by kernel_rfl
@[simp] theorem ty28_t0 : fTy Try.prog 28 0 = some 9 := by kernel_rfl
@[simp] theorem ty28_f1 : fPl Try.prog 28 1 = some (1, 1) := by kernel_rfl
@[simp] theorem ty28_t1 : fTy Try.prog 28 1 = some 3 := by kernel_rfl
@[simp] theorem ty28_f2 : fPl Try.prog 28 2 = some (2, 1) := by kernel_rfl
@[simp] theorem ty28_t2 : fTy Try.prog 28 2 = some 3 := by kernel_rfl
@[simp] theorem ty28_f3 : fPl Try.prog 28 3 = some (3, 1) := by kernel_rfl
@[simp] theorem ty28_t3 : fTy Try.prog 28 3 = some 4 := by kernel_rfl
@[simp] theorem ty28_eq : eqFs Try.prog 28 = some [(0, 2), (1, 1), (2, 1), (3, 0)] := by kernel_rfl
@[simp] theorem ty28_ok : okF Try.prog 28 = true := by kernel_rfl
@[simp] theorem ty31_csz : csz Try.prog 31 = some 1 := by kernel_rfl
@[simp] theorem ty31_bsz : bsz Try.prog 31 = 24 := by kernel_rfl
@[simp] theorem ty31_agg : aggT Try.prog 31 = some false := by kernel_rfl
@[simp] theorem ty31_zero : zeroC Try.prog 31 = some [.nils] := by kernel_rfl
@[simp] theorem ty31_sl : slE Try.prog 31 = some 3 := by kernel_rfl
@[simp] theorem ty34_csz : csz Try.prog 34 = some 1 := by kernel_rfl
@[simp] theorem ty34_bsz : bsz Try.prog 34 = 24 := by kernel_rfl
@[simp] theorem ty34_agg : aggT Try.prog 34 = some false := by kernel_rfl
@[simp] theorem ty34_zero : zeroC Try.prog 34 = some [.nils] := by kernel_rfl
@[simp] theorem ty34_sl : slE Try.prog 34 = some 25 := by kernel_rfl
@[simp] theorem ty35_csz : csz Try.prog 35 = some 1 := by kernel_rfl
@[simp] theorem ty35_bsz : bsz Try.prog 35 = 24 := by kernel_rfl
@[simp] theorem ty35_agg : aggT Try.prog 35 = some false := by kernel_rfl
@[simp] theorem ty35_zero : zeroC Try.prog 35 = some [.nils] := by kernel_rfl
@[simp] theorem ty35_sl : slE Try.prog 35 = some 115 := by kernel_rfl
@[simp] theorem ty36_csz : csz Try.prog 36 = some 2 := by kernel_rfl
@[simp] theorem ty36_bsz : bsz Try.prog 36 = 48 := by kernel_rfl
@[simp] theorem ty36_agg : aggT Try.prog 36 = some true := by kernel_rfl
@[simp] theorem ty36_zero : zeroC Try.prog 36 = some [.nils, .nils] := by kernel_rfl
@[simp] theorem ty36_f0 : fPl Try.prog 36 0 = some (0, 1) := by kernel_rfl
@[simp] theorem ty36_t0 : fTy Try.prog 36 0 = some 34 := by kernel_rfl
@[simp] theorem ty36_f1 : fPl Try.prog 36 1 = some (1, 1) := by kernel_rfl
@[simp] theorem ty36_t1 : fTy Try.prog 36 1 = some 35 := by kernel_rfl
@[simp] theorem ty36_ok : okF Try.prog 36 = true := by kernel_rfl
@[simp] theorem ty37_csz : csz Try.prog 37 = some 2 := by kernel_rfl
@[simp] theorem ty37_bsz : bsz Try.prog 37 = 48 := by kernel_rfl
@[simp] theorem ty37_agg : aggT Try.prog 37 = some true := by kernel_rfl
@[simp] theorem ty37_zero : zeroC Try.prog 37 = some [.nils, .nils] := by kernel_rfl
@[simp] theorem ty37_f0 : fPl Try.prog 37 0 = some (0, 1) := by kernel_rfl
@[simp] theorem ty37_t0 : fTy Try.prog 37 0 = some 34 := by kernel_rfl
@[simp] theorem ty37_f1 : fPl Try.prog 37 1 = some (1, 1) := by kernel_rfl
@[simp] theorem ty37_t1 : fTy Try.prog 37 1 = some 35 := by kernel_rfl
@[simp] theorem ty37_ok : okF Try.prog 37 = true := by kernel_rfl
@[simp] theorem ty40_csz : csz Try.prog 40 = some 1 := by kernel_rfl
@[simp] theorem ty40_bsz : bsz Try.prog 40 = 24 := by kernel_rfl
@[simp] theorem ty40_agg : aggT Try.prog 40 = some false := by kernel_rfl
@[simp] theorem ty40_zero : zeroC Try.prog 40 = some [.nils] := by kernel_rfl
@[simp] theorem ty40_sl : slE Try.prog 40 = some 28 := by kernel_rfl
@[simp] theorem ty41_csz : csz Try.prog 41 = some 1 := by kernel_rfl
@[simp] theorem ty41_bsz : bsz Try.prog 41 = 24 := by kernel_rfl
@[simp] theorem ty41_agg : aggT Try.prog 41 = some false := by kernel_rfl
@[simp] theorem ty41_zero : zeroC Try.prog 41 = some [.nils] := by kernel_rfl
@[simp] theorem ty41_sl : slE Try.prog 41 = some 94 := by kernel_rfl
@[simp] theorem ty42_csz : csz Try.prog 42 = some 2 := by kernel_rfl
@[simp] theorem ty42_bsz : bsz Try.prog 42 = 48 := by kernel_rfl
@[simp] theorem ty42_agg : aggT Try.prog 42 = some true := by kernel_rfl
@[simp] theorem ty42_zero : zeroC Try.prog 42 = some [.nils, .nils] := by kernel_rfl
@[simp] theorem ty42_f0 : fPl Try.prog 42 0 = some (0, 1) := by kernel_rfl
@[simp] theorem ty42_t0 : fTy Try.prog 42 0 = some 40 := by kernel_rfl
@[simp] theorem ty42_f1 : fPl Try.prog 42 1 = some (1, 1) := by kernel_rfl
@[simp] theorem ty42_t1 : fTy Try.prog 42 1 = some 41 := by kernel_rfl
@[simp] theorem ty42_ok : okF Try.prog 42 = true := by kernel_rfl
@[simp] theorem ty43_csz : csz Try.prog 43 = some 2 := by kernel_rfl
@[simp] theorem ty43_bsz : bsz Try.prog 43 = 48 := by kernel_rfl
@[simp] theorem ty43_agg : aggT Try.prog 43 = some true := by kernel_rfl
@[simp] theorem ty43_zero : zeroC Try.prog 43 = some [.nils, .nils] := by kernel_rfl
@[simp] theorem ty43_f0 : fPl Try.prog 43 0 = some (0, 1) := by kernel_rfl
@[simp] theorem ty43_t0 : fTy Try.prog 43 0 = some 40 := by kernel_rfl
@[simp] theorem ty43_f1 : fPl Try.prog 43 1 = some (1, 1) := by kernel_rfl
@[simp] theorem ty43_t1 : fTy Try.prog 43 1 = some 41 := by kernel_rfl
@[simp] theorem ty43_ok : okF Try.prog 43 = true := by kernel_rfl
@[simp] theorem ty48_csz : csz Try.prog 48 = some 1 := by kernel_rfl
@[simp] theorem ty48_bsz : bsz Try.prog 48 = 24 := by kernel_rfl
@[simp] theorem ty48_agg : aggT Try.prog 48 = some false := by kernel_rfl
@[simp] theorem ty48_zero : zeroC Try.prog 48 = some [.nils] := by kernel_rfl
@[simp] theorem ty48_sl : slE Try.prog 48 = some 5 := by kernel_rfl
@[simp] theorem ty55_csz : csz Try.prog 55 = some 1 := by kernel_rfl
@[simp] theorem ty55_bsz : bsz Try.prog 55 = 24 := by kernel_rfl
@[simp] theorem ty55_agg : aggT Try.prog 55 = some false := by kernel_rfl
@[simp] theorem ty55_zero : zeroC Try.prog 55 = some [.nils] := by kernel_rfl
@[simp] theorem ty55_sl : slE Try.prog 55 = some 31 := by kernel_rfl
@[simp] theorem ty78_csz : csz Try.prog 78 = some 5 := by kernel_rfl
@[simp] theorem ty78_bsz : bsz Try.prog 78 = 88 := by kernel_rfl
@[simp] theorem ty78_agg : aggT Try.prog 78 = some true := by kernel_rfl
@[simp] theorem ty78_zero : zeroC Try.prog 78 = some [.int .i64 0, .int .i64 0, .nils, .nils, .nils] := by kernel_rfl
@[simp] theorem ty78_f0 : fPl Try.prog 78 0 = some (0, 1) := by kernel_rfl
@[simp] theorem ty78_t0 : fTy Try.prog 78 0 = some 3 := by kernel_rfl
@[simp] theorem ty78_f1 : fPl Try.prog 78 1 = some (1, 1) := by kernel_rfl
@[simp] theorem ty78_t1 : fTy Try.prog 78 1 = some 3 := by kernel_rfl
@[simp] theorem ty78_f2 : fPl Try.prog 78 2 = some (2, 1) := by kernel_rfl
@[simp] theorem ty78_t2 : fTy Try.prog 78 2 = some 31 := by kernel_rfl
@[simp] theorem ty78_f3 : fPl Try.prog 78 3 = some (3, 1) := by kernel_rfl
@[simp] theorem ty78_t3 : fTy Try.prog 78 3 = some 31 := by kernel_rfl
@[simp] theorem ty78_f4 : fPl Try.prog 78 4 = some (4, 1) := by kernel_rfl
@[simp] theorem ty78_t4 : fTy Try.prog 78 4 = some 31 := by kernel_rfl
@[simp] theorem ty78_ok : okF Try.prog 78 = true := by kernel_rfl
@[simp] theorem ty79_csz : csz Try.prog 79 = some 5 := by kernel_rfl
@[simp] theorem ty79_bsz : bsz Try.prog 79 = 88 := by kernel_rfl
@[simp] theorem ty79_agg : aggT Try.prog 79 = some true := by kernel_rfl
@[simp] theorem ty79_zero : zeroC Try.prog 79 = some [.int .i64 0, .int .i64 0, .nils, .nils, .nils] := by kernel_rfl
@[simp] theorem ty79_f0 : fPl Try.prog 79 0 = some (0, 1) := by kernel_rfl
@[simp] theorem ty79_t0 : fTy Try.prog 79 0 = some 3 := by kernel_rfl
@[simp] theorem ty79_f1 : fPl Try.prog 79 1 = some (1, 1) := by kernel_rfl
@[simp] theorem ty79_t1 : fTy Try.prog 79 1 = some 3 := by kernel_rfl
@[simp] theorem ty79_f2 : fPl Try.prog 79 2 = some (2, 1) := by kernel_rfl
@[simp] theorem ty79_t2 : fTy Try.prog 79 2 = some 31 := by kernel_rfl
@[simp] theorem ty79_f3 : fPl Try.prog 79 3 = some (3, 1) := by kernel_rfl
@[simp] theorem ty79_t3 : fTy Try.prog 79 3 = some 31 := by kernel_rfl
@[simp] theorem ty79_f4 : fPl Try.prog 79 4 = some (4, 1) := by kernel_rfl
@[simp] theorem ty79_t4 : fTy Try.prog 79 4 = some 31 := by kernel_rfl
@[simp] theorem ty79_ok : okF Try.prog 79 = true := by kernel_rfl
@[simp] theorem ty84_csz : csz Try.prog 84 = some 1 := by kernel_rfl
@[simp] theorem ty84_bsz : bsz Try.prog 84 = 24 := by kernel_rfl
@[simp] theorem ty84_agg : aggT Try.prog 84 = some false := by kernel_rfl
@[simp] theorem ty84_zero : zeroC Try.prog 84 = some [.nils] := by kernel_rfl
@[simp] theorem ty84_sl : slE Try.prog 84 = some 9 := by kernel_rfl
@[simp] theorem ty93_csz : csz Try.prog 93 = some 3 := by kernel_rfl
@[simp] theorem ty93_bsz : bsz Try.prog 93 = 24 := by kernel_rfl
@[simp] theorem ty93_agg : aggT Try.prog 93 = some true := by kernel_rfl
@[simp] theorem ty93_zero : zeroC Try.prog 93 = some [.int .i64 0, .int .i64 0, .int .i64 0] := by kernel_rfl
@[simp] theorem ty93_f0 : fPl Try.prog 93 0 = some (0, 1) := by kernel_rfl
@[simp] theorem ty93_t0 : fTy Try.prog 93 0 = some 3 := by kernel_rfl
@[simp] theorem ty93_f1 : fPl Try.prog 93 1 = some (1, 1) := by kernel_rfl
@[simp] theorem ty93_t1 : fTy Try.prog 93 1 = some 3 := by kernel_rfl
@[simp] theorem ty93_f2 : fPl Try.prog 93 2 = some (2, 1) := by kernel_rfl
@[simp] theorem ty93_t2 : fTy Try.prog 93 2 = some 3 := by kernel_rfl
@[simp] theorem ty93_ok : okF Try.prog 93 = true := by kernel_rfl
@[simp] theorem ty94_csz : csz Try.prog 94 = some 3 := by kernel_rfl
@[simp] theorem ty94_bsz : bsz Try.prog 94 = 24 := by kernel_rfl
@[simp] theorem ty94_agg : aggT Try.prog 94 = some true := by kernel_rfl
@[simp] theorem ty94_zero : zeroC Try.prog 94 = some [.int .i64 0, .int .i64 0, .int .i64 0] := by kernel_rfl
@[simp] theorem ty94_f0 : fPl Try.prog 94 0 = some (0, 1) := by kernel_rfl
@[simp] theorem ty94_t0 : fTy Try.prog 94 0 = some 3 := by kernel_rfl
@[simp] theorem ty94_f1 : fPl Try.prog 94 1 = some (1, 1) := by kernel_rfl
@[simp] theorem ty94_t1 : fTy Try.prog 94 1 = some 3 := by kernel_rfl
@[simp] theorem ty94_f2 : fPl Try.prog 94 2 = some (2, 1) := by kernel_rfl
@[simp] theorem ty94_t2 : fTy Try.prog 94 2 = some 3 := by kernel_rfl
@[simp] theorem ty94_eq : eqFs Try.prog 94 = some [(0, 1), (1, 1), (2, 1)] := by kernel_rfl
@[simp] theorem ty94_ok : okF Try.prog 94 = true := by kernel_rfl
@[simp] theorem ty96_csz : csz Try.prog 96 = some 1 := by kernel_rfl
@[simp] theorem ty96_bsz : bsz Try.prog 96 = 8 := by kernel_rfl
@[simp] theorem ty96_agg : aggT Try.prog 96 = some false := by kernel_rfl
@[simp] theorem ty96_zero : zeroC Try.prog 96 = some [.nilp] := by kernel_rfl
@[simp] theorem ty96_ptr : isPtr Try.prog 96 = true := by kernel_rfl
@[simp] theorem ty102_csz : csz Try.prog 102 = some 1 := by kernel_rfl
@[simp] theorem ty102_bsz : bsz Try.prog 102 = 8 := by kernel_rfl
@[simp] theorem ty102_agg : aggT Try.prog 102 = some false := by kernel_rfl
@[simp] theorem ty102_zero : zeroC Try.prog 102 = some [.nilp] := by kernel_rfl
@[simp] theorem ty102_ptr : isPtr Try.prog 102 = true := by kernel_rfl
@[simp] theorem ty115_csz : csz Try.prog 115 = some 3 := by kernel_rfl
@[simp] theorem ty115_bsz : bsz Try.prog 115 = 24 := by kernel_rfl
@[simp] theorem ty115_agg : aggT Try.prog 115 = some true := by kernel_rfl
@[simp] theorem ty115_zero : zeroC Try.prog 115 = some [.int .i64 0, .int .i64 0, .int .i64 0] := by kernel_rfl
@[simp] theorem ty115_f0 : fPl Try.prog 115 0 = some (0, 1) := by kernel_rfl
@[simp] theorem ty115_t0 : fTy Try.prog 115 0 = some 3 := by kernel_rfl
@[simp] theorem ty115_f1 : fPl Try.prog 115 1 = some (1, 1) := by kernel_rfl
@[simp] theorem ty115_t1 : fTy Try.prog 115 1 = some 3 := by kernel_rfl
@[simp] theorem ty115_f2 : fPl Try.prog 115 2 = some (2, 1) := by kernel_rfl
@[simp] theorem ty115_t2 : fTy Try.prog 115 2 = some 3 := by kernel_rfl
@[simp] theorem ty115_eq : eqFs Try.prog 115 = some [(0, 1), (1, 1), (2, 1)] := by kernel_rfl
@[simp] theorem ty115_ok : okF Try.prog 115 = true := by kernel_rfl
@[simp] theorem ty119_csz : csz Try.prog 119 = some 3 := by kernel_rfl
@[simp] theorem ty119_bsz : bsz Try.prog 119 = 40 := by kernel_rfl
@[simp] theorem ty119_agg : aggT Try.prog 119 = some true := by kernel_rfl
@[simp] theorem ty119_zero : zeroC Try.prog 119 = some [.nils, .int .i64 0, .int .i64 0] := by kernel_rfl
@[simp] theorem ty119_f0 : fPl Try.prog 119 0 = some (0, 1) := by kernel_rfl
@[simp] theorem ty119_t0 : fTy Try.prog 119 0 = some 48 := by kernel_rfl
@[simp] theorem ty119_f1 : fPl Try.prog 119 1 = some (1, 1) := by kernel_rfl
@[simp] theorem ty119_t1 : fTy Try.prog 119 1 = some 3 := by kernel_rfl
@[simp] theorem ty119_f2 : fPl Try.prog 119 2 = some (2, 1) := by kernel_rfl
@[simp] theorem ty119_t2 : fTy Try.prog 119 2 = some 3 := by kernel_rfl
@[simp] theorem ty119_ok : okF Try.prog 119 = true := by kernel_rfl
@[simp] theorem ty120_csz : csz Try.prog 120 = some 3 := by kernel_rfl
@[simp] theorem ty120_bsz : bsz Try.prog 120 = 40 := by kernel_rfl
@[simp] theorem ty120_agg : aggT Try.prog 120 = some true := by kernel_rfl
@[simp] theorem ty120_zero : zeroC Try.prog 120 = some [.nils, .int .i64 0, .int .i64 0] := by kernel_rfl
@[simp] theorem ty120_f0 : fPl Try.prog 120 0 = some (0, 1) := by kernel_rfl
@[simp] theorem ty120_t0 : fTy Try.prog 120 0 = some 48 := by kernel_rfl
@[simp] theorem ty120_f1 : fPl Try.prog 120 1 = some (1, 1) := by kernel_rfl
@[simp] theorem ty120_t1 : fTy Try.prog 120 1 = some 3 := by kernel_rfl
@[simp] theorem ty120_f2 : fPl Try.prog 120 2 = some (2, 1) := by kernel_rfl
@[simp] theorem ty120_t2 : fTy Try.prog 120 2 = some 3 := by kernel_rfl
@[simp] theorem ty120_ok : okF Try.prog 120 = true := by kernel_rfl
@[simp] theorem ty123_csz : csz Try.prog 123 = some 1 := by kernel_rfl
@[simp] theorem ty123_bsz : bsz Try.prog 123 = 8 := by kernel_rfl
@[simp] theorem ty123_agg : aggT Try.prog 123 = some false := by kernel_rfl
@[simp] theorem ty123_zero : zeroC Try.prog 123 = some [.int .u64 0] := by kernel_rfl
@[simp] theorem ty123_int : isInt Try.prog 123 = some .u64 := by kernel_rfl
@[simp] theorem ty130_csz : csz Try.prog 130 = some 1 := by kernel_rfl
@[simp] theorem ty130_bsz : bsz Try.prog 130 = 24 := by kernel_rfl
@[simp] theorem ty130_agg : aggT Try.prog 130 = some false := by kernel_rfl
@[simp] theorem ty130_zero : zeroC Try.prog 130 = some [.nils] := by kernel_rfl
@[simp] theorem ty130_sl : slE Try.prog 130 = some 133 := by kernel_rfl
@[simp] theorem ty132_csz : csz Try.prog 132 = some 2 := by kernel_rfl
@[simp] theorem ty132_bsz : bsz Try.prog 132 = 16 := by kernel_rfl
@[simp] theorem ty132_agg : aggT Try.prog 132 = some true := by kernel_rfl
@[simp] theorem ty132_zero : zeroC Try.prog 132 = some [.int .i64 0, .int .i64 0] := by kernel_rfl
@[simp] theorem ty132_f0 : fPl Try.prog 132 0 = some (0, 1) := by kernel_rfl
@[simp] theorem ty132_t0 : fTy Try.prog 132 0 = some 3 := by kernel_rfl
@[simp] theorem ty132_f1 : fPl Try.prog 132 1 = some (1, 1) := by kernel_rfl
@[simp] theorem ty132_t1 : fTy Try.prog 132 1 = some 3 := by kernel_rfl
@[simp] theorem ty132_eq : eqFs Try.prog 132 = some [(0, 1), (1, 1)] := by kernel_rfl
@[simp] theorem ty132_ok : okF Try.prog 132 = true := by kernel_rfl
@[simp] theorem ty133_csz : csz Try.prog 133 = some 2 := by kernel_rfl
@[simp] theorem ty133_bsz : bsz Try.prog 133 = 16 := by kernel_rfl
@[simp] theorem ty133_agg : aggT Try.prog 133 = some true := by kernel_rfl
@[simp] theorem ty133_zero : zeroC Try.prog 133 = some [.int .i64 0, .int .i64 0] := by kernel_rfl
@[simp] theorem ty133_f0 : fPl Try.prog 133 0 = some (0, 1) := by kernel_rfl
@[simp] theorem ty133_t0 : fTy Try.prog 133 0 = some 3 := by kernel_rfl
@[simp] theorem ty133_f1 : fPl Try.prog 133 1 = some (1, 1) := by kernel_rfl
@[simp] theorem ty133_t1 : fTy Try.prog 133 1 = some 3 := by kernel_rfl
@[simp] theorem ty133_eq : eqFs Try.prog 133 = some [(0, 1), (1, 1)] := by kernel_rfl
@[simp] theorem ty133_ok : okF Try.prog 133 = true := by kernel_rfl
@[simp] theorem ty137_csz : csz Try.prog 137 = some 4 := by kernel_rfl
@[simp] theorem ty137_bsz : bsz Try.prog 137 = 40 := by kernel_rfl
@[simp] theorem ty137_agg : aggT Try.prog 137 = some true := by kernel_rfl
@[simp] theorem ty137_zero : zeroC Try.prog 137 = some [.nilp, .nilp, .nilp, .str ⟨#[]⟩] := by kernel_rfl
@[simp] theorem ty137_f0 : fPl Try.prog 137 0 = some (0, 1) := by kernel_rfl
@[simp] theorem ty137_t0 : fTy Try.prog 137 0 = some 17 := by kernel_rfl
@[simp] theorem ty137_f1 : fPl Try.prog 137 1 = some (1, 1) := by kernel_rfl
@[simp] theorem ty137_t1 : fTy Try.prog 137 1 = some 17 := by kernel_rfl
@[simp] theorem ty137_f2 : fPl Try.prog 137 2 = some (2, 1) := by kernel_rfl
@[simp] theorem ty137_t2 : fTy Try.prog 137 2 = some 17 := by kernel_rfl
@[simp] theorem ty137_f3 : fPl Try.prog 137 3 = some (3, 1) := by kernel_rfl
@[simp] theorem ty137_t3 : fTy Try.prog 137 3 = some 9 := by kernel_rfl
@[simp] theorem ty137_ok : okF Try.prog 137 = true := by kernel_rfl
@[simp] theorem ty138_csz : csz Try.prog 138 = some 4 := by kernel_rfl
@[simp] theorem ty138_bsz : bsz Try.prog 138 = 40 := by kernel_rfl
@[simp] theorem ty138_agg : aggT Try.prog 138 = some true := by kernel_rfl
@[simp] theorem ty138_zero : zeroC Try.prog 138 = some [.nilp, .nilp, .nilp, .str ⟨#[]⟩] := by kernel_rfl
@[simp] theorem ty138_f0 : fPl Try.prog 138 0 = some (0, 1) := by kernel_rfl
@[simp] theorem ty138_t0 : fTy Try.prog 138 0 = some 17 := by kernel_rfl
@[simp] theorem ty138_f1 : fPl Try.prog 138 1 = some (1, 1) := by kernel_rfl
@[simp] theorem ty138_t1 : fTy Try.prog 138 1 = some 17 := by kernel_rfl
@[simp] theorem ty138_f2 : fPl Try.prog 138 2 = some (2, 1) := by kernel_rfl
@[simp] theorem ty138_t2 : fTy Try.prog 138 2 = some 17 := by kernel_rfl
@[simp] theorem ty138_f3 : fPl Try.prog 138 3 = some (3, 1) := by kernel_rfl
@[simp] theorem ty138_t3 : fTy Try.prog 138 3 = some 9 := by kernel_rfl
@[simp] theorem ty138_ok : okF Try.prog 138 = true := by kernel_rfl
@[simp] theorem ty140_csz : csz Try.prog 140 = some 0 := by kernel_rfl
@[simp] theorem ty140_bsz : bsz Try.prog 140 = 0 := by kernel_rfl
@[simp] theorem ty140_agg : aggT Try.prog 140 = some true := by kernel_rfl
@[simp] theorem ty140_zero : zeroC Try.prog 140 = some [] := by kernel_rfl
@[simp] theorem ty141_csz : csz Try.prog 141 = some 0 := by kernel_rfl
@[simp] theorem ty141_bsz : bsz Try.prog 141 = 0 := by kernel_rfl
@[simp] theorem ty141_agg : aggT Try.prog 141 = some true := by kernel_rfl
@[simp] theorem ty141_zero : zeroC Try.prog 141 = some [] := by kernel_rfl
@[simp] theorem ty143_csz : csz Try.prog 143 = some 1 := by kernel_rfl
@[simp] theorem ty143_bsz : bsz Try.prog 143 = 4 := by kernel_rfl
@[simp] theorem ty143_agg : aggT Try.prog 143 = some false := by kernel_rfl
@[simp] theorem ty143_zero : zeroC Try.prog 143 = some [.int .u32 0] := by kernel_rfl
@[simp] theorem ty143_int : isInt Try.prog 143 = some .u32 := by kernel_rfl
@[simp] theorem ty144_csz : csz Try.prog 144 = some 1 := by kernel_rfl
@[simp] theorem ty144_bsz : bsz Try.prog 144 = 1 := by kernel_rfl
@[simp] theorem ty144_agg : aggT Try.prog 144 = some false := by kernel_rfl
@[simp] theorem ty144_zero : zeroC Try.prog 144 = some [.int .u8 0] := by kernel_rfl
@[simp] theorem ty144_int : isInt Try.prog 144 = some .u8 := by kernel_rfl
@[simp] theorem ty145_csz : csz Try.prog 145 = some 1 := by kernel_rfl
@[simp] theorem ty145_bsz : bsz Try.prog 145 = 1 := by kernel_rfl
@[simp] theorem ty145_agg : aggT Try.prog 145 = some false := by kernel_rfl
@[simp] theorem ty145_zero : zeroC Try.prog 145 = some [.int .u8 0] := by kernel_rfl
@[simp] theorem ty145_int : isInt Try.prog 145 = some .u8 := by kernel_rfl
@[simp] theorem ty147_csz : csz Try.prog 147 = some 1 := by kernel_rfl
@[simp] theorem ty147_bsz : bsz Try.prog 147 = 8 := by kernel_rfl
@[simp] theorem ty147_agg : aggT Try.prog 147 = some false := by kernel_rfl
@[simp] theorem ty147_zero : zeroC Try.prog 147 = some [.nilp] := by kernel_rfl
@[simp] theorem ty147_ptr : isPtr Try.prog 147 = true := by kernel_rfl
@[simp] theorem ty148_csz : csz Try.prog 148 = some 1 := by kernel_rfl
@[simp] theorem ty148_bsz : bsz Try.prog 148 = 4 := by kernel_rfl
@[simp] theorem ty148_agg : aggT Try.prog 148 = some false := by kernel_rfl
@[simp] theorem ty148_zero : zeroC Try.prog 148 = some [.int .i32 0] := by kernel_rfl
@[simp] theorem ty148_int : isInt Try.prog 148 = some .i32 := by kernel_rfl
@[simp] theorem ty149_csz : csz Try.prog 149 = some 1 := by kernel_rfl
@[simp] theorem ty149_bsz : bsz Try.prog 149 = 4 := by kernel_rfl
@[simp] theorem ty149_agg : aggT Try.prog 149 = some false := by kernel_rfl
@[simp] theorem ty149_zero : zeroC Try.prog 149 = some [.int .i32 0] := by kernel_rfl
@[simp] theorem ty149_int : isInt Try.prog 149 = some .i32 := by kernel_rfl
@[simp] theorem ty150_csz : csz Try.prog 150 = some 11 := by kernel_rfl
@[simp] theorem ty150_bsz : bsz Try.prog 150 = 48 := by kernel_rfl
@[simp] theorem ty150_agg : aggT Try.prog 150 = some true := by kernel_rfl
@[simp] theorem ty150_f0 : fPl Try.prog 150 0 = some (0, 1) := by kernel_rfl
@[simp] theorem ty150_t0 : fTy Try.prog 150 0 = some 12 := by kernel_rfl
@[simp] theorem ty150_f1 : fPl Try.prog 150 1 = some (1, 1) := by kernel_rfl
@[simp] theorem ty150_t1 : fTy Try.prog 150 1 = some 12 := by kernel_rfl
@[simp] theorem ty150_f2 : fPl Try.prog 150 2 = some (2, 1) := by kernel_rfl
@[simp] theorem ty150_t2 : fTy Try.prog 150 2 = some 143 := by kernel_rfl
@[simp] theorem ty150_f3 : fPl Try.prog 150 3 = some (3, 1) := by kernel_rfl
@[simp] theorem ty150_t3 : fTy Try.prog 150 3 = some 144 := by kernel_rfl
@[simp] theorem ty150_f4 : fPl Try.prog 150 4 = some (4, 1) := by kernel_rfl
@[simp] theorem ty150_t4 : fTy Try.prog 150 4 = some 5 := by kernel_rfl
@[simp] theorem ty150_f5 : fPl Try.prog 150 5 = some (5, 1) := by kernel_rfl
@[simp] theorem ty150_t5 : fTy Try.prog 150 5 = some 5 := by kernel_rfl
@[simp] theorem ty150_f6 : fPl Try.prog 150 6 = some (6, 1) := by kernel_rfl
@[simp] theorem ty150_t6 : fTy Try.prog 150 6 = some 145 := by kernel_rfl
@[simp] theorem ty150_f8 : fPl Try.prog 150 8 = some (8, 1) := by kernel_rfl
@[simp] theorem ty150_t8 : fTy Try.prog 150 8 = some 147 := by kernel_rfl
@[simp] theorem ty150_f9 : fPl Try.prog 150 9 = some (9, 1) := by kernel_rfl
@[simp] theorem ty150_t9 : fTy Try.prog 150 9 = some 148 := by kernel_rfl
@[simp] theorem ty150_f10 : fPl Try.prog 150 10 = some (10, 1) := by kernel_rfl
@[simp] theorem ty150_t10 : fTy Try.prog 150 10 = some 149 := by kernel_rfl
@[simp] theorem ty151_csz : csz Try.prog 151 = some 11 := by kernel_rfl
@[simp] theorem ty151_bsz : bsz Try.prog 151 = 48 := by kernel_rfl
@[simp] theorem ty151_agg : aggT Try.prog 151 = some true := by kernel_rfl
@[simp] theorem ty151_f0 : fPl Try.prog 151 0 = some (0, 1) := by kernel_rfl
@[simp] theorem ty151_t0 : fTy Try.prog 151 0 = some 12 := by kernel_rfl
@[simp] theorem ty151_f1 : fPl Try.prog 151 1 = some (1, 1) := by kernel_rfl
@[simp] theorem ty151_t1 : fTy Try.prog 151 1 = some 12 := by kernel_rfl
@[simp] theorem ty151_f2 : fPl Try.prog 151 2 = some (2, 1) := by kernel_rfl
@[simp] theorem ty151_t2 : fTy Try.prog 151 2 = some 143 := by kernel_rfl
@[simp] theorem ty151_f3 : fPl Try.prog 151 3 = some (3, 1) := by kernel_rfl
@[simp] theorem ty151_t3 : fTy Try.prog 151 3 = some 144 := by kernel_rfl
@[simp] theorem ty151_f4 : fPl Try.prog 151 4 = some (4, 1) := by kernel_rfl
@[simp] theorem ty151_t4 : fTy Try.prog 151 4 = some 5 := by kernel_rfl
@[simp] theorem ty151_f5 : fPl Try.prog 151 5 = some (5, 1) := by kernel_rfl
@[simp] theorem ty151_t5 : fTy Try.prog 151 5 = some 5 := by kernel_rfl
@[simp] theorem ty151_f6 : fPl Try.prog 151 6 = some (6, 1) := by kernel_rfl
@[simp] theorem ty151_t6 : fTy Try.prog 151 6 = some 145 := by kernel_rfl
@[simp] theorem ty151_f8 : fPl Try.prog 151 8 = some (8, 1) := by kernel_rfl
@[simp] theorem ty151_t8 : fTy Try.prog 151 8 = some 147 := by kernel_rfl
@[simp] theorem ty151_f9 : fPl Try.prog 151 9 = some (9, 1) := by kernel_rfl
@[simp] theorem ty151_t9 : fTy Try.prog 151 9 = some 148 := by kernel_rfl
@[simp] theorem ty151_f10 : fPl Try.prog 151 10 = some (10, 1) := by kernel_rfl
@[simp] theorem ty151_t10 : fTy Try.prog 151 10 = some 149 := by kernel_rfl
end Go.Proofs.Ytpkphjoobeacfaa.Vm
