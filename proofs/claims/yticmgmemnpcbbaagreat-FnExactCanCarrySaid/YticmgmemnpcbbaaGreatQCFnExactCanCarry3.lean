/- Closed facts on the types of this translation, printed by types.py. -/



import Derived.Test.YticmgmemnpcbbaaGreatProg
import Derived.KernelRfl
import GoSem.ClaimJoined
import Derived.Test.YticmgmemnpcbbaaGreatQCFnExactCanCarry2

namespace Go.Proofs.YticmgmemnpcbbaaGreat.Vm
open Go Go.Proofs

@[simp] theorem ty2_csz : csz Tryz.prog 2 = some 1 := by kernel_rfl
@[simp] theorem ty2_bsz : bsz Tryz.prog 2 = 8 := by kernel_rfl
@[simp] theorem ty2_agg : aggT Tryz.prog 2 = some false := by kernel_rfl
@[simp] theorem ty2_zero : zeroC Tryz.prog 2 = some [.int .i64 0] := by kernel_rfl
@[simp] theorem ty2_int : isInt Tryz.prog 2 = some .i64 := by kernel_rfl
@[simp] theorem ty3_csz : csz Tryz.prog 3 = some 1 := by kernel_rfl
@[simp] theorem ty3_bsz : bsz Tryz.prog 3 = 8 := by kernel_rfl
@[simp] theorem ty3_agg : aggT Tryz.prog 3 = some false := by kernel_rfl
@[simp] theorem ty3_zero : zeroC Tryz.prog 3 = some [.int .i64 0] := by kernel_rfl
@[simp] theorem ty3_int : isInt Tryz.prog 3 = some .i64 := by kernel_rfl
@[simp] theorem ty4_csz : csz Tryz.prog 4 = some 1 := by kernel_rfl
@[simp] theorem ty4_bsz : bsz Tryz.prog 4 = 1 := by kernel_rfl
@[simp] theorem ty4_agg : aggT Tryz.prog 4 = some false := by kernel_rfl
@[simp] theorem ty4_zero : zeroC Tryz.prog 4 = some [.bool false] := by kernel_rfl
@[simp] theorem ty5_csz : csz Tryz.prog 5 = some 1 := by kernel_rfl
@[simp] theorem ty5_bsz : bsz Tryz.prog 5 = 1 := by kernel_rfl
@[simp] theorem ty5_agg : aggT Tryz.prog 5 = some false := by kernel_rfl
@[simp] theorem ty5_zero : zeroC Tryz.prog 5 = some [.int .u8 0] := by kernel_rfl
@[simp] theorem ty5_int : isInt Tryz.prog 5 = some .u8 := by kernel_rfl
@[simp] theorem ty6_csz : csz Tryz.prog 6 = some 1 := by kernel_rfl
@[simp] theorem ty6_bsz : bsz Tryz.prog 6 = 1 := by kernel_rfl
@[simp] theorem ty6_agg : aggT Tryz.prog 6 = some false := by kernel_rfl
@[simp] theorem ty6_zero : zeroC Tryz.prog 6 = some [.int .u8 0] := by kernel_rfl
@[simp] theorem ty6_int : isInt Tryz.prog 6 = some .u8 := by kernel_rfl
@[simp] theorem ty7_csz : csz Tryz.prog 7 = some 4 := by kernel_rfl
@[simp] theorem ty7_bsz : bsz Tryz.prog 7 = 24 := by kernel_rfl
@[simp] theorem ty7_agg : aggT Tryz.prog 7 = some true := by kernel_rfl
@[simp] theorem ty7_zero : zeroC Tryz.prog 7 = some [.int .i64 0, .int .i64 0, .bool false, .int .u8 0] := by kernel_rfl
@[simp] theorem ty7_f0 : fPl Tryz.prog 7 0 = some (0, 1) := by kernel_rfl
@[simp] theorem ty7_t0 : fTy Tryz.prog 7 0 = some 2 := by kernel_rfl
@[simp] theorem ty7_f1 : fPl Tryz.prog 7 1 = some (1, 1) := by kernel_rfl
@[simp] theorem ty7_t1 : fTy Tryz.prog 7 1 = some 3 := by kernel_rfl
@[simp] theorem ty7_f2 : fPl Tryz.prog 7 2 = some (2, 1) := by kernel_rfl
@[simp] theorem ty7_t2 : fTy Tryz.prog 7 2 = some 4 := by kernel_rfl
@[simp] theorem ty7_f3 : fPl Tryz.prog 7 3 = some (3, 1) := by kernel_rfl
@[simp] theorem ty7_t3 : fTy Tryz.prog 7 3 = some 6 := by kernel_rfl
@[simp] theorem ty7_ok : okF Tryz.prog 7 = true := by kernel_rfl
@[simp] theorem ty8_csz : csz Tryz.prog 8 = some 4 := by kernel_rfl
@[simp] theorem ty8_bsz : bsz Tryz.prog 8 = 24 := by kernel_rfl
@[simp] theorem ty8_agg : aggT Tryz.prog 8 = some true := by kernel_rfl
@[simp] theorem ty8_zero : zeroC Tryz.prog 8 = some [.int .i64 0, .int .i64 0, .bool false, .int .u8 0] := by kernel_rfl
@[simp] theorem ty8_f0 : fPl Tryz.prog 8 0 = some (0, 1) := by kernel_rfl
@[simp] theorem ty8_t0 : fTy Tryz.prog 8 0 = some 2 := by kernel_rfl
@[simp] theorem ty8_f1 : fPl Tryz.prog 8 1 = some (1, 1) := by kernel_rfl
@[simp] theorem ty8_t1 : fTy Tryz.prog 8 1 = some 3 := by kernel_rfl
@[simp] theorem ty8_f2 : fPl Tryz.prog 8 2 = some (2, 1) := by kernel_rfl
@[simp] theorem ty8_t2 : fTy Tryz.prog 8 2 = some 4 := by kernel_rfl
@[simp] theorem ty8_f3 : fPl Tryz.prog 8 3 = some (3, 1) := by kernel_rfl
@[simp] theorem ty8_t3 : fTy Tryz.prog 8 3 = some 6 := by kernel_rfl
@[simp] theorem ty8_ok : okF Tryz.prog 8 = true := by kernel_rfl
@[simp] theorem ty9_csz : csz Tryz.prog 9 = some 1 := by kernel_rfl
@[simp] theorem ty9_bsz : bsz Tryz.prog 9 = 16 := by kernel_rfl
@[simp] theorem ty9_agg : aggT Tryz.prog 9 = some false := by kernel_rfl
@[simp] theorem ty9_zero : zeroC Tryz.prog 9 = some [.str ⟨#[]⟩] := by kernel_rfl
@[simp] theorem ty9_str : isStr Tryz.prog 9 = true := by kernel_rfl
@[simp] theorem ty10_csz : csz Tryz.prog 10 = some 1 := by kernel_rfl
@[simp] theorem ty10_bsz : bsz Tryz.prog 10 = 16 := by kernel_rfl
@[simp] theorem ty10_agg : aggT Tryz.prog 10 = some false := by kernel_rfl
@[simp] theorem ty10_zero : zeroC Tryz.prog 10 = some [.str ⟨#[]⟩] := by kernel_rfl
@[simp] theorem ty10_str : isStr Tryz.prog 10 = true := by kernel_rfl
@[simp] theorem ty11_csz : csz Tryz.prog 11 = some 1 := by kernel_rfl
@[simp] theorem ty11_bsz : bsz Tryz.prog 11 = 16 := by kernel_rfl
@[simp] theorem ty11_agg : aggT Tryz.prog 11 = some false := by kernel_rfl
@[simp] theorem ty11_zero : zeroC Tryz.prog 11 = some [.str ⟨#[]⟩] := by kernel_rfl
@[simp] theorem ty11_str : isStr Tryz.prog 11 = true := by kernel_rfl
@[simp] theorem ty12_csz : csz Tryz.prog 12 = some 1 := by kernel_rfl
@[simp] theorem ty12_bsz : bsz Tryz.prog 12 = 8 := by kernel_rfl
@[simp] theorem ty12_agg : aggT Tryz.prog 12 = some false := by kernel_rfl
@[simp] theorem ty12_zero : zeroC Tryz.prog 12 = some [.int .u64 0] := by kernel_rfl
@[simp] theorem ty12_int : isInt Tryz.prog 12 = some .u64 := by kernel_rfl
@[simp] theorem ty13_csz : csz Tryz.prog 13 = some 2 := by kernel_rfl
@[simp] theorem ty13_bsz : bsz Tryz.prog 13 = 24 := by kernel_rfl
@[simp] theorem ty13_agg : aggT Tryz.prog 13 = some true := by kernel_rfl
@[simp] theorem ty13_zero : zeroC Tryz.prog 13 = some [.str ⟨#[]⟩, .int .u64 0] := by kernel_rfl
@[simp] theorem ty13_f0 : fPl Tryz.prog 13 0 = some (0, 1) := by kernel_rfl
@[simp] theorem ty13_t0 : fTy Tryz.prog 13 0 = some 9 := by kernel_rfl
@[simp] theorem ty13_f1 : fPl Tryz.prog 13 1 = some (1, 1) := by kernel_rfl
@[simp] theorem ty13_t1 : fTy Tryz.prog 13 1 = some 12 := by kernel_rfl
@[simp] theorem ty13_ok : okF Tryz.prog 13 = true := by kernel_rfl
@[simp] theorem ty14_csz : csz Tryz.prog 14 = some 2 := by kernel_rfl
@[simp] theorem ty14_bsz : bsz Tryz.prog 14 = 24 := by kernel_rfl
@[simp] theorem ty14_agg : aggT Tryz.prog 14 = some true := by kernel_rfl
@[simp] theorem ty14_zero : zeroC Tryz.prog 14 = some [.str ⟨#[]⟩, .int .u64 0] := by kernel_rfl
@[simp] theorem ty14_f0 : fPl Tryz.prog 14 0 = some (0, 1) := by kernel_rfl
@[simp] theorem ty14_t0 : fTy Tryz.prog 14 0 = some 9 := by kernel_rfl
@[simp] theorem ty14_f1 : fPl Tryz.prog 14 1 = some (1, 1) := by kernel_rfl
@[simp] theorem ty14_t1 : fTy Tryz.prog 14 1 = some 12 := by kernel_rfl
@[simp] theorem ty14_ok : okF Tryz.prog 14 = true := by kernel_rfl
@[simp] theorem ty15_csz : csz Tryz.prog 15 = some 1 := by kernel_rfl
@[simp] theorem ty15_bsz : bsz Tryz.prog 15 = 8 := by kernel_rfl
@[simp] theorem ty15_agg : aggT Tryz.prog 15 = some false := by kernel_rfl
@[simp] theorem ty15_zero : zeroC Tryz.prog 15 = some [.nilp] := by kernel_rfl
@[simp] theorem ty15_ptr : isPtr Tryz.prog 15 = true := by kernel_rfl
@[simp] theorem ty16_csz : csz Tryz.prog 16 = some 1 := by kernel_rfl
@[simp] theorem ty16_bsz : bsz Tryz.prog 16 = 8 := by kernel_rfl
@[simp] theorem ty16_agg : aggT Tryz.prog 16 = some false := by kernel_rfl
@[simp] theorem ty16_zero : zeroC Tryz.prog 16 = some [.nilp] := by kernel_rfl
@[simp] theorem ty16_ptr : isPtr Tryz.prog 16 = true := by kernel_rfl
@[simp] theorem ty17_csz : csz Tryz.prog 17 = some 1 := by kernel_rfl
@[simp] theorem ty17_bsz : bsz Tryz.prog 17 = 8 := by kernel_rfl
@[simp] theorem ty17_agg : aggT Tryz.prog 17 = some false := by kernel_rfl
@[simp] theorem ty17_zero : zeroC Tryz.prog 17 = some [.nilp] := by kernel_rfl
@[simp] theorem ty17_ptr : isPtr Tryz.prog 17 = true := by kernel_rfl
@[simp] theorem ty18_csz : csz Tryz.prog 18 = some 1 := by kernel_rfl
@[simp] theorem ty18_bsz : bsz Tryz.prog 18 = 8 := by kernel_rfl
@[simp] theorem ty18_agg : aggT Tryz.prog 18 = some true := by kernel_rfl
@[simp] theorem ty18_zero : zeroC Tryz.prog 18 = some [.nilp] := by kernel_rfl
@[simp] theorem ty18_f0 : fPl Tryz.prog 18 0 = some (0, 1) := by kernel_rfl
@[simp] theorem ty18_t0 : fTy Tryz.prog 18 0 = some 17 := by kernel_rfl
@[simp] theorem ty18_ok : okF Tryz.prog 18 = true := by kernel_rfl
@[simp] theorem ty19_csz : csz Tryz.prog 19 = some 1 := by kernel_rfl
@[simp] theorem ty19_bsz : bsz Tryz.prog 19 = 8 := by kernel_rfl
@[simp] theorem ty19_agg : aggT Tryz.prog 19 = some true := by kernel_rfl
@[simp] theorem ty19_zero : zeroC Tryz.prog 19 = some [.nilp] := by kernel_rfl
@[simp] theorem ty19_f0 : fPl Tryz.prog 19 0 = some (0, 1) := by kernel_rfl
@[simp] theorem ty19_t0 : fTy Tryz.prog 19 0 = some 17 := by kernel_rfl
@[simp] theorem ty19_ok : okF Tryz.prog 19 = true := by kernel_rfl
@[simp] theorem ty21_csz : csz Tryz.prog 21 = some 1 := by kernel_rfl
@[simp] theorem ty21_bsz : bsz Tryz.prog 21 = 4 := by kernel_rfl
@[simp] theorem ty21_agg : aggT Tryz.prog 21 = some false := by kernel_rfl
@[simp] theorem ty21_zero : zeroC Tryz.prog 21 = some [.int .i32 0] := by kernel_rfl
@[simp] theorem ty21_int : isInt Tryz.prog 21 = some .i32 := by kernel_rfl
@[simp] theorem ty22_csz : csz Tryz.prog 22 = some 1 := by kernel_rfl
@[simp] theorem ty22_bsz : bsz Tryz.prog 22 = 24 := by kernel_rfl
@[simp] theorem ty22_agg : aggT Tryz.prog 22 = some false := by kernel_rfl
@[simp] theorem ty22_zero : zeroC Tryz.prog 22 = some [.nils] := by kernel_rfl
@[simp] theorem ty22_sl : slE Tryz.prog 22 = some 5 := by kernel_rfl
@[simp] theorem ty23_csz : csz Tryz.prog 23 = some 1 := by kernel_rfl
@[simp] theorem ty23_bsz : bsz Tryz.prog 23 = 24 := by kernel_rfl
@[simp] theorem ty23_agg : aggT Tryz.prog 23 = some false := by kernel_rfl
@[simp] theorem ty23_zero : zeroC Tryz.prog 23 = some [.nils] := by kernel_rfl
@[simp] theorem ty23_sl : slE Tryz.prog 23 = some 48 := by kernel_rfl
@[simp] theorem ty24_csz : csz Tryz.prog 24 = some 1 := by kernel_rfl
@[simp] theorem ty24_bsz : bsz Tryz.prog 24 = 24 := by kernel_rfl
@[simp] theorem ty24_agg : aggT Tryz.prog 24 = some false := by kernel_rfl
@[simp] theorem ty24_zero : zeroC Tryz.prog 24 = some [.nils] := by kernel_rfl
@[simp] theorem ty24_sl : slE Tryz.prog 24 = some 106 := by kernel_rfl
@[simp] theorem ty25_csz : csz Tryz.prog 25 = some 2 := by kernel_rfl
@[simp] theorem ty25_bsz : bsz Tryz.prog 25 = 48 := by kernel_rfl
@[simp] theorem ty25_agg : aggT Tryz.prog 25 = some true := by kernel_rfl
@[simp] theorem ty25_zero : zeroC Tryz.prog 25 = some [.nils, .nils] := by kernel_rfl
@[simp] theorem ty25_f0 : fPl Tryz.prog 25 0 = some (0, 1) := by kernel_rfl
@[simp] theorem ty25_t0 : fTy Tryz.prog 25 0 = some 23 := by kernel_rfl
@[simp] theorem ty25_f1 : fPl Tryz.prog 25 1 = some (1, 1) := by kernel_rfl
@[simp] theorem ty25_t1 : fTy Tryz.prog 25 1 = some 24 := by kernel_rfl
@[simp] theorem ty25_ok : okF Tryz.prog 25 = true := by kernel_rfl
@[simp] theorem ty26_csz : csz Tryz.prog 26 = some 2 := by kernel_rfl
@[simp] theorem ty26_bsz : bsz Tryz.prog 26 = 48 := by kernel_rfl
@[simp] theorem ty26_agg : aggT Tryz.prog 26 = some true := by kernel_rfl
@[simp] theorem ty26_zero : zeroC Tryz.prog 26 = some [.nils, .nils] := by kernel_rfl
@[simp] theorem ty26_f0 : fPl Tryz.prog 26 0 = some (0, 1) := by kernel_rfl
@[simp] theorem ty26_t0 : fTy Tryz.prog 26 0 = some 23 := by kernel_rfl
@[simp] theorem ty26_f1 : fPl Tryz.prog 26 1 = some (1, 1) := by kernel_rfl
@[simp] theorem ty26_t1 : fTy Tryz.prog 26 1 = some 24 := by kernel_rfl
@[simp] theorem ty26_ok : okF Tryz.prog 26 = true := by kernel_rfl
@[simp] theorem ty27_csz : csz Tryz.prog 27 = some 1 := by kernel_rfl
@[simp] theorem ty27_bsz : bsz Tryz.prog 27 = 24 := by kernel_rfl
@[simp] theorem ty27_agg : aggT Tryz.prog 27 = some false := by kernel_rfl
@[simp] theorem ty27_zero : zeroC Tryz.prog 27 = some [.nils] := by kernel_rfl
@[simp] theorem ty27_sl : slE Tryz.prog 27 = some 3 := by kernel_rfl
@[simp] theorem ty30_csz : csz Tryz.prog 30 = some 1 := by kernel_rfl
@[simp] theorem ty30_bsz : bsz Tryz.prog 30 = 24 := by kernel_rfl
@[simp] theorem ty30_agg : aggT Tryz.prog 30 = some false := by kernel_rfl
@[simp] theorem ty30_zero : zeroC Tryz.prog 30 = some [.nils] := by kernel_rfl
@[simp] theorem ty30_sl : slE Tryz.prog 30 = some 42 := by kernel_rfl
@[simp] theorem ty39_csz : csz Tryz.prog 39 = some 2 := by kernel_rfl
@[simp] theorem ty39_bsz : bsz Tryz.prog 39 = 32 := by kernel_rfl
@[simp] theorem ty39_agg : aggT Tryz.prog 39 = some true := by kernel_rfl
@[simp] theorem ty39_zero : zeroC Tryz.prog 39 = some [.bool false, .nils] := by kernel_rfl
@[simp] theorem ty39_f0 : fPl Tryz.prog 39 0 = some (0, 1) := by kernel_rfl
@[simp] theorem ty39_t0 : fTy Tryz.prog 39 0 = some 4 := by kernel_rfl
@[simp] theorem ty39_f1 : fPl Tryz.prog 39 1 = some (1, 1) := by kernel_rfl
@[simp] theorem ty39_t1 : fTy Tryz.prog 39 1 = some 27 := by kernel_rfl
@[simp] theorem ty39_ok : okF Tryz.prog 39 = true := by kernel_rfl
@[simp] theorem ty40_csz : csz Tryz.prog 40 = some 2 := by kernel_rfl
@[simp] theorem ty40_bsz : bsz Tryz.prog 40 = 32 := by kernel_rfl
@[simp] theorem ty40_agg : aggT Tryz.prog 40 = some true := by kernel_rfl
@[simp] theorem ty40_zero : zeroC Tryz.prog 40 = some [.bool false, .nils] := by kernel_rfl
@[simp] theorem ty40_f0 : fPl Tryz.prog 40 0 = some (0, 1) := by kernel_rfl
@[simp] theorem ty40_t0 : fTy Tryz.prog 40 0 = some 4 := by kernel_rfl
@[simp] theorem ty40_f1 : fPl Tryz.prog 40 1 = some (1, 1) := by kernel_rfl
@[simp] theorem ty40_t1 : fTy Tryz.prog 40 1 = some 27 := by kernel_rfl
@[simp] theorem ty40_ok : okF Tryz.prog 40 = true := by kernel_rfl
@[simp] theorem ty41_csz : csz Tryz.prog 41 = some 3 := by kernel_rfl
@[simp] theorem ty41_bsz : bsz Tryz.prog 41 = 56 := by kernel_rfl
@[simp] theorem ty41_agg : aggT Tryz.prog 41 = some true := by kernel_rfl
@[simp] theorem ty41_zero : zeroC Tryz.prog 41 = some [.bool false, .nils, .nils] := by kernel_rfl
@[simp] theorem ty41_f0 : fPl Tryz.prog 41 0 = some (0, 2) := by kernel_rfl
@[simp] theorem ty41_t0 : fTy Tryz.prog 41 0 = some 40 := by kernel_rfl
@[simp] theorem ty41_f1 : fPl Tryz.prog 41 1 = some (2, 1) := by kernel_rfl
@[simp] theorem ty41_t1 : fTy Tryz.prog 41 1 = some 27 := by kernel_rfl
@[simp] theorem ty41_ok : okF Tryz.prog 41 = true := by kernel_rfl
@[simp] theorem ty42_csz : csz Tryz.prog 42 = some 3 := by kernel_rfl
@[simp] theorem ty42_bsz : bsz Tryz.prog 42 = 56 := by kernel_rfl
@[simp] theorem ty42_agg : aggT Tryz.prog 42 = some true := by kernel_rfl
@[simp] theorem ty42_zero : zeroC Tryz.prog 42 = some [.bool false, .nils, .nils] := by kernel_rfl
@[simp] theorem ty42_f0 : fPl Tryz.prog 42 0 = some (0, 2) := by kernel_rfl
@[simp] theorem ty42_t0 : fTy Tryz.prog 42 0 = some 40 := by kernel_rfl
@[simp] theorem ty42_f1 : fPl Tryz.prog 42 1 = some (2, 1) := by kernel_rfl
@[simp] theorem ty42_t1 : fTy Tryz.prog 42 1 = some 27 := by kernel_rfl
@[simp] theorem ty42_ok : okF Tryz.prog 42 = true := by kernel_rfl
@[simp] theorem ty47_csz : csz Tryz.prog 47 = some 4 := by kernel_rfl
@[simp] theorem ty47_bsz : bsz Tryz.prog 47 = 40 := by kernel_rfl
@[simp] theorem ty47_agg : aggT Tryz.prog 47 = some true := by kernel_rfl
@[simp] theorem ty47_zero : zeroC Tryz.prog 47 = some [.str ⟨#[]⟩, .int .i64 0, .int .i64 0, .bool false] := by kernel_rfl
@[simp] theorem ty47_f0 : fPl Tryz.prog 47 0 = some (0, 1) := by kernel_rfl
@[simp] theorem ty47_t0 : fTy Tryz.prog 47 0 = some 9 := by kernel_rfl
@[simp] theorem ty47_f1 : fPl Tryz.prog 47 1 = some (1, 1) := by kernel_rfl
@[simp] theorem ty47_t1 : fTy Tryz.prog 47 1 = some 3 := by kernel_rfl
@[simp] theorem ty47_f2 : fPl Tryz.prog 47 2 = some (2, 1) := by kernel_rfl
@[simp] theorem ty47_t2 : fTy Tryz.prog 47 2 = some 3 := by kernel_rfl
@[simp] theorem ty47_f3 : fPl Tryz.prog 47 3 = some (3, 1) := by kernel_rfl
@[simp] theorem ty47_t3 : fTy Tryz.prog 47 3 = some 4 := by kernel_rfl
@[simp] theorem ty47_ok : okF Tryz.prog 47 = true := by kernel_rfl
@[simp] theorem ty48_csz : csz Tryz.prog 48 = some 4 := by kernel_rfl
@[simp] theorem ty48_bsz : bsz Tryz.prog 48 = 40 := by kernel_rfl
@[simp] theorem ty48_agg : aggT Tryz.prog 48 = some true := by kernel_rfl
@[simp] theorem ty48_zero : zeroC Tryz.prog 48 = some [.str ⟨#[]⟩, .int .i64 0, .int .i64 0, .bool false] := by kernel_rfl
@[simp] theorem ty48_f0 : fPl Tryz.prog 48 0 = some (0, 1) := by kernel_rfl
@[simp] theorem ty48_t0 : fTy Tryz.prog 48 0 = some 9 := by kernel_rfl
@[simp] theorem ty48_f1 : fPl Tryz.prog 48 1 = some (1, 1) := by kernel_rfl
@[simp] theorem ty48_t1 : fTy Tryz.prog 48 1 = some 3 := by kernel_rfl
@[simp] theorem ty48_f2 : fPl Tryz.prog 48 2 = some (2, 1) := by kernel_rfl
@[simp] theorem ty48_t2 : fTy Tryz.prog 48 2 = some 3 := by kernel_rfl
@[simp] theorem ty48_f3 : fPl Tryz.prog 48 3 = some (3, 1) := by kernel_rfl
@[simp] theorem ty48_t3 : fTy Tryz.prog 48 3 = some 4 := by kernel_rfl
@[simp] theorem ty48_eq : eqFs Tryz.prog 48 = some [(0, 2), (1, 1), (2, 1), (3, 0)] := by kernel_rfl
@[simp] theorem ty48_ok : okF Tryz.prog 48 = true := by kernel_rfl
@[simp] theorem ty59_csz : csz Tryz.prog 59 = some 1 := by kernel_rfl
@[simp] theorem ty59_bsz : bsz Tryz.prog 59 = 24 := by kernel_rfl
@[simp] theorem ty59_agg : aggT Tryz.prog 59 = some false := by kernel_rfl
@[simp] theorem ty59_zero : zeroC Tryz.prog 59 = some [.nils] := by kernel_rfl
@[simp] theorem ty59_sl : slE Tryz.prog 59 = some 27 := by kernel_rfl
@[simp] theorem ty63_csz : csz Tryz.prog 63 = some 8 := by kernel_rfl
@[simp] theorem ty63_bsz : bsz Tryz.prog 63 = 120 := by kernel_rfl
@[simp] theorem ty63_agg : aggT Tryz.prog 63 = some true := by kernel_rfl
@[simp] theorem ty63_zero : zeroC Tryz.prog 63 = some [.bool false, .nils, .nils, .bool false, .nils, .nils, .bool false, .bool false] := by kernel_rfl
@[simp] theorem ty63_f0 : fPl Tryz.prog 63 0 = some (0, 3) := by kernel_rfl
@[simp] theorem ty63_t0 : fTy Tryz.prog 63 0 = some 42 := by kernel_rfl
@[simp] theorem ty63_f1 : fPl Tryz.prog 63 1 = some (3, 3) := by kernel_rfl
@[simp] theorem ty63_t1 : fTy Tryz.prog 63 1 = some 42 := by kernel_rfl
@[simp] theorem ty63_f2 : fPl Tryz.prog 63 2 = some (6, 1) := by kernel_rfl
@[simp] theorem ty63_t2 : fTy Tryz.prog 63 2 = some 4 := by kernel_rfl
@[simp] theorem ty63_f3 : fPl Tryz.prog 63 3 = some (7, 1) := by kernel_rfl
@[simp] theorem ty63_t3 : fTy Tryz.prog 63 3 = some 4 := by kernel_rfl
@[simp] theorem ty63_ok : okF Tryz.prog 63 = true := by kernel_rfl
@[simp] theorem ty64_csz : csz Tryz.prog 64 = some 8 := by kernel_rfl
@[simp] theorem ty64_bsz : bsz Tryz.prog 64 = 120 := by kernel_rfl
@[simp] theorem ty64_agg : aggT Tryz.prog 64 = some true := by kernel_rfl
@[simp] theorem ty64_zero : zeroC Tryz.prog 64 = some [.bool false, .nils, .nils, .bool false, .nils, .nils, .bool false, .bool false] := by kernel_rfl
@[simp] theorem ty64_f0 : fPl Tryz.prog 64 0 = some (0, 3) := by kernel_rfl
@[simp] theorem ty64_t0 : fTy Tryz.prog 64 0 = some 42 := by kernel_rfl
@[simp] theorem ty64_f1 : fPl Tryz.prog 64 1 = some (3, 3) := by kernel_rfl
@[simp] theorem ty64_t1 : fTy Tryz.prog 64 1 = some 42 := by kernel_rfl
@[simp] theorem ty64_f2 : fPl Tryz.prog 64 2 = some (6, 1) := by kernel_rfl
@[simp] theorem ty64_t2 : fTy Tryz.prog 64 2 = some 4 := by kernel_rfl
@[simp] theorem ty64_f3 : fPl Tryz.prog 64 3 = some (7, 1) := by kernel_rfl
@[simp] theorem ty64_t3 : fTy Tryz.prog 64 3 = some 4 := by kernel_rfl
@[simp] theorem ty64_ok : okF Tryz.prog 64 = true := by kernel_rfl
@[simp] theorem ty68_csz : csz Tryz.prog 68 = some 1 := by kernel_rfl
@[simp] theorem ty68_bsz : bsz Tryz.prog 68 = 24 := by kernel_rfl
@[simp] theorem ty68_agg : aggT Tryz.prog 68 = some false := by kernel_rfl
@[simp] theorem ty68_zero : zeroC Tryz.prog 68 = some [.nils] := by kernel_rfl
@[simp] theorem ty68_sl : slE Tryz.prog 68 = some 207 := by kernel_rfl
@[simp] theorem ty69_csz : csz Tryz.prog 69 = some 1 := by kernel_rfl
@[simp] theorem ty69_bsz : bsz Tryz.prog 69 = 24 := by kernel_rfl
@[simp] theorem ty69_agg : aggT Tryz.prog 69 = some false := by kernel_rfl
@[simp] theorem ty69_zero : zeroC Tryz.prog 69 = some [.nils] := by kernel_rfl
@[simp] theorem ty69_sl : slE Tryz.prog 69 = some 217 := by kernel_rfl
@[simp] theorem ty70_csz : csz Tryz.prog 70 = some 2 := by kernel_rfl
@[simp] theorem ty70_bsz : bsz Tryz.prog 70 = 48 := by kernel_rfl
@[simp] theorem ty70_agg : aggT Tryz.prog 70 = some true := by kernel_rfl
@[simp] theorem ty70_zero : zeroC Tryz.prog 70 = some [.nils, .nils] := by kernel_rfl
@[simp] theorem ty70_f0 : fPl Tryz.prog 70 0 = some (0, 1) := by kernel_rfl
@[simp] theorem ty70_t0 : fTy Tryz.prog 70 0 = some 68 := by kernel_rfl
@[simp] theorem ty70_f1 : fPl Tryz.prog 70 1 = some (1, 1) := by kernel_rfl
@[simp] theorem ty70_t1 : fTy Tryz.prog 70 1 = some 69 := by kernel_rfl
@[simp] theorem ty70_ok : okF Tryz.prog 70 = true := by kernel_rfl
@[simp] theorem ty71_csz : csz Tryz.prog 71 = some 2 := by kernel_rfl
@[simp] theorem ty71_bsz : bsz Tryz.prog 71 = 48 := by kernel_rfl
@[simp] theorem ty71_agg : aggT Tryz.prog 71 = some true := by kernel_rfl
@[simp] theorem ty71_zero : zeroC Tryz.prog 71 = some [.nils, .nils] := by kernel_rfl
@[simp] theorem ty71_f0 : fPl Tryz.prog 71 0 = some (0, 1) := by kernel_rfl
@[simp] theorem ty71_t0 : fTy Tryz.prog 71 0 = some 68 := by kernel_rfl
@[simp] theorem ty71_f1 : fPl Tryz.prog 71 1 = some (1, 1) := by kernel_rfl
@[simp] theorem ty71_t1 : fTy Tryz.prog 71 1 = some 69 := by kernel_rfl
@[simp] theorem ty71_ok : okF Tryz.prog 71 = true := by kernel_rfl
@[simp] theorem ty90_csz : csz Tryz.prog 90 = some 1 := by kernel_rfl
@[simp] theorem ty90_bsz : bsz Tryz.prog 90 = 8 := by kernel_rfl
@[simp] theorem ty90_agg : aggT Tryz.prog 90 = some false := by kernel_rfl
@[simp] theorem ty90_zero : zeroC Tryz.prog 90 = some [.nilp] := by kernel_rfl
@[simp] theorem ty90_ptr : isPtr Tryz.prog 90 = true := by kernel_rfl
@[simp] theorem ty92_csz : csz Tryz.prog 92 = some 1 := by kernel_rfl
@[simp] theorem ty92_bsz : bsz Tryz.prog 92 = 24 := by kernel_rfl
@[simp] theorem ty92_agg : aggT Tryz.prog 92 = some false := by kernel_rfl
@[simp] theorem ty92_zero : zeroC Tryz.prog 92 = some [.nils] := by kernel_rfl
@[simp] theorem ty92_sl : slE Tryz.prog 92 = some 107 := by kernel_rfl
@[simp] theorem ty95_csz : csz Tryz.prog 95 = some 5 := by kernel_rfl
@[simp] theorem ty95_bsz : bsz Tryz.prog 95 = 88 := by kernel_rfl
@[simp] theorem ty95_agg : aggT Tryz.prog 95 = some true := by kernel_rfl
@[simp] theorem ty95_zero : zeroC Tryz.prog 95 = some [.int .i64 0, .int .i64 0, .nils, .nils, .nils] := by kernel_rfl
@[simp] theorem ty95_f0 : fPl Tryz.prog 95 0 = some (0, 1) := by kernel_rfl
@[simp] theorem ty95_t0 : fTy Tryz.prog 95 0 = some 3 := by kernel_rfl
@[simp] theorem ty95_f1 : fPl Tryz.prog 95 1 = some (1, 1) := by kernel_rfl
@[simp] theorem ty95_t1 : fTy Tryz.prog 95 1 = some 3 := by kernel_rfl
@[simp] theorem ty95_f2 : fPl Tryz.prog 95 2 = some (2, 1) := by kernel_rfl
@[simp] theorem ty95_t2 : fTy Tryz.prog 95 2 = some 27 := by kernel_rfl
@[simp] theorem ty95_f3 : fPl Tryz.prog 95 3 = some (3, 1) := by kernel_rfl
@[simp] theorem ty95_t3 : fTy Tryz.prog 95 3 = some 27 := by kernel_rfl
@[simp] theorem ty95_f4 : fPl Tryz.prog 95 4 = some (4, 1) := by kernel_rfl
@[simp] theorem ty95_t4 : fTy Tryz.prog 95 4 = some 27 := by kernel_rfl
@[simp] theorem ty95_ok : okF Tryz.prog 95 = true := by kernel_rfl
@[simp] theorem ty96_csz : csz Tryz.prog 96 = some 5 := by kernel_rfl
@[simp] theorem ty96_bsz : bsz Tryz.prog 96 = 88 := by kernel_rfl
@[simp] theorem ty96_agg : aggT Tryz.prog 96 = some true := by kernel_rfl
@[simp] theorem ty96_zero : zeroC Tryz.prog 96 = some [.int .i64 0, .int .i64 0, .nils, .nils, .nils] := by kernel_rfl
@[simp] theorem ty96_f0 : fPl Tryz.prog 96 0 = some (0, 1) := by kernel_rfl
@[simp] theorem ty96_t0 : fTy Tryz.prog 96 0 = some 3 := by kernel_rfl
@[simp] theorem ty96_f1 : fPl Tryz.prog 96 1 = some (1, 1) := by kernel_rfl
@[simp] theorem ty96_t1 : fTy Tryz.prog 96 1 = some 3 := by kernel_rfl
@[simp] theorem ty96_f2 : fPl Tryz.prog 96 2 = some (2, 1) := by kernel_rfl
@[simp] theorem ty96_t2 : fTy Tryz.prog 96 2 = some 27 := by kernel_rfl
@[simp] theorem ty96_f3 : fPl Tryz.prog 96 3 = some (3, 1) := by kernel_rfl
@[simp] theorem ty96_t3 : fTy Tryz.prog 96 3 = some 27 := by kernel_rfl
@[simp] theorem ty96_f4 : fPl Tryz.prog 96 4 = some (4, 1) := by kernel_rfl
@[simp] theorem ty96_t4 : fTy Tryz.prog 96 4 = some 27 := by kernel_rfl
@[simp] theorem ty96_ok : okF Tryz.prog 96 = true := by kernel_rfl
@[simp] theorem ty104_csz : csz Tryz.prog 104 = some 1 := by kernel_rfl
@[simp] theorem ty104_bsz : bsz Tryz.prog 104 = 8 := by kernel_rfl
@[simp] theorem ty104_agg : aggT Tryz.prog 104 = some false := by kernel_rfl
@[simp] theorem ty104_zero : zeroC Tryz.prog 104 = some [.nilp] := by kernel_rfl
@[simp] theorem ty104_ptr : isPtr Tryz.prog 104 = true := by kernel_rfl
@[simp] theorem ty105_csz : csz Tryz.prog 105 = some 3 := by kernel_rfl
@[simp] theorem ty105_bsz : bsz Tryz.prog 105 = 24 := by kernel_rfl
@[simp] theorem ty105_agg : aggT Tryz.prog 105 = some true := by kernel_rfl
@[simp] theorem ty105_zero : zeroC Tryz.prog 105 = some [.int .i64 0, .int .i64 0, .int .i64 0] := by kernel_rfl
@[simp] theorem ty105_f0 : fPl Tryz.prog 105 0 = some (0, 1) := by kernel_rfl
@[simp] theorem ty105_t0 : fTy Tryz.prog 105 0 = some 3 := by kernel_rfl
@[simp] theorem ty105_f1 : fPl Tryz.prog 105 1 = some (1, 1) := by kernel_rfl
@[simp] theorem ty105_t1 : fTy Tryz.prog 105 1 = some 3 := by kernel_rfl
@[simp] theorem ty105_f2 : fPl Tryz.prog 105 2 = some (2, 1) := by kernel_rfl
@[simp] theorem ty105_t2 : fTy Tryz.prog 105 2 = some 3 := by kernel_rfl
@[simp] theorem ty105_ok : okF Tryz.prog 105 = true := by kernel_rfl
@[simp] theorem ty106_csz : csz Tryz.prog 106 = some 3 := by kernel_rfl
@[simp] theorem ty106_bsz : bsz Tryz.prog 106 = 24 := by kernel_rfl
@[simp] theorem ty106_agg : aggT Tryz.prog 106 = some true := by kernel_rfl
@[simp] theorem ty106_zero : zeroC Tryz.prog 106 = some [.int .i64 0, .int .i64 0, .int .i64 0] := by kernel_rfl
@[simp] theorem ty106_f0 : fPl Tryz.prog 106 0 = some (0, 1) := by kernel_rfl
@[simp] theorem ty106_t0 : fTy Tryz.prog 106 0 = some 3 := by kernel_rfl
@[simp] theorem ty106_f1 : fPl Tryz.prog 106 1 = some (1, 1) := by kernel_rfl
@[simp] theorem ty106_t1 : fTy Tryz.prog 106 1 = some 3 := by kernel_rfl
@[simp] theorem ty106_f2 : fPl Tryz.prog 106 2 = some (2, 1) := by kernel_rfl
@[simp] theorem ty106_t2 : fTy Tryz.prog 106 2 = some 3 := by kernel_rfl
@[simp] theorem ty106_eq : eqFs Tryz.prog 106 = some [(0, 1), (1, 1), (2, 1)] := by kernel_rfl
@[simp] theorem ty106_ok : okF Tryz.prog 106 = true := by kernel_rfl
@[simp] theorem ty107_csz : csz Tryz.prog 107 = some 1 := by kernel_rfl
@[simp] theorem ty107_bsz : bsz Tryz.prog 107 = 8 := by kernel_rfl
@[simp] theorem ty107_agg : aggT Tryz.prog 107 = some false := by kernel_rfl
@[simp] theorem ty107_zero : zeroC Tryz.prog 107 = some [.nilp] := by kernel_rfl
@[simp] theorem ty107_ptr : isPtr Tryz.prog 107 = true := by kernel_rfl
@[simp] theorem ty131_csz : csz Tryz.prog 131 = some 1 := by kernel_rfl
@[simp] theorem ty131_bsz : bsz Tryz.prog 131 = 24 := by kernel_rfl
@[simp] theorem ty131_agg : aggT Tryz.prog 131 = some false := by kernel_rfl
@[simp] theorem ty131_zero : zeroC Tryz.prog 131 = some [.nils] := by kernel_rfl
@[simp] theorem ty131_sl : slE Tryz.prog 131 = some 30 := by kernel_rfl
@[simp] theorem ty143_csz : csz Tryz.prog 143 = some 5 := by kernel_rfl
@[simp] theorem ty143_bsz : bsz Tryz.prog 143 = 88 := by kernel_rfl
@[simp] theorem ty143_agg : aggT Tryz.prog 143 = some true := by kernel_rfl
@[simp] theorem ty143_zero : zeroC Tryz.prog 143 = some [.int .i64 0, .nils, .bool false, .nils, .nils] := by kernel_rfl
@[simp] theorem ty143_f0 : fPl Tryz.prog 143 0 = some (0, 1) := by kernel_rfl
@[simp] theorem ty143_t0 : fTy Tryz.prog 143 0 = some 3 := by kernel_rfl
@[simp] theorem ty143_f1 : fPl Tryz.prog 143 1 = some (1, 1) := by kernel_rfl
@[simp] theorem ty143_t1 : fTy Tryz.prog 143 1 = some 30 := by kernel_rfl
@[simp] theorem ty143_f2 : fPl Tryz.prog 143 2 = some (2, 3) := by kernel_rfl
@[simp] theorem ty143_t2 : fTy Tryz.prog 143 2 = some 42 := by kernel_rfl
@[simp] theorem ty143_ok : okF Tryz.prog 143 = true := by kernel_rfl
@[simp] theorem ty144_csz : csz Tryz.prog 144 = some 5 := by kernel_rfl
@[simp] theorem ty144_bsz : bsz Tryz.prog 144 = 88 := by kernel_rfl
@[simp] theorem ty144_agg : aggT Tryz.prog 144 = some true := by kernel_rfl
@[simp] theorem ty144_zero : zeroC Tryz.prog 144 = some [.int .i64 0, .nils, .bool false, .nils, .nils] := by kernel_rfl
@[simp] theorem ty144_f0 : fPl Tryz.prog 144 0 = some (0, 1) := by kernel_rfl
@[simp] theorem ty144_t0 : fTy Tryz.prog 144 0 = some 3 := by kernel_rfl
@[simp] theorem ty144_f1 : fPl Tryz.prog 144 1 = some (1, 1) := by kernel_rfl
@[simp] theorem ty144_t1 : fTy Tryz.prog 144 1 = some 30 := by kernel_rfl
@[simp] theorem ty144_f2 : fPl Tryz.prog 144 2 = some (2, 3) := by kernel_rfl
@[simp] theorem ty144_t2 : fTy Tryz.prog 144 2 = some 42 := by kernel_rfl
@[simp] theorem ty144_ok : okF Tryz.prog 144 = true := by kernel_rfl
@[simp] theorem ty148_csz : csz Tryz.prog 148 = some 1 := by kernel_rfl
@[simp] theorem ty148_bsz : bsz Tryz.prog 148 = 8 := by kernel_rfl
@[simp] theorem ty148_agg : aggT Tryz.prog 148 = some false := by kernel_rfl
@[simp] theorem ty148_zero : zeroC Tryz.prog 148 = some [.nilp] := by kernel_rfl
@[simp] theorem ty148_ptr : isPtr Tryz.prog 148 = true := by kernel_rfl
@[simp] theorem ty151_csz : csz Tryz.prog 151 = some 1 := by kernel_rfl
@[simp] theorem ty151_bsz : bsz Tryz.prog 151 = 8 := by kernel_rfl
@[simp] theorem ty151_agg : aggT Tryz.prog 151 = some false := by kernel_rfl
@[simp] theorem ty151_zero : zeroC Tryz.prog 151 = some [.nilp] := by kernel_rfl
@[simp] theorem ty151_ptr : isPtr Tryz.prog 151 = true := by kernel_rfl
@[simp] theorem ty163_csz : csz Tryz.prog 163 = some 3 := by kernel_rfl
@[simp] theorem ty163_bsz : bsz Tryz.prog 163 = 40 := by kernel_rfl
@[simp] theorem ty163_agg : aggT Tryz.prog 163 = some true := by kernel_rfl
@[simp] theorem ty163_zero : zeroC Tryz.prog 163 = some [.nils, .int .i64 0, .int .i64 0] := by kernel_rfl
@[simp] theorem ty163_f0 : fPl Tryz.prog 163 0 = some (0, 1) := by kernel_rfl
@[simp] theorem ty163_t0 : fTy Tryz.prog 163 0 = some 22 := by kernel_rfl
@[simp] theorem ty163_f1 : fPl Tryz.prog 163 1 = some (1, 1) := by kernel_rfl
@[simp] theorem ty163_t1 : fTy Tryz.prog 163 1 = some 3 := by kernel_rfl
@[simp] theorem ty163_f2 : fPl Tryz.prog 163 2 = some (2, 1) := by kernel_rfl
@[simp] theorem ty163_t2 : fTy Tryz.prog 163 2 = some 3 := by kernel_rfl
@[simp] theorem ty163_ok : okF Tryz.prog 163 = true := by kernel_rfl
@[simp] theorem ty164_csz : csz Tryz.prog 164 = some 3 := by kernel_rfl
@[simp] theorem ty164_bsz : bsz Tryz.prog 164 = 40 := by kernel_rfl
@[simp] theorem ty164_agg : aggT Tryz.prog 164 = some true := by kernel_rfl
@[simp] theorem ty164_zero : zeroC Tryz.prog 164 = some [.nils, .int .i64 0, .int .i64 0] := by kernel_rfl
@[simp] theorem ty164_f0 : fPl Tryz.prog 164 0 = some (0, 1) := by kernel_rfl
@[simp] theorem ty164_t0 : fTy Tryz.prog 164 0 = some 22 := by kernel_rfl
@[simp] theorem ty164_f1 : fPl Tryz.prog 164 1 = some (1, 1) := by kernel_rfl
@[simp] theorem ty164_t1 : fTy Tryz.prog 164 1 = some 3 := by kernel_rfl
@[simp] theorem ty164_f2 : fPl Tryz.prog 164 2 = some (2, 1) := by kernel_rfl
@[simp] theorem ty164_t2 : fTy Tryz.prog 164 2 = some 3 := by kernel_rfl
@[simp] theorem ty164_ok : okF Tryz.prog 164 = true := by kernel_rfl
@[simp] theorem ty167_csz : csz Tryz.prog 167 = some 1 := by kernel_rfl
@[simp] theorem ty167_bsz : bsz Tryz.prog 167 = 24 := by kernel_rfl
@[simp] theorem ty167_agg : aggT Tryz.prog 167 = some false := by kernel_rfl
@[simp] theorem ty167_zero : zeroC Tryz.prog 167 = some [.nils] := by kernel_rfl
@[simp] theorem ty167_sl : slE Tryz.prog 167 = some 172 := by kernel_rfl
@[simp] theorem ty171_csz : csz Tryz.prog 171 = some 2 := by kernel_rfl
@[simp] theorem ty171_bsz : bsz Tryz.prog 171 = 16 := by kernel_rfl
@[simp] theorem ty171_agg : aggT Tryz.prog 171 = some true := by kernel_rfl
@[simp] theorem ty171_zero : zeroC Tryz.prog 171 = some [.int .i64 0, .int .i64 0] := by kernel_rfl
@[simp] theorem ty171_f0 : fPl Tryz.prog 171 0 = some (0, 1) := by kernel_rfl
@[simp] theorem ty171_t0 : fTy Tryz.prog 171 0 = some 3 := by kernel_rfl
@[simp] theorem ty171_f1 : fPl Tryz.prog 171 1 = some (1, 1) := by kernel_rfl
@[simp] theorem ty171_t1 : fTy Tryz.prog 171 1 = some 3 := by kernel_rfl
@[simp] theorem ty171_eq : eqFs Tryz.prog 171 = some [(0, 1), (1, 1)] := by kernel_rfl
@[simp] theorem ty171_ok : okF Tryz.prog 171 = true := by kernel_rfl
@[simp] theorem ty172_csz : csz Tryz.prog 172 = some 2 := by kernel_rfl
@[simp] theorem ty172_bsz : bsz Tryz.prog 172 = 16 := by kernel_rfl
@[simp] theorem ty172_agg : aggT Tryz.prog 172 = some true := by kernel_rfl
@[simp] theorem ty172_zero : zeroC Tryz.prog 172 = some [.int .i64 0, .int .i64 0] := by kernel_rfl
@[simp] theorem ty172_f0 : fPl Tryz.prog 172 0 = some (0, 1) := by kernel_rfl
@[simp] theorem ty172_t0 : fTy Tryz.prog 172 0 = some 3 := by kernel_rfl
@[simp] theorem ty172_f1 : fPl Tryz.prog 172 1 = some (1, 1) := by kernel_rfl
@[simp] theorem ty172_t1 : fTy Tryz.prog 172 1 = some 3 := by kernel_rfl
@[simp] theorem ty172_eq : eqFs Tryz.prog 172 = some [(0, 1), (1, 1)] := by kernel_rfl
@[simp] theorem ty172_ok : okF Tryz.prog 172 = true := by kernel_rfl
@[simp] theorem ty177_csz : csz Tryz.prog 177 = some 3 := by kernel_rfl
@[simp] theorem ty177_bsz : bsz Tryz.prog 177 = 56 := by kernel_rfl
@[simp] theorem ty177_agg : aggT Tryz.prog 177 = some true := by kernel_rfl
@[simp] theorem ty177_zero : zeroC Tryz.prog 177 = some [.bool false, .nils, .nils] := by kernel_rfl
@[simp] theorem ty177_f0 : fPl Tryz.prog 177 0 = some (0, 2) := by kernel_rfl
@[simp] theorem ty177_t0 : fTy Tryz.prog 177 0 = some 40 := by kernel_rfl
@[simp] theorem ty177_f1 : fPl Tryz.prog 177 1 = some (2, 1) := by kernel_rfl
@[simp] theorem ty177_t1 : fTy Tryz.prog 177 1 = some 27 := by kernel_rfl
@[simp] theorem ty177_ok : okF Tryz.prog 177 = true := by kernel_rfl
@[simp] theorem ty178_csz : csz Tryz.prog 178 = some 3 := by kernel_rfl
@[simp] theorem ty178_bsz : bsz Tryz.prog 178 = 56 := by kernel_rfl
@[simp] theorem ty178_agg : aggT Tryz.prog 178 = some true := by kernel_rfl
@[simp] theorem ty178_zero : zeroC Tryz.prog 178 = some [.bool false, .nils, .nils] := by kernel_rfl
@[simp] theorem ty178_f0 : fPl Tryz.prog 178 0 = some (0, 2) := by kernel_rfl
@[simp] theorem ty178_t0 : fTy Tryz.prog 178 0 = some 40 := by kernel_rfl
@[simp] theorem ty178_f1 : fPl Tryz.prog 178 1 = some (2, 1) := by kernel_rfl
@[simp] theorem ty178_t1 : fTy Tryz.prog 178 1 = some 27 := by kernel_rfl
@[simp] theorem ty178_ok : okF Tryz.prog 178 = true := by kernel_rfl
@[simp] theorem ty197_csz : csz Tryz.prog 197 = some 1 := by kernel_rfl
@[simp] theorem ty197_bsz : bsz Tryz.prog 197 = 24 := by kernel_rfl
@[simp] theorem ty197_agg : aggT Tryz.prog 197 = some false := by kernel_rfl
@[simp] theorem ty197_zero : zeroC Tryz.prog 197 = some [.nils] := by kernel_rfl
@[simp] theorem ty197_sl : slE Tryz.prog 197 = some 92 := by kernel_rfl
@[simp] theorem ty199_csz : csz Tryz.prog 199 = some 3 := by kernel_rfl
@[simp] theorem ty199_bsz : bsz Tryz.prog 199 = 40 := by kernel_rfl
@[simp] theorem ty199_agg : aggT Tryz.prog 199 = some true := by kernel_rfl
@[simp] theorem ty199_zero : zeroC Tryz.prog 199 = some [.int .i64 0, .int .i64 0, .nils] := by kernel_rfl
@[simp] theorem ty199_f0 : fPl Tryz.prog 199 0 = some (0, 1) := by kernel_rfl
@[simp] theorem ty199_t0 : fTy Tryz.prog 199 0 = some 3 := by kernel_rfl
@[simp] theorem ty199_f1 : fPl Tryz.prog 199 1 = some (1, 1) := by kernel_rfl
@[simp] theorem ty199_t1 : fTy Tryz.prog 199 1 = some 3 := by kernel_rfl
@[simp] theorem ty199_f2 : fPl Tryz.prog 199 2 = some (2, 1) := by kernel_rfl
@[simp] theorem ty199_t2 : fTy Tryz.prog 199 2 = some 197 := by kernel_rfl
@[simp] theorem ty199_ok : okF Tryz.prog 199 = true := by kernel_rfl
@[simp] theorem ty200_csz : csz Tryz.prog 200 = some 3 := by kernel_rfl
@[simp] theorem ty200_bsz : bsz Tryz.prog 200 = 40 := by kernel_rfl
@[simp] theorem ty200_agg : aggT Tryz.prog 200 = some true := by kernel_rfl
@[simp] theorem ty200_zero : zeroC Tryz.prog 200 = some [.int .i64 0, .int .i64 0, .nils] := by kernel_rfl
@[simp] theorem ty200_f0 : fPl Tryz.prog 200 0 = some (0, 1) := by kernel_rfl
@[simp] theorem ty200_t0 : fTy Tryz.prog 200 0 = some 3 := by kernel_rfl
@[simp] theorem ty200_f1 : fPl Tryz.prog 200 1 = some (1, 1) := by kernel_rfl
@[simp] theorem ty200_t1 : fTy Tryz.prog 200 1 = some 3 := by kernel_rfl
@[simp] theorem ty200_f2 : fPl Tryz.prog 200 2 = some (2, 1) := by kernel_rfl
@[simp] theorem ty200_t2 : fTy Tryz.prog 200 2 = some 197 := by kernel_rfl
@[simp] theorem ty200_ok : okF Tryz.prog 200 = true := by kernel_rfl
@[simp] theorem ty207_csz : csz Tryz.prog 207 = some 4 := by kernel_rfl
@[simp] theorem ty207_bsz : bsz Tryz.prog 207 = 40 := by kernel_rfl
@[simp] theorem ty207_agg : aggT Tryz.prog 207 = some true := by kernel_rfl
@[simp] theorem ty207_zero : zeroC Tryz.prog 207 = some [.str ⟨#[]⟩, .int .i64 0, .int .i64 0, .bool false] := by kernel_rfl
@[simp] theorem ty207_f0 : fPl Tryz.prog 207 0 = some (0, 1) := by kernel_rfl
@[simp] theorem ty207_t0 : fTy Tryz.prog 207 0 = some 9 := by kernel_rfl
@[simp] theorem ty207_f1 : fPl Tryz.prog 207 1 = some (1, 1) := by kernel_rfl
@[simp] theorem ty207_t1 : fTy Tryz.prog 207 1 = some 3 := by kernel_rfl
@[simp] theorem ty207_f2 : fPl Tryz.prog 207 2 = some (2, 1) := by kernel_rfl
@[simp] theorem ty207_t2 : fTy Tryz.prog 207 2 = some 3 := by kernel_rfl
@[simp] theorem ty207_f3 : fPl Tryz.prog 207 3 = some (3, 1) := by kernel_rfl
@[simp] theorem ty207_t3 : fTy Tryz.prog 207 3 = some 4 := by kernel_rfl
@[simp] theorem ty207_eq : eqFs Tryz.prog 207 = some [(0, 2), (1, 1), (2, 1), (3, 0)] := by kernel_rfl
@[simp] theorem ty207_ok : okF Tryz.prog 207 = true := by kernel_rfl
@[simp] theorem ty208_csz : csz Tryz.prog 208 = some 1 := by kernel_rfl
@[simp] theorem ty208_bsz : bsz Tryz.prog 208 = 8 := by kernel_rfl
@[simp] theorem ty208_agg : aggT Tryz.prog 208 = some false := by kernel_rfl
@[simp] theorem ty208_zero : zeroC Tryz.prog 208 = some [.nilp] := by kernel_rfl
@[simp] theorem ty208_ptr : isPtr Tryz.prog 208 = true := by kernel_rfl
@[simp] theorem ty211_csz : csz Tryz.prog 211 = some 4 := by kernel_rfl
@[simp] theorem ty211_bsz : bsz Tryz.prog 211 = 80 := by kernel_rfl
@[simp] theorem ty211_agg : aggT Tryz.prog 211 = some true := by kernel_rfl
@[simp] theorem ty211_zero : zeroC Tryz.prog 211 = some [.int .i64 0, .nils, .nils, .nils] := by kernel_rfl
@[simp] theorem ty211_f0 : fPl Tryz.prog 211 0 = some (0, 1) := by kernel_rfl
@[simp] theorem ty211_t0 : fTy Tryz.prog 211 0 = some 3 := by kernel_rfl
@[simp] theorem ty211_f1 : fPl Tryz.prog 211 1 = some (1, 1) := by kernel_rfl
@[simp] theorem ty211_t1 : fTy Tryz.prog 211 1 = some 131 := by kernel_rfl
@[simp] theorem ty211_f2 : fPl Tryz.prog 211 2 = some (2, 1) := by kernel_rfl
@[simp] theorem ty211_t2 : fTy Tryz.prog 211 2 = some 27 := by kernel_rfl
@[simp] theorem ty211_f3 : fPl Tryz.prog 211 3 = some (3, 1) := by kernel_rfl
@[simp] theorem ty211_t3 : fTy Tryz.prog 211 3 = some 30 := by kernel_rfl
@[simp] theorem ty211_ok : okF Tryz.prog 211 = true := by kernel_rfl
@[simp] theorem ty212_csz : csz Tryz.prog 212 = some 4 := by kernel_rfl
@[simp] theorem ty212_bsz : bsz Tryz.prog 212 = 80 := by kernel_rfl
@[simp] theorem ty212_agg : aggT Tryz.prog 212 = some true := by kernel_rfl
@[simp] theorem ty212_zero : zeroC Tryz.prog 212 = some [.int .i64 0, .nils, .nils, .nils] := by kernel_rfl
@[simp] theorem ty212_f0 : fPl Tryz.prog 212 0 = some (0, 1) := by kernel_rfl
@[simp] theorem ty212_t0 : fTy Tryz.prog 212 0 = some 3 := by kernel_rfl
@[simp] theorem ty212_f1 : fPl Tryz.prog 212 1 = some (1, 1) := by kernel_rfl
@[simp] theorem ty212_t1 : fTy Tryz.prog 212 1 = some 131 := by kernel_rfl
@[simp] theorem ty212_f2 : fPl Tryz.prog 212 2 = some (2, 1) := by kernel_rfl
@[simp] theorem ty212_t2 : fTy Tryz.prog 212 2 = some 27 := by kernel_rfl
@[simp] theorem ty212_f3 : fPl Tryz.prog 212 3 = some (3, 1) := by kernel_rfl
@[simp] theorem ty212_t3 : fTy Tryz.prog 212 3 = some 30 := by kernel_rfl
@[simp] theorem ty212_ok : okF Tryz.prog 212 = true := by kernel_rfl
@[simp] theorem ty217_csz : csz Tryz.prog 217 = some 3 := by kernel_rfl
@[simp] theorem ty217_bsz : bsz Tryz.prog 217 = 24 := by kernel_rfl
@[simp] theorem ty217_agg : aggT Tryz.prog 217 = some true := by kernel_rfl
@[simp] theorem ty217_zero : zeroC Tryz.prog 217 = some [.int .i64 0, .int .i64 0, .int .i64 0] := by kernel_rfl
@[simp] theorem ty217_f0 : fPl Tryz.prog 217 0 = some (0, 1) := by kernel_rfl
@[simp] theorem ty217_t0 : fTy Tryz.prog 217 0 = some 3 := by kernel_rfl
@[simp] theorem ty217_f1 : fPl Tryz.prog 217 1 = some (1, 1) := by kernel_rfl
@[simp] theorem ty217_t1 : fTy Tryz.prog 217 1 = some 3 := by kernel_rfl
@[simp] theorem ty217_f2 : fPl Tryz.prog 217 2 = some (2, 1) := by kernel_rfl
@[simp] theorem ty217_t2 : fTy Tryz.prog 217 2 = some 3 := by kernel_rfl
@[simp] theorem ty217_eq : eqFs Tryz.prog 217 = some [(0, 1), (1, 1), (2, 1)] := by kernel_rfl
@[simp] theorem ty217_ok : okF Tryz.prog 217 = true := by kernel_rfl
@[simp] theorem ty222_csz : csz Tryz.prog 222 = some 1 := by kernel_rfl
@[simp] theorem ty222_bsz : bsz Tryz.prog 222 = 24 := by kernel_rfl
@[simp] theorem ty222_agg : aggT Tryz.prog 222 = some false := by kernel_rfl
@[simp] theorem ty222_zero : zeroC Tryz.prog 222 = some [.nils] := by kernel_rfl
@[simp] theorem ty222_sl : slE Tryz.prog 222 = some 4 := by kernel_rfl
@[simp] theorem ty223_csz : csz Tryz.prog 223 = some 1 := by kernel_rfl
@[simp] theorem ty223_bsz : bsz Tryz.prog 223 = 24 := by kernel_rfl
@[simp] theorem ty223_agg : aggT Tryz.prog 223 = some false := by kernel_rfl
@[simp] theorem ty223_zero : zeroC Tryz.prog 223 = some [.nils] := by kernel_rfl
@[simp] theorem ty223_sl : slE Tryz.prog 223 = some 226 := by kernel_rfl
@[simp] theorem ty224_csz : csz Tryz.prog 224 = some 6 := by kernel_rfl
@[simp] theorem ty224_bsz : bsz Tryz.prog 224 = 112 := by kernel_rfl
@[simp] theorem ty224_agg : aggT Tryz.prog 224 = some true := by kernel_rfl
@[simp] theorem ty224_zero : zeroC Tryz.prog 224 = some [.nils, .bool false, .nils, .nils, .int .i64 0, .nils] := by kernel_rfl
@[simp] theorem ty224_f0 : fPl Tryz.prog 224 0 = some (0, 1) := by kernel_rfl
@[simp] theorem ty224_t0 : fTy Tryz.prog 224 0 = some 223 := by kernel_rfl
@[simp] theorem ty224_f1 : fPl Tryz.prog 224 1 = some (1, 2) := by kernel_rfl
@[simp] theorem ty224_t1 : fTy Tryz.prog 224 1 = some 40 := by kernel_rfl
@[simp] theorem ty224_f2 : fPl Tryz.prog 224 2 = some (3, 1) := by kernel_rfl
@[simp] theorem ty224_t2 : fTy Tryz.prog 224 2 = some 27 := by kernel_rfl
@[simp] theorem ty224_f3 : fPl Tryz.prog 224 3 = some (4, 1) := by kernel_rfl
@[simp] theorem ty224_t3 : fTy Tryz.prog 224 3 = some 3 := by kernel_rfl
@[simp] theorem ty224_f4 : fPl Tryz.prog 224 4 = some (5, 1) := by kernel_rfl
@[simp] theorem ty224_t4 : fTy Tryz.prog 224 4 = some 222 := by kernel_rfl
@[simp] theorem ty224_ok : okF Tryz.prog 224 = true := by kernel_rfl
@[simp] theorem ty225_csz : csz Tryz.prog 225 = some 6 := by kernel_rfl
@[simp] theorem ty225_bsz : bsz Tryz.prog 225 = 112 := by kernel_rfl
@[simp] theorem ty225_agg : aggT Tryz.prog 225 = some true := by kernel_rfl
@[simp] theorem ty225_zero : zeroC Tryz.prog 225 = some [.nils, .bool false, .nils, .nils, .int .i64 0, .nils] := by kernel_rfl
@[simp] theorem ty225_f0 : fPl Tryz.prog 225 0 = some (0, 1) := by kernel_rfl
@[simp] theorem ty225_t0 : fTy Tryz.prog 225 0 = some 223 := by kernel_rfl
@[simp] theorem ty225_f1 : fPl Tryz.prog 225 1 = some (1, 2) := by kernel_rfl
@[simp] theorem ty225_t1 : fTy Tryz.prog 225 1 = some 40 := by kernel_rfl
@[simp] theorem ty225_f2 : fPl Tryz.prog 225 2 = some (3, 1) := by kernel_rfl
@[simp] theorem ty225_t2 : fTy Tryz.prog 225 2 = some 27 := by kernel_rfl
@[simp] theorem ty225_f3 : fPl Tryz.prog 225 3 = some (4, 1) := by kernel_rfl
@[simp] theorem ty225_t3 : fTy Tryz.prog 225 3 = some 3 := by kernel_rfl
@[simp] theorem ty225_f4 : fPl Tryz.prog 225 4 = some (5, 1) := by kernel_rfl
@[simp] theorem ty225_t4 : fTy Tryz.prog 225 4 = some 222 := by kernel_rfl
@[simp] theorem ty225_ok : okF Tryz.prog 225 = true := by kernel_rfl
@[simp] theorem ty226_csz : csz Tryz.prog 226 = some 1 := by kernel_rfl
@[simp] theorem ty226_bsz : bsz Tryz.prog 226 = 24 := by kernel_rfl
@[simp] theorem ty226_agg : aggT Tryz.prog 226 = some false := by kernel_rfl
@[simp] theorem ty226_zero : zeroC Tryz.prog 226 = some [.nils] := by kernel_rfl
@[simp] theorem ty226_sl : slE Tryz.prog 226 = some 40 := by kernel_rfl
@[simp] theorem ty242_csz : csz Tryz.prog 242 = some 1 := by kernel_rfl
@[simp] theorem ty242_bsz : bsz Tryz.prog 242 = 8 := by kernel_rfl
@[simp] theorem ty242_agg : aggT Tryz.prog 242 = some false := by kernel_rfl
@[simp] theorem ty242_zero : zeroC Tryz.prog 242 = some [.int .u64 0] := by kernel_rfl
@[simp] theorem ty242_int : isInt Tryz.prog 242 = some .u64 := by kernel_rfl
@[simp] theorem ty244_csz : csz Tryz.prog 244 = some 1 := by kernel_rfl
@[simp] theorem ty244_bsz : bsz Tryz.prog 244 = 8 := by kernel_rfl
@[simp] theorem ty244_agg : aggT Tryz.prog 244 = some false := by kernel_rfl
@[simp] theorem ty244_zero : zeroC Tryz.prog 244 = some [.int .u64 0] := by kernel_rfl
@[simp] theorem ty244_int : isInt Tryz.prog 244 = some .u64 := by kernel_rfl
@[simp] theorem ty252_csz : csz Tryz.prog 252 = some 5 := by kernel_rfl
@[simp] theorem ty252_bsz : bsz Tryz.prog 252 = 72 := by kernel_rfl
@[simp] theorem ty252_agg : aggT Tryz.prog 252 = some true := by kernel_rfl
@[simp] theorem ty252_zero : zeroC Tryz.prog 252 = some [.int .i64 0, .int .i64 0, .nils, .nils, .nilp] := by kernel_rfl
@[simp] theorem ty252_f0 : fPl Tryz.prog 252 0 = some (0, 3) := by kernel_rfl
@[simp] theorem ty252_t0 : fTy Tryz.prog 252 0 = some 200 := by kernel_rfl
@[simp] theorem ty252_f1 : fPl Tryz.prog 252 1 = some (3, 1) := by kernel_rfl
@[simp] theorem ty252_t1 : fTy Tryz.prog 252 1 = some 27 := by kernel_rfl
@[simp] theorem ty252_f2 : fPl Tryz.prog 252 2 = some (4, 1) := by kernel_rfl
@[simp] theorem ty252_t2 : fTy Tryz.prog 252 2 = some 107 := by kernel_rfl
@[simp] theorem ty252_ok : okF Tryz.prog 252 = true := by kernel_rfl
@[simp] theorem ty253_csz : csz Tryz.prog 253 = some 5 := by kernel_rfl
@[simp] theorem ty253_bsz : bsz Tryz.prog 253 = 72 := by kernel_rfl
@[simp] theorem ty253_agg : aggT Tryz.prog 253 = some true := by kernel_rfl
@[simp] theorem ty253_zero : zeroC Tryz.prog 253 = some [.int .i64 0, .int .i64 0, .nils, .nils, .nilp] := by kernel_rfl
@[simp] theorem ty253_f0 : fPl Tryz.prog 253 0 = some (0, 3) := by kernel_rfl
@[simp] theorem ty253_t0 : fTy Tryz.prog 253 0 = some 200 := by kernel_rfl
@[simp] theorem ty253_f1 : fPl Tryz.prog 253 1 = some (3, 1) := by kernel_rfl
@[simp] theorem ty253_t1 : fTy Tryz.prog 253 1 = some 27 := by kernel_rfl
@[simp] theorem ty253_f2 : fPl Tryz.prog 253 2 = some (4, 1) := by kernel_rfl
@[simp] theorem ty253_t2 : fTy Tryz.prog 253 2 = some 107 := by kernel_rfl
@[simp] theorem ty253_ok : okF Tryz.prog 253 = true := by kernel_rfl
@[simp] theorem ty256_csz : csz Tryz.prog 256 = some 1 := by kernel_rfl
@[simp] theorem ty256_bsz : bsz Tryz.prog 256 = 8 := by kernel_rfl
@[simp] theorem ty256_agg : aggT Tryz.prog 256 = some false := by kernel_rfl
@[simp] theorem ty276_csz : csz Tryz.prog 276 = some 1 := by kernel_rfl
@[simp] theorem ty276_bsz : bsz Tryz.prog 276 = 8 := by kernel_rfl
@[simp] theorem ty276_agg : aggT Tryz.prog 276 = some false := by kernel_rfl
@[simp] theorem ty276_zero : zeroC Tryz.prog 276 = some [.nilp] := by kernel_rfl
@[simp] theorem ty276_ptr : isPtr Tryz.prog 276 = true := by kernel_rfl
@[simp] theorem ty279_csz : csz Tryz.prog 279 = some 4 := by kernel_rfl
@[simp] theorem ty279_bsz : bsz Tryz.prog 279 = 40 := by kernel_rfl
@[simp] theorem ty279_agg : aggT Tryz.prog 279 = some true := by kernel_rfl
@[simp] theorem ty279_zero : zeroC Tryz.prog 279 = some [.nilp, .nilp, .nilp, .str ⟨#[]⟩] := by kernel_rfl
@[simp] theorem ty279_f0 : fPl Tryz.prog 279 0 = some (0, 1) := by kernel_rfl
@[simp] theorem ty279_t0 : fTy Tryz.prog 279 0 = some 17 := by kernel_rfl
@[simp] theorem ty279_f1 : fPl Tryz.prog 279 1 = some (1, 1) := by kernel_rfl
@[simp] theorem ty279_t1 : fTy Tryz.prog 279 1 = some 17 := by kernel_rfl
@[simp] theorem ty279_f2 : fPl Tryz.prog 279 2 = some (2, 1) := by kernel_rfl
@[simp] theorem ty279_t2 : fTy Tryz.prog 279 2 = some 17 := by kernel_rfl
@[simp] theorem ty279_f3 : fPl Tryz.prog 279 3 = some (3, 1) := by kernel_rfl
@[simp] theorem ty279_t3 : fTy Tryz.prog 279 3 = some 9 := by kernel_rfl
@[simp] theorem ty279_ok : okF Tryz.prog 279 = true := by kernel_rfl
@[simp] theorem ty280_csz : csz Tryz.prog 280 = some 4 := by kernel_rfl
@[simp] theorem ty280_bsz : bsz Tryz.prog 280 = 40 := by kernel_rfl
@[simp] theorem ty280_agg : aggT Tryz.prog 280 = some true := by kernel_rfl
@[simp] theorem ty280_zero : zeroC Tryz.prog 280 = some [.nilp, .nilp, .nilp, .str ⟨#[]⟩] := by kernel_rfl
@[simp] theorem ty280_f0 : fPl Tryz.prog 280 0 = some (0, 1) := by kernel_rfl
@[simp] theorem ty280_t0 : fTy Tryz.prog 280 0 = some 17 := by kernel_rfl
@[simp] theorem ty280_f1 : fPl Tryz.prog 280 1 = some (1, 1) := by kernel_rfl
@[simp] theorem ty280_t1 : fTy Tryz.prog 280 1 = some 17 := by kernel_rfl
@[simp] theorem ty280_f2 : fPl Tryz.prog 280 2 = some (2, 1) := by kernel_rfl
@[simp] theorem ty280_t2 : fTy Tryz.prog 280 2 = some 17 := by kernel_rfl
@[simp] theorem ty280_f3 : fPl Tryz.prog 280 3 = some (3, 1) := by kernel_rfl
@[simp] theorem ty280_t3 : fTy Tryz.prog 280 3 = some 9 := by kernel_rfl
@[simp] theorem ty280_ok : okF Tryz.prog 280 = true := by kernel_rfl
@[simp] theorem ty282_csz : csz Tryz.prog 282 = some 0 := by kernel_rfl
@[simp] theorem ty282_bsz : bsz Tryz.prog 282 = 0 := by kernel_rfl
@[simp] theorem ty282_agg : aggT Tryz.prog 282 = some true := by kernel_rfl
@[simp] theorem ty282_zero : zeroC Tryz.prog 282 = some [] := by kernel_rfl
@[simp] theorem ty283_csz : csz Tryz.prog 283 = some 0 := by kernel_rfl
@[simp] theorem ty283_bsz : bsz Tryz.prog 283 = 0 := by kernel_rfl
@[simp] theorem ty283_agg : aggT Tryz.prog 283 = some true := by kernel_rfl
@[simp] theorem ty283_zero : zeroC Tryz.prog 283 = some [] := by kernel_rfl
@[simp] theorem ty284_csz : csz Tryz.prog 284 = some 1 := by kernel_rfl
@[simp] theorem ty284_bsz : bsz Tryz.prog 284 = 4 := by kernel_rfl
@[simp] theorem ty284_agg : aggT Tryz.prog 284 = some false := by kernel_rfl
@[simp] theorem ty284_zero : zeroC Tryz.prog 284 = some [.int .u32 0] := by kernel_rfl
@[simp] theorem ty284_int : isInt Tryz.prog 284 = some .u32 := by kernel_rfl
@[simp] theorem ty285_csz : csz Tryz.prog 285 = some 1 := by kernel_rfl
@[simp] theorem ty285_bsz : bsz Tryz.prog 285 = 1 := by kernel_rfl
@[simp] theorem ty285_agg : aggT Tryz.prog 285 = some false := by kernel_rfl
@[simp] theorem ty285_zero : zeroC Tryz.prog 285 = some [.int .u8 0] := by kernel_rfl
@[simp] theorem ty285_int : isInt Tryz.prog 285 = some .u8 := by kernel_rfl
@[simp] theorem ty286_csz : csz Tryz.prog 286 = some 1 := by kernel_rfl
@[simp] theorem ty286_bsz : bsz Tryz.prog 286 = 1 := by kernel_rfl
@[simp] theorem ty286_agg : aggT Tryz.prog 286 = some false := by kernel_rfl
@[simp] theorem ty286_zero : zeroC Tryz.prog 286 = some [.int .u8 0] := by kernel_rfl
@[simp] theorem ty286_int : isInt Tryz.prog 286 = some .u8 := by kernel_rfl
@[simp] theorem ty288_csz : csz Tryz.prog 288 = some 1 := by kernel_rfl
@[simp] theorem ty288_bsz : bsz Tryz.prog 288 = 8 := by kernel_rfl
@[simp] theorem ty288_agg : aggT Tryz.prog 288 = some false := by kernel_rfl
@[simp] theorem ty288_zero : zeroC Tryz.prog 288 = some [.nilp] := by kernel_rfl
@[simp] theorem ty288_ptr : isPtr Tryz.prog 288 = true := by kernel_rfl
@[simp] theorem ty289_csz : csz Tryz.prog 289 = some 1 := by kernel_rfl
@[simp] theorem ty289_bsz : bsz Tryz.prog 289 = 4 := by kernel_rfl
@[simp] theorem ty289_agg : aggT Tryz.prog 289 = some false := by kernel_rfl
@[simp] theorem ty289_zero : zeroC Tryz.prog 289 = some [.int .i32 0] := by kernel_rfl
@[simp] theorem ty289_int : isInt Tryz.prog 289 = some .i32 := by kernel_rfl
@[simp] theorem ty290_csz : csz Tryz.prog 290 = some 1 := by kernel_rfl
@[simp] theorem ty290_bsz : bsz Tryz.prog 290 = 4 := by kernel_rfl
@[simp] theorem ty290_agg : aggT Tryz.prog 290 = some false := by kernel_rfl
@[simp] theorem ty290_zero : zeroC Tryz.prog 290 = some [.int .i32 0] := by kernel_rfl
@[simp] theorem ty290_int : isInt Tryz.prog 290 = some .i32 := by kernel_rfl
@[simp] theorem ty291_csz : csz Tryz.prog 291 = some 11 := by kernel_rfl
@[simp] theorem ty291_bsz : bsz Tryz.prog 291 = 48 := by kernel_rfl
@[simp] theorem ty291_agg : aggT Tryz.prog 291 = some true := by kernel_rfl
@[simp] theorem ty291_f0 : fPl Tryz.prog 291 0 = some (0, 1) := by kernel_rfl
@[simp] theorem ty291_t0 : fTy Tryz.prog 291 0 = some 12 := by kernel_rfl
@[simp] theorem ty291_f1 : fPl Tryz.prog 291 1 = some (1, 1) := by kernel_rfl
@[simp] theorem ty291_t1 : fTy Tryz.prog 291 1 = some 12 := by kernel_rfl
@[simp] theorem ty291_f2 : fPl Tryz.prog 291 2 = some (2, 1) := by kernel_rfl
@[simp] theorem ty291_t2 : fTy Tryz.prog 291 2 = some 284 := by kernel_rfl
@[simp] theorem ty291_f3 : fPl Tryz.prog 291 3 = some (3, 1) := by kernel_rfl
@[simp] theorem ty291_t3 : fTy Tryz.prog 291 3 = some 285 := by kernel_rfl
@[simp] theorem ty291_f4 : fPl Tryz.prog 291 4 = some (4, 1) := by kernel_rfl
@[simp] theorem ty291_t4 : fTy Tryz.prog 291 4 = some 5 := by kernel_rfl
@[simp] theorem ty291_f5 : fPl Tryz.prog 291 5 = some (5, 1) := by kernel_rfl
@[simp] theorem ty291_t5 : fTy Tryz.prog 291 5 = some 5 := by kernel_rfl
@[simp] theorem ty291_f6 : fPl Tryz.prog 291 6 = some (6, 1) := by kernel_rfl
@[simp] theorem ty291_t6 : fTy Tryz.prog 291 6 = some 286 := by kernel_rfl
@[simp] theorem ty291_f8 : fPl Tryz.prog 291 8 = some (8, 1) := by kernel_rfl
@[simp] theorem ty291_t8 : fTy Tryz.prog 291 8 = some 288 := by kernel_rfl
@[simp] theorem ty291_f9 : fPl Tryz.prog 291 9 = some (9, 1) := by kernel_rfl
@[simp] theorem ty291_t9 : fTy Tryz.prog 291 9 = some 289 := by kernel_rfl
@[simp] theorem ty291_f10 : fPl Tryz.prog 291 10 = some (10, 1) := by kernel_rfl
@[simp] theorem ty291_t10 : fTy Tryz.prog 291 10 = some 290 := by kernel_rfl
@[simp] theorem ty292_csz : csz Tryz.prog 292 = some 11 := by kernel_rfl
@[simp] theorem ty292_bsz : bsz Tryz.prog 292 = 48 := by kernel_rfl
@[simp] theorem ty292_agg : aggT Tryz.prog 292 = some true := by kernel_rfl
@[simp] theorem ty292_f0 : fPl Tryz.prog 292 0 = some (0, 1) := by kernel_rfl
@[simp] theorem ty292_t0 : fTy Tryz.prog 292 0 = some 12 := by kernel_rfl
@[simp] theorem ty292_f1 : fPl Tryz.prog 292 1 = some (1, 1) := by kernel_rfl
@[simp] theorem ty292_t1 : fTy Tryz.prog 292 1 = some 12 := by kernel_rfl
@[simp] theorem ty292_f2 : fPl Tryz.prog 292 2 = some (2, 1) := by kernel_rfl
@[simp] theorem ty292_t2 : fTy Tryz.prog 292 2 = some 284 := by kernel_rfl
@[simp] theorem ty292_f3 : fPl Tryz.prog 292 3 = some (3, 1) := by kernel_rfl
@[simp] theorem ty292_t3 : fTy Tryz.prog 292 3 = some 285 := by kernel_rfl
@[simp] theorem ty292_f4 : fPl Tryz.prog 292 4 = some (4, 1) := by kernel_rfl
@[simp] theorem ty292_t4 : fTy Tryz.prog 292 4 = some 5 := by kernel_rfl
@[simp] theorem ty292_f5 : fPl Tryz.prog 292 5 = some (5, 1) := by kernel_rfl
@[simp] theorem ty292_t5 : fTy Tryz.prog 292 5 = some 5 := by kernel_rfl
@[simp] theorem ty292_f6 : fPl Tryz.prog 292 6 = some (6, 1) := by kernel_rfl
@[simp] theorem ty292_t6 : fTy Tryz.prog 292 6 = some 286 := by kernel_rfl
@[simp] theorem ty292_f8 : fPl Tryz.prog 292 8 = some (8, 1) := by kernel_rfl
@[simp] theorem ty292_t8 : fTy Tryz.prog 292 8 = some 288 := by kernel_rfl
@[simp] theorem ty292_f9 : fPl Tryz.prog 292 9 = some (9, 1) := by kernel_rfl
@[simp] theorem ty292_t9 : fTy Tryz.prog 292 9 = some 289 := by kernel_rfl
@[simp] theorem ty292_f10 : fPl Tryz.prog 292 10 = some (10, 1) := by kernel_rfl
@[simp] theorem ty292_t10 : fTy Tryz.prog 292 10 = some 290 := by kernel_rfl
end Go.Proofs.YticmgmemnpcbbaaGreat.Vm

namespace Go.Proofs.YticmgmemnpcbbaaGreat.Vm
open Go Go.RowKit
set_option linter.unusedSimpArgs false
set_option linter.unusedVariables false

section
variable {α : Type} {k : α → Prop}
@[simp high] theorem bindP_if (c : Prop) [Decidable c] (o : Option α) : bindP (if c then o else none) k = (c ∧ bindP o k) := by
  by_cases h : c <;> simp [h]
@[simp] theorem none_if {β : Type} (c : Prop) [Decidable c] (b : β) (x : Option β) : ((if c then some b else x) = none) = (¬ c ∧ x = none) := by
  by_cases h : c <;> simp [h]
@[simp] theorem sub_refl (bl : Int → Option Blk) : Sub bl bl = True := eq_true (Sub.refl bl)
@[simp] theorem sub_upd {bl bl' : Int → Option Blk} {g : Int} {b : Option Blk} (h : bl g = none) : Sub bl (upd bl' g b) = Sub bl bl' := by
  apply propext
  constructor
  · intro hs g' b' hb
    have := hs g' b' hb
    rw [upd_ne _ _ _ _ (fun e => by subst e; rw [h] at hb; cases hb)] at this
    exact this
  · intro hs; exact hs.upd h b
theorem i64_in {n : Int} (h1 : -9223372036854775808 ≤ n) (h2 : n ≤ 9223372036854775807) : IntKind.i64.wrap n = n := IntWalk.i64_in n ⟨h1, h2⟩
end
/-! ### One operation, its continuation as data (so that simp runs it once, when its value is known) -/
section
variable (K : St → Prop) (σ : St) (d : Option Tmp)
def putQ (o : Option V) : Prop := bindP o fun v => K (σ.put d v)
def pickQ (c a b : V) : Prop := onB c fun t => K (σ.put d (pickV t a b))
def allocQ (o : Option (List V)) : Prop := bindP o fun cs => ∀ g : Int, 0 ≤ g → σ.bl g = none → K (({ σ with bl := upd σ.bl g (some ⟨cs.length, [cs]⟩) } : St).put d (.loc g cs.length 0 0))
def aggQ (o : Option (List V)) : Prop := bindP o fun r => K (σ.put d (.agg r))
def buildQ (P : Program) (t : TypeId) (ps : List (Nat × V)) (o : Option (List V)) : Prop := bindP o fun cs => okF P t = true ∧ aggQ K σ d (fillV (fPl P t) cs ps)
def bslQ (n sz : Nat) (o : Option (List V)) : Prop := bindP o fun r => ∀ g : Int, 0 ≤ g → σ.bl g = none → K (({ σ with bl := upd σ.bl g (some ⟨sz, (List.range n).map fun i => (r.drop (i * sz)).take sz⟩) } : St).put d (.lsl g sz 0 n))
def bsQ (P : Program) (n : Nat) (ps : List (Nat × V)) (o : Option (List V)) : Prop := bindP o fun cs => 1 ≤ cs.length ∧ n * cs.length ≤ 16777216 ∧ bslQ K σ d n cs.length (fillV (fun i => some (i * cs.length, cs.length)) (List.replicate n cs).flatten ps)
def loadQ (P : Program) (t : TypeId) (o : Option (List V)) : Prop := bindP o fun cs => putQ K σ d (loadV P t cs)
def storeQ3 (P : Program) (t : TypeId) (g : Int) (sz k j : Nat) (b : Blk) (y : V) (o : Option (List V)) : Prop := bindP o fun e => b.sz = sz ∧ csz P t = some y.cells.length ∧ j + y.cells.length ≤ sz ∧ y.cells.all V.one = true ∧
  K (({ σ with bl := upd σ.bl g (some ⟨sz, b.els.set k (splice e j y.cells)⟩) } : St).put d .junk)
def storeQ2 (P : Program) (t : TypeId) (g : Int) (sz k j : Nat) (y : V) (o : Option Blk) : Prop := bindP o fun b => storeQ3 K σ d P t g sz k j b y (b.els[k]?)
def storeQ (P : Program) (t : TypeId) (x y : V) : Prop := match x with | .loc g sz k j => storeQ2 K σ d P t g sz k j y (σ.bl g) | _ => False
def makeQ2 (bz : Nat) (l c : V) (cs : List V) : Prop := ∃ n : Nat, l = .int .i64 n ∧ c = .int .i64 n ∧ bz * n ≤ 281474976710656 ∧ n ≤ maxLen ∧
  ∀ g : Int, 0 ≤ g → σ.bl g = none → K (({ σ with bl := upd σ.bl g (some ⟨cs.length, List.replicate n cs⟩) } : St).put d (.lsl g cs.length 0 n))
def makeQ (bz : Nat) (l c : V) (o : Option (List V)) : Prop := bindP o fun cs => makeQ2 K σ d bz l c cs
def slQ (o : Option TypeId) (k : TypeId → Prop) : Prop := bindP o k
def callQ (v : V) (bl' : Int → Option Blk) : Prop := K (({ σ with bl := bl' } : St).put d v)
def callT (P : Program) (o : Option (FuncId × List V)) : Prop := bindP o fun p => CallP P p.1 p.2 σ.bl (callQ K σ d)
def appQ (P : Program) (e : Option TypeId) (o : Option ((Int → Option Blk) × Nat × List (List V))) : Prop := bindP o fun p =>
  e.elim False (fun e => p.2.2.length * bsz P e ≤ 140737488355328 ∧ 1 ≤ bsz P e ∧ ∃ z, zeroC P e = some z ∧ 1 ≤ z.length) ∧
  ∀ g : Int, (0 ≤ g ∨ p.2.2 = []) → p.1 g = none → K (({ σ with bl := upd p.1 g (some ⟨p.2.1, p.2.2⟩) } : St).put d (.lsl g p.2.1 0 p.2.2.length))

@[simp] theorem putQ_some (v : V) : putQ K σ d (some v) = K (σ.put d v) := bindP_some _ _
@[simp] theorem putQ_none : putQ K σ d none = False := bindP_none _
@[simp high] theorem putQ_if (c : Prop) [Decidable c] (o : Option V) : putQ K σ d (if c then o else none) = (c ∧ putQ K σ d o) := bindP_if c o
@[simp high] theorem putQ_ifn (c : Prop) [Decidable c] (o : Option V) : putQ K σ d (if c then none else o) = (¬ c ∧ putQ K σ d o) := by
  by_cases h : c <;> simp [h]
@[simp] theorem pickQ_bool (t : Bool) (a b : V) : pickQ K σ d (.bool t) a b = K (σ.put d (pickV t a b)) := rfl
@[simp] theorem allocQ_some (cs : List V) : allocQ K σ d (some cs) = ∀ g : Int, 0 ≤ g → σ.bl g = none → K (({ σ with bl := upd σ.bl g (some ⟨cs.length, [cs]⟩) } : St).put d (.loc g cs.length 0 0)) := bindP_some _ _
@[simp] theorem aggQ_some (r : List V) : aggQ K σ d (some r) = K (σ.put d (.agg r)) := bindP_some _ _
@[simp] theorem buildQ_some (P : Program) (t : TypeId) (ps : List (Nat × V)) (cs : List V) : buildQ K σ d P t ps (some cs) = (okF P t = true ∧ aggQ K σ d (fillV (fPl P t) cs ps)) := bindP_some _ _
@[simp] theorem bslQ_some (n sz : Nat) (r : List V) : bslQ K σ d n sz (some r) = ∀ g : Int, 0 ≤ g → σ.bl g = none → K (({ σ with bl := upd σ.bl g (some ⟨sz, (List.range n).map fun i => (r.drop (i * sz)).take sz⟩) } : St).put d (.lsl g sz 0 n)) := bindP_some _ _
@[simp] theorem bsQ_some (P : Program) (n : Nat) (ps : List (Nat × V)) (cs : List V) : bsQ K σ d P n ps (some cs) = (1 ≤ cs.length ∧ n * cs.length ≤ 16777216 ∧ bslQ K σ d n cs.length (fillV (fun i => some (i * cs.length, cs.length)) (List.replicate n cs).flatten ps)) := bindP_some _ _
@[simp] theorem loadQ_some (P : Program) (t : TypeId) (cs : List V) : loadQ K σ d P t (some cs) = putQ K σ d (loadV P t cs) := bindP_some _ _
@[simp] theorem storeQ_loc (P : Program) (t : TypeId) (g : Int) (sz k j : Nat) (y : V) : storeQ K σ d P t (.loc g sz k j) y = storeQ2 K σ d P t g sz k j y (σ.bl g) := rfl
@[simp] theorem storeQ2_some (P : Program) (t : TypeId) (g : Int) (sz k j : Nat) (y : V) (b : Blk) : storeQ2 K σ d P t g sz k j y (some b) = storeQ3 K σ d P t g sz k j b y (b.els[k]?) := bindP_some _ _
@[simp] theorem storeQ3_some (P : Program) (t : TypeId) (g : Int) (sz k j : Nat) (b : Blk) (y : V) (e : List V) : storeQ3 K σ d P t g sz k j b y (some e) = (b.sz = sz ∧ csz P t = some y.cells.length ∧ j + y.cells.length ≤ sz ∧ y.cells.all V.one = true ∧
  K (({ σ with bl := upd σ.bl g (some ⟨sz, b.els.set k (splice e j y.cells)⟩) } : St).put d .junk)) := bindP_some _ _
@[simp] theorem makeQ_some (bz : Nat) (l c : V) (cs : List V) : makeQ K σ d bz l c (some cs) = makeQ2 K σ d bz l c cs := bindP_some _ _
@[simp] theorem makeQ2_nat (bz n : Nat) (cs : List V) : makeQ2 K σ d bz (.int .i64 n) (.int .i64 n) cs = (bz * n ≤ 281474976710656 ∧ n ≤ maxLen ∧
  ∀ g : Int, 0 ≤ g → σ.bl g = none → K (({ σ with bl := upd σ.bl g (some ⟨cs.length, List.replicate n cs⟩) } : St).put d (.lsl g cs.length 0 n))) := by
  apply propext
  constructor
  · rintro ⟨m, h1, h2, h3, h4, h5⟩
    have : n = m := by injection h1 with _ h; omega
    subst this; exact ⟨h3, h4, h5⟩
  · rintro ⟨h3, h4, h5⟩; exact ⟨n, rfl, rfl, h3, h4, h5⟩
@[simp] theorem slQ_some (e : TypeId) (k : TypeId → Prop) : slQ (some e) k = k e := bindP_some _ _
@[simp] theorem callT_some (P : Program) (f : FuncId) (xs : List V) : callT K σ d P (some (f, xs)) = CallP P f xs σ.bl (callQ K σ d) := bindP_some _ _
@[simp] theorem callQ_ap (v : V) (bl' : Int → Option Blk) : callQ K σ d v bl' = K (({ σ with bl := bl' } : St).put d v) := rfl
@[simp] theorem appQ_some (P : Program) (e : TypeId) (b : Int → Option Blk) (sz : Nat) (xs : List (List V)) : appQ K σ d P (some e) (some (b, sz, xs)) = ((xs.length * bsz P e ≤ 140737488355328 ∧ 1 ≤ bsz P e ∧ ∃ z, zeroC P e = some z ∧ 1 ≤ z.length) ∧
  ∀ g : Int, (0 ≤ g ∨ xs = []) → b g = none → K (({ σ with bl := upd b g (some ⟨sz, xs⟩) } : St).put d (.lsl g sz 0 xs.length))) := bindP_some _ _

variable (P : Program) (ty : TypeId) (pos : String) (af : Array Edge) (gd : Option (Nat × Bool))
@[simp] theorem T_move (x : Operand) : T P ⟨d, .move x, ty, pos, af, gd⟩ K σ = K (σ.put d (σ.ev x)) := rfl
@[simp] theorem T_assign (x : Operand) : T P ⟨d, .assign x, ty, pos, af, gd⟩ K σ = K (σ.put d (σ.ev x)) := rfl
@[simp] theorem T_pick (c a b : Operand) : T P ⟨d, .pick c a b, ty, pos, af, gd⟩ K σ = pickQ K σ d (σ.ev c) (σ.ev a) (σ.ev b) := rfl
@[simp] theorem T_alloc (t : TypeId) : T P ⟨d, .alloc t, ty, pos, af, gd⟩ K σ = allocQ K σ d (zeroC P t) := rfl
@[simp] theorem T_box (t : TypeId) (x : Operand) : T P ⟨d, .box t x, ty, pos, af, gd⟩ K σ = ((σ.ev x).cells.all V.one = true ∧ allocQ K σ d (some (σ.ev x).cells)) := by
  rw [allocQ_some]; rfl
@[simp] theorem T_build (t : TypeId) (ps : Array (Nat × Operand)) : T P ⟨d, .build t ps, ty, pos, af, gd⟩ K σ = buildQ K σ d P t (ps.toList.map fun p => (p.1, σ.ev p.2)) (zeroC P t) := rfl
@[simp] theorem T_buildSlice (t : TypeId) (n : Nat) (ps : Array (Nat × Operand)) : T P ⟨d, .buildSlice t n ps, ty, pos, af, gd⟩ K σ = slQ (slE P t) fun e => bsQ K σ d P n (ps.toList.map fun p => (p.1, σ.ev p.2)) (zeroC P e) := rfl
@[simp] theorem T_load (t : TypeId) (x : Operand) : T P ⟨d, .load t x, ty, pos, af, gd⟩ K σ = loadQ K σ d P t (rdP σ.bl (σ.ev x)) := rfl
@[simp] theorem T_store (t : TypeId) (x y : Operand) : T P ⟨d, .store t x y, ty, pos, af, gd⟩ K σ = storeQ K σ d P t (σ.ev x) (σ.ev y) := by
  unfold T storeQ
  simp only
  generalize σ.ev x = v
  cases v <;> rfl
@[simp] theorem T_nilCheck (x : Operand) : T P ⟨d, .nilCheck x, ty, pos, af, gd⟩ K σ = putQ K σ d (nilV (σ.ev x)) := rfl
@[simp] theorem T_binOp (op : BinOp) (t : TypeId) (x y : Operand) (t' : TypeId) : T P ⟨d, .binOp op t x y t', ty, pos, af, gd⟩ K σ = putQ K σ d (binV P op t (σ.ev x) (σ.ev y)) := rfl
@[simp] theorem T_unOp (op : UnOp) (t : TypeId) (x : Operand) : T P ⟨d, .unOp op t x, ty, pos, af, gd⟩ K σ = putQ K σ d (unV op (σ.ev x)) := rfl
@[simp] theorem T_convert (s t : TypeId) (x : Operand) : T P ⟨d, .convert s t x, ty, pos, af, gd⟩ K σ = putQ K σ d (cvtV P σ.bl s t (σ.ev x)) := rfl
@[simp] theorem T_makeFunc (f : FuncId) (cap : Array Operand) : T P ⟨d, .makeFunc (.func f) #[] cap, ty, pos, af, gd⟩ K σ = K (σ.put d (.fn f (cap.toList.map σ.ev))) := by
  show (_ ∧ _) = _
  simp
@[simp] theorem T_makeSlice (t : TypeId) (l c : Operand) : T P ⟨d, .makeSlice t l c, ty, pos, af, gd⟩ K σ = slQ (slE P t) fun e => makeQ K σ d (bsz P e) (σ.ev l) (σ.ev c) (zeroC P e) := rfl
@[simp] theorem T_slice (t : TypeId) (x : Operand) (lo hi : Option Operand) : T P ⟨d, .slice t x lo hi none, ty, pos, af, gd⟩ K σ = putQ K σ d (sliV P t (σ.ev x) (lo.map σ.ev) (hi.map σ.ev)) := rfl
@[simp] theorem T_fieldAddr (t : TypeId) (x : Operand) (i : Nat) : T P ⟨d, .fieldAddr t x i, ty, pos, af, gd⟩ K σ = putQ K σ d (fldV P t i (σ.ev x)) := rfl
@[simp] theorem T_field (t : TypeId) (x : Operand) (i : Nat) : T P ⟨d, .field t x i, ty, pos, af, gd⟩ K σ = putQ K σ d (fieldV P t i (σ.ev x)) := rfl
@[simp] theorem T_indexAddr (t : TypeId) (x i : Operand) : T P ⟨d, .indexAddr t x i, ty, pos, af, gd⟩ K σ = putQ K σ d (idxV P t (σ.ev x) (σ.ev i)) := rfl
@[simp] theorem T_index (t : TypeId) (x i : Operand) : T P ⟨d, .index t x i, ty, pos, af, gd⟩ K σ = putQ K σ d (idsV P t (σ.ev x) (σ.ev i)) := rfl
@[simp] theorem T_extract (x : Operand) (i : Nat) : T P ⟨d, .extract x i, ty, pos, af, gd⟩ K σ = putQ K σ d (extV i (σ.ev x)) := rfl
@[simp] theorem T_lookup (t : TypeId) (x i : Operand) (co : Bool) : T P ⟨d, .lookup t x i co, ty, pos, af, gd⟩ K σ = putQ K σ d (lkV P t (σ.ev x) (σ.ev i) co) := rfl
@[simp] theorem T_call (f : Operand) (args : Array Operand) (ats : Array TypeId) : T P ⟨d, .call { callee := .value f, args := args, argTypes := ats }, ty, pos, af, gd⟩ K σ = callT K σ d P (callV σ f args.toList) := rfl
@[simp] theorem T_len (x : Operand) (t : TypeId) : T P ⟨d, .call { callee := .builtin .len, args := #[x], argTypes := #[t] }, ty, pos, af, gd⟩ K σ = putQ K σ d (lenV P t (σ.ev x)) := by
  show (∃ v, _ ∧ _ ∧ _ ∧ _) = (∃ v, _ ∧ _)
  simp
@[simp] theorem T_min (x y : Operand) (ts : Array TypeId) : T P ⟨d, .call { callee := .builtin .min, args := #[x, y], argTypes := ts }, ty, pos, af, gd⟩ K σ = putQ K σ d (minV (σ.ev x) (σ.ev y)) := by
  show (∃ v, _ ∧ _ ∧ _) = (∃ v, _ ∧ _)
  simp
@[simp] theorem T_append (x y : Operand) (t tx : TypeId) : T P ⟨d, .call { callee := .builtin .append, args := #[x, y], argTypes := #[t, tx] }, ty, pos, af, gd⟩ K σ = appQ K σ d P (slE P t) (appV P t tx σ.bl (σ.ev x) (σ.ev y)) := by
  show (∃ p, _ ∧ _ ∧ _ ∧ _ ∧ _) = (∃ p, _ ∧ _ ∧ _)
  simp
end

/-! ### A region; a guard's branches wait for its value -/
def OpsF (P : Program) (ds : List (Option Tmp)) : List Oper → (St → Prop) → St → Prop
  | [], K, σ => K σ
  | o :: rest, K, σ => match o.guard with
    | none => T P o (OpsF P ds rest K) σ
    | some (j, b) => match ds[j]? with
      | some (some d) => match σ.ev (.tmp d) with
        | .bool q => (q = true → if b = true then T P o (OpsF P ds rest K) (σ.put (some d) (.bool true)) else OpsF P ds rest K ((σ.put (some d) (.bool true)).put o.dst (.tup []))) ∧
            (q = false → if b = false then T P o (OpsF P ds rest K) (σ.put (some d) (.bool false)) else OpsF P ds rest K ((σ.put (some d) (.bool false)).put o.dst (.tup [])))
        | .tup [] => OpsF P ds rest K (σ.put o.dst (.tup []))
        | _ => False
      | _ => False
def guardQ (P : Program) (ds : List (Option Tmp)) (b : Bool) (o : Oper) (rest : List Oper) (K : St → Prop) (d : Tmp) (σ : St) (x : V) : Prop := match x with
  | .bool q => (q = true → if b = true then T P o (OpsF P ds rest K) (σ.put (some d) (.bool true)) else OpsF P ds rest K ((σ.put (some d) (.bool true)).put o.dst (.tup []))) ∧
      (q = false → if b = false then T P o (OpsF P ds rest K) (σ.put (some d) (.bool false)) else OpsF P ds rest K ((σ.put (some d) (.bool false)).put o.dst (.tup [])))
  | .tup [] => OpsF P ds rest K (σ.put o.dst (.tup []))
  | _ => False
def guardS (P : Program) (ds : List (Option Tmp)) (b : Bool) (o : Oper) (rest : List Oper) (K : St → Prop) (σ : St) (x : Option (Option Tmp)) : Prop := match x with
  | some (some d) => guardQ P ds b o rest K d σ (σ.ev (.tmp d))
  | _ => False
section
variable (P : Program) (ds : List (Option Tmp)) (K : St → Prop) (σ : St) (d : Option Tmp) (op : Op) (ty : TypeId) (pos : String) (af : Array Edge) (rest : List Oper) (b : Bool) (o : Oper) (t : Tmp)
@[simp] theorem OpsF_nil : OpsF P ds [] K σ = K σ := rfl
@[simp] theorem OpsF_none : OpsF P ds (⟨d, op, ty, pos, af, none⟩ :: rest) K σ = T P ⟨d, op, ty, pos, af, none⟩ (OpsF P ds rest K) σ := rfl
@[simp] theorem OpsF_guard (j : Nat) : OpsF P ds (⟨d, op, ty, pos, af, some (j, b)⟩ :: rest) K σ = guardS P ds b ⟨d, op, ty, pos, af, some (j, b)⟩ rest K σ (ds[j]?) := rfl
@[simp] theorem guardS_some : guardS P ds b o rest K σ (some (some t)) = guardQ P ds b o rest K t σ (σ.ev (.tmp t)) := rfl
@[simp] theorem guardQ_tt : guardQ P ds true o rest K t σ (.bool true) = T P o (OpsF P ds rest K) (σ.put (some t) (.bool true)) := by simp [guardQ]
@[simp] theorem guardQ_tf : guardQ P ds true o rest K t σ (.bool false) = OpsF P ds rest K ((σ.put (some t) (.bool false)).put o.dst (.tup [])) := by simp [guardQ]
@[simp] theorem guardQ_ft : guardQ P ds false o rest K t σ (.bool true) = OpsF P ds rest K ((σ.put (some t) (.bool true)).put o.dst (.tup [])) := by simp [guardQ]
@[simp] theorem guardQ_ff : guardQ P ds false o rest K t σ (.bool false) = T P o (OpsF P ds rest K) (σ.put (some t) (.bool false)) := by simp [guardQ]
@[simp] theorem guardQ_skip : guardQ P ds b o rest K t σ (.tup []) = OpsF P ds rest K (σ.put o.dst (.tup [])) := rfl
@[simp low] theorem guardQ_true (q : Bool) : guardQ P ds true o rest K t σ (.bool q) = ((q = true → T P o (OpsF P ds rest K) (σ.put (some t) (.bool true))) ∧ (q = false → OpsF P ds rest K ((σ.put (some t) (.bool false)).put o.dst (.tup [])))) := by simp [guardQ]
@[simp low] theorem guardQ_false (q : Bool) : guardQ P ds false o rest K t σ (.bool q) = ((q = true → OpsF P ds rest K ((σ.put (some t) (.bool true)).put o.dst (.tup []))) ∧ (q = false → T P o (OpsF P ds rest K) (σ.put (some t) (.bool false)))) := by simp [guardQ]
end

theorem Ops_of {P : Program} {ds : List (Option Tmp)} {K : St → Prop} : ∀ {l : List Oper} {σ : St}, OpsF P ds l K σ → Ops P ds l K σ
  | [], σ, h => h
  | o :: rest, σ, h => by
    have ih : ∀ σ, OpsF P ds rest K σ → Ops P ds rest K σ := fun σ => Ops_of
    unfold OpsF at h
    unfold Ops
    split
    · rename_i hg; simp only [hg] at h; exact T_mono h ih
    · rename_i j b hg
      simp only [hg] at h
      split
      · rename_i d hd
        simp only [hd] at h
        split at h
        · rename_i q hq
          obtain ⟨h1, h2⟩ := h
          rw [hq, onG_bool]
          refine ⟨fun hb => ?_, fun hb => ?_⟩
          · subst hb
            cases q
            · exact T_mono (h2 rfl) ih
            · exact T_mono (h1 rfl) ih
          · cases b
            · subst hb; exact ih _ (h1 rfl)
            · subst hb; exact ih _ (h2 rfl)
        · rename_i hq
          rw [hq, onG_skip]
          exact ih _ h
        · exact h.elim
      · rename_i hd
        split at h
        · rename_i d hd2; exact absurd hd2 (hd d)
        · exact h

/-! ### Straight code in one go -/
def runC (P : Program) : Code → (Ex → St → Prop) → St → Prop
  | .skip, K, σ => K .normal σ
  | .seq x y, K, σ => runC P x (fun e σ' => match e with | .normal => runC P y K σ' | .exit i => K (.exit i) σ' | .ret => K .ret σ') σ
  | .region id ops true, K, σ => AW P (.region id ops true) K σ
  | .region id ops false, K, σ => if ops.toList.any (fun o => o.guard.isSome) = true then AW P (.region id ops false) K σ else OpsF P (ops.toList.map (·.dst)) ops.toList (K .normal) σ
  | .cond c x y, K, σ => onB (σ.ev c) fun b => (b = true → runC P x K σ) ∧ (b = false → runC P y K σ)
  | .block id c, K, σ => runC P c (blockK id K) σ
  | .loop c, K, σ => AW P (.loop c) K σ
  | .exit i, K, σ => K (.exit i) σ
  | .ret, K, σ => K .ret σ
  | _, _, _ => False

/-- What follows a statement, sealed. -/
def seqR (P : Program) (y : Code) (K : Ex → St → Prop) (e : Ex) (σ : St) : Prop := match e with | .normal => runC P y K σ | .exit i => K (.exit i) σ | .ret => K .ret σ
@[simp] theorem seqR_normal (P : Program) (y : Code) (K : Ex → St → Prop) (σ : St) : seqR P y K .normal σ = runC P y K σ := rfl
@[simp] theorem seqR_exit (P : Program) (y : Code) (K : Ex → St → Prop) (i : Nat) (σ : St) : seqR P y K (.exit i) σ = K (.exit i) σ := rfl
@[simp] theorem seqR_ret (P : Program) (y : Code) (K : Ex → St → Prop) (σ : St) : seqR P y K .ret σ = K .ret σ := rfl
def condQ (P : Program) (x y : Code) (K : Ex → St → Prop) (σ : St) (v : V) : Prop := onB v fun b => (b = true → runC P x K σ) ∧ (b = false → runC P y K σ)
@[simp] theorem runC_skip (P : Program) (K : Ex → St → Prop) (σ : St) : runC P .skip K σ = K .normal σ := rfl
@[simp] theorem runC_seq (P : Program) (x y : Code) (K : Ex → St → Prop) (σ : St) : runC P (.seq x y) K σ = runC P x (seqR P y K) σ := rfl
@[simp] theorem runC_draw (P : Program) (id : Nat) (ops : Array Oper) (K : Ex → St → Prop) (σ : St) : runC P (.region id ops true) K σ = AW P (.region id ops true) K σ := rfl
@[simp] theorem runC_region (P : Program) (id : Nat) (ops : Array Oper) (K : Ex → St → Prop) (σ : St) : runC P (.region id ops false) K σ = if ops.toList.any (fun o => o.guard.isSome) = true then AW P (.region id ops false) K σ else OpsF P (ops.toList.map (·.dst)) ops.toList (K .normal) σ := rfl
@[simp] theorem runC_cond (P : Program) (c : Operand) (x y : Code) (K : Ex → St → Prop) (σ : St) : runC P (.cond c x y) K σ = condQ P x y K σ (σ.ev c) := rfl
@[simp] theorem condQ_true (P : Program) (x y : Code) (K : Ex → St → Prop) (σ : St) : condQ P x y K σ (.bool true) = runC P x K σ := by simp [condQ]
@[simp] theorem condQ_false (P : Program) (x y : Code) (K : Ex → St → Prop) (σ : St) : condQ P x y K σ (.bool false) = runC P y K σ := by simp [condQ]
@[simp low] theorem condQ_bool (P : Program) (x y : Code) (K : Ex → St → Prop) (σ : St) (q : Bool) : condQ P x y K σ (.bool q) = ((q = true → runC P x K σ) ∧ (q = false → runC P y K σ)) := by simp [condQ]
@[simp] theorem runC_block (P : Program) (id : Nat) (c : Code) (K : Ex → St → Prop) (σ : St) : runC P (.block id c) K σ = runC P c (blockK id K) σ := rfl
@[simp] theorem runC_loop (P : Program) (c : Code) (K : Ex → St → Prop) (σ : St) : runC P (.loop c) K σ = AW P (.loop c) K σ := rfl
@[simp] theorem runC_exit (P : Program) (i : Nat) (K : Ex → St → Prop) (σ : St) : runC P (.exit i) K σ = K (.exit i) σ := rfl
@[simp] theorem runC_ret (P : Program) (K : Ex → St → Prop) (σ : St) : runC P .ret K σ = K .ret σ := rfl

theorem AW_run {P : Program} : ∀ {c : Code} {K : Ex → St → Prop} {σ : St}, runC P c K σ → AW P c K σ
  | .skip, K, σ, h => AW_skip h
  | .seq x y, K, σ, h => by
    have h1 : AW P x (seqR P y K) σ := AW_run h
    refine AW_seq (h1.mono fun e σ' h' => ?_)
    cases e with
    | normal => exact AW_run h'
    | exit i => exact h'
    | ret => exact h'
  | .region id ops true, K, σ, h => h
  | .region id ops false, K, σ, h => by
    unfold runC at h
    split at h
    · exact h
    · exact AW_region (Ops_of h)
  | .cond c x y, K, σ, h => by
    unfold runC at h
    obtain ⟨q, hq, h1, h2⟩ := onB_some h
    exact AW_cond ⟨q, hq, fun h => AW_run (h1 h), fun h => AW_run (h2 h)⟩
  | .block id c, K, σ, h => AW_block (AW_run h)
  | .loop c, K, σ, h => h
  | .exit i, K, σ, h => AW_exit h
  | .ret, K, σ, h => AW_ret h
  | .rangeFunc .., _, _, h => h.elim
  | .scope _, _, _, h => h.elim
  | .label _, _, _, h => h.elim
  | .goto _, _, _, h => h.elim

/-! ### A slice that is filled from its beginning -/
def part (xs : List (List V)) (z : List V) (i : Nat) : List (List V) := xs.take i ++ List.replicate (xs.length - i) z
@[simp] theorem part_zero (xs : List (List V)) (z : List V) : part xs z 0 = List.replicate xs.length z := by simp [part]
theorem part_all (xs : List (List V)) (z : List V) (i : Nat) (h : xs.length ≤ i) : part xs z i = xs := by simp [part, List.take_of_length_le h, Nat.sub_eq_zero_of_le h]
theorem part_length (xs : List (List V)) (z : List V) (i : Nat) : (part xs z i).length = xs.length := by simp [part]; omega
theorem part_get (xs : List (List V)) (z : List V) (i : Nat) (h : i < xs.length) : (part xs z i)[i]? = some z := by
  unfold part
  rw [List.getElem?_append_right (by simp; omega)]
  rw [List.getElem?_replicate, if_pos (by simp; omega)]
theorem part_set (xs : List (List V)) (z : List V) (i : Nat) (h : i < xs.length) (x : List V) (hx : x = xs[i]) : (part xs z i).set i x = part xs z (i + 1) := by
  subst hx
  apply List.ext_getElem?
  intro j
  have hz : ∀ k, k ≤ xs.length → ∀ j, (part xs z k)[j]? = if j < k then xs[j]? else if j < xs.length then some z else none := by
    intro k hk j
    unfold part
    by_cases hj : j < k
    · rw [if_pos hj, List.getElem?_append_left (by simp; omega), List.getElem?_take_of_lt hj]
    · rw [if_neg hj, List.getElem?_append_right (by simp; omega), List.getElem?_replicate]
      simp only [List.length_take]
      by_cases h2 : j < xs.length
      · rw [if_pos (by omega), if_pos h2]
      · rw [if_neg (by omega), if_neg h2]
  rw [List.getElem?_set, hz i (by omega), hz (i + 1) (by omega), part_length]
  by_cases hij : i = j
  · subst hij; simp [h]
  · rw [if_neg hij]
    by_cases h1 : j < i
    · simp [h1, show j < i + 1 by omega]
    · simp [h1, show ¬ j < i + 1 by omega]
theorem frz_slice {bl bl0 : Int → Option Blk} {g : Int} {sz n : Nat} {els : List (List V)} (hg0 : 0 ≤ g) (hg : bl0 g = none) (hb : bl g = some ⟨sz, els⟩) (hn : els.length = n) (hcl : els.all (fun e => e.all V.cl) = true) : frz (dropB bl bl0) 1 (.lsl g sz 0 n) = some (.sl els) := by
  subst hn
  unfold frz
  rw [if_neg (by omega)]
  unfold dropB
  rw [hg]
  simp only [hb]
  rw [if_pos (by simp), List.drop_zero, List.take_length, if_pos hcl]
theorem sub_eq {bl bl' : Int → Option Blk} (h : bl' = bl) : Sub bl bl' := by rw [h]; exact Sub.refl _

/-! ### Regions that draw their order, all of whose operations read -/
def qval (P : Program) (blK : Int → Option Blk) (σ : St) : Op → Option V
  | .move x => some (σ.ev x)
  | .assign x => some (σ.ev x)
  | .pick c a b => match σ.ev c with | .bool t => some (pickV t (σ.ev a) (σ.ev b)) | _ => none
  | .load t x => match rdP blK (σ.ev x) with | some cs => loadV P t cs | none => none
  | .nilCheck x => nilV (σ.ev x)
  | .binOp op t x y _ => binV P op t (σ.ev x) (σ.ev y)
  | .unOp op _ x => unV op (σ.ev x)
  | .convert s d x => cvtV P blK s d (σ.ev x)
  | .slice t x lo hi none => sliV P t (σ.ev x) (lo.map σ.ev) (hi.map σ.ev)
  | .fieldAddr t x i => fldV P t i (σ.ev x)
  | .field t x i => fieldV P t i (σ.ev x)
  | .indexAddr t x i => idxV P t (σ.ev x) (σ.ev i)
  | .index t x i => idsV P t (σ.ev x) (σ.ev i)
  | .extract x i => extV i (σ.ev x)
  | .makeFunc (.func f) first cap => if first = #[] then some (.fn f (cap.toList.map σ.ev)) else none
  | .call c => match c.callee with
    | .builtin .len => if c.args.size = 1 ∧ c.argTypes.size = 1 then lenV P (c.argTypes.getD 0 0) (σ.ev (c.args.getD 0 (.const undef))) else none
    | _ => none
  | _ => none

theorem qval_sv {P : Program} {blK : Int → Option Blk} {o : Oper} {σ : St} {v : V} (h : qval P blK σ o.op = some v) : SV P blK o σ v := by
  have e : ∀ x, (σ.withBl blK).ev x = σ.ev x := withBl_ev σ blK
  unfold qval at h
  cases ho : o.op <;> rw [ho] at h <;> (try simp only at h) <;> try (cases h; done)
  case move x => cases h; exact .inl ⟨by rw [ho]; rfl, by unfold T; rw [ho]; simp only [e]⟩
  case assign x => cases h; exact .inl ⟨by rw [ho]; rfl, by unfold T; rw [ho]; simp only [e]⟩
  case pick c a b =>
    split at h
    · rename_i t hc; cases h; exact .inl ⟨by rw [ho]; rfl, by unfold T; rw [ho]; simp only [e, hc, onB_bool]⟩
    · cases h
  case load t x =>
    split at h
    · rename_i cs hcs; exact .inl ⟨by rw [ho]; rfl, by unfold T; rw [ho]; simp only [e]; exact ⟨cs, hcs, v, h, rfl⟩⟩
    · cases h
  case nilCheck x => exact .inl ⟨by rw [ho]; rfl, by unfold T; rw [ho]; simp only [e]; exact ⟨v, h, rfl⟩⟩
  case binOp => exact .inl ⟨by rw [ho]; rfl, by unfold T; rw [ho]; simp only [e]; exact ⟨v, h, rfl⟩⟩
  case unOp => exact .inl ⟨by rw [ho]; rfl, by unfold T; rw [ho]; simp only [e]; exact ⟨v, h, rfl⟩⟩
  case convert => exact .inl ⟨by rw [ho]; rfl, by unfold T; rw [ho]; simp only [e]; exact ⟨v, h, rfl⟩⟩
  case fieldAddr => exact .inl ⟨by rw [ho]; rfl, by unfold T; rw [ho]; simp only [e]; exact ⟨v, h, rfl⟩⟩
  case field => exact .inl ⟨by rw [ho]; rfl, by unfold T; rw [ho]; simp only [e]; exact ⟨v, h, rfl⟩⟩
  case indexAddr => exact .inl ⟨by rw [ho]; rfl, by unfold T; rw [ho]; simp only [e]; exact ⟨v, h, rfl⟩⟩
  case index => exact .inl ⟨by rw [ho]; rfl, by unfold T; rw [ho]; simp only [e]; exact ⟨v, h, rfl⟩⟩
  case extract => exact .inl ⟨by rw [ho]; rfl, by unfold T; rw [ho]; simp only [e]; exact ⟨v, h, rfl⟩⟩
  case slice t x lo hi mx =>
    cases mx <;> simp only at h <;> try (cases h; done)
    have e1 : lo.map (σ.withBl blK).ev = lo.map σ.ev := by cases lo <;> simp [withBl_ev]
    have e2 : hi.map (σ.withBl blK).ev = hi.map σ.ev := by cases hi <;> simp [withBl_ev]
    exact .inl ⟨by rw [ho]; rfl, by unfold T; rw [ho]; simp only [e, e1, e2]; exact ⟨v, h, rfl⟩⟩
  case makeFunc f first cap =>
    cases f <;> simp only at h <;> try (cases h; done)
    split at h
    · rename_i hf
      cases h
      have : (cap.toList.map (σ.withBl blK).ev) = cap.toList.map σ.ev := List.map_congr_left fun x _ => e x
      exact .inl ⟨by rw [ho]; rfl, by unfold T; rw [ho]; simp only [this]; exact ⟨hf, trivial⟩⟩
    · cases h
  case call c =>
    split at h
    · rename_i hc
      split at h
      · rename_i hs
        refine .inl ⟨?_, ?_⟩
        · rw [ho]; obtain ⟨cal, args, ats⟩ := c; simp only at hc; subst hc; rfl
        · unfold T; rw [ho]; simp only [hc, e]; exact ⟨v, h, hs.1, hs.2, rfl⟩
      · cases h
    · cases h

/-- Reading operations in the text's order. -/
def HoistF (P : Program) (ds : List (Option Tmp)) (blK : Int → Option Blk) : List Oper → (St → Prop) → St → Prop
  | [], K, σ => K σ
  | o :: rest, K, σ => match o.guard with
    | none => match o.op with
      | .call ⟨.value f, args, _⟩ => bindP (callV σ f args.toList) fun p => ∃ v n ys, ((frzL blK n p.2 = some ys ∧ RO P p.1 ys v ∧ v.sc = true) ∨ RL P blK p.1 p.2 v) ∧ HoistF P ds blK rest K (σ.put o.dst v)
      | op => bindP (qval P blK σ op) fun v => HoistF P ds blK rest K (σ.put o.dst v)
    | some (j, b) => match ds[j]? with
      | some (some d) => match σ.ev (.tmp d) with
        | .bool q => if q = b then bindP (qval P blK σ o.op) fun v => HoistF P ds blK rest K (σ.put o.dst v) else HoistF P ds blK rest K (σ.put o.dst (.tup []))
        | .tup [] => HoistF P ds blK rest K (σ.put o.dst (.tup []))
        | _ => False
      | _ => False

def hoQ (P : Program) (ds : List (Option Tmp)) (blK : Int → Option Blk) (rest : List Oper) (K : St → Prop) (σ : St) (d : Option Tmp) (o : Option V) : Prop := bindP o fun v => HoistF P ds blK rest K (σ.put d v)
def hcQ (P : Program) (ds : List (Option Tmp)) (blK : Int → Option Blk) (rest : List Oper) (K : St → Prop) (σ : St) (d : Option Tmp) (o : Option (FuncId × List V)) : Prop := bindP o fun p => ∃ v n ys, ((frzL blK n p.2 = some ys ∧ RO P p.1 ys v ∧ v.sc = true) ∨ RL P blK p.1 p.2 v) ∧ HoistF P ds blK rest K (σ.put d v)
section
variable (P : Program) (ds : List (Option Tmp)) (blK : Int → Option Blk) (rest : List Oper) (K : St → Prop) (σ : St) (d : Option Tmp) (ty : TypeId) (pos : String) (af : Array Edge)
@[simp] theorem HoistF_nil : HoistF P ds blK [] K σ = K σ := rfl
@[simp] theorem HoistF_call (f : Operand) (args : Array Operand) (ats : Array TypeId) : HoistF P ds blK (⟨d, .call ⟨.value f, args, ats⟩, ty, pos, af, none⟩ :: rest) K σ = hcQ P ds blK rest K σ d (callV σ f args.toList) := rfl
@[simp] theorem HoistF_len (x : Operand) (t : TypeId) : HoistF P ds blK (⟨d, .call ⟨.builtin .len, #[x], #[t]⟩, ty, pos, af, none⟩ :: rest) K σ = hoQ P ds blK rest K σ d (lenV P t (σ.ev x)) := rfl
@[simp] theorem HoistF_move (x : Operand) : HoistF P ds blK (⟨d, .move x, ty, pos, af, none⟩ :: rest) K σ = HoistF P ds blK rest K (σ.put d (σ.ev x)) := bindP_some _ _
@[simp] theorem HoistF_assign (x : Operand) : HoistF P ds blK (⟨d, .assign x, ty, pos, af, none⟩ :: rest) K σ = HoistF P ds blK rest K (σ.put d (σ.ev x)) := bindP_some _ _
@[simp] theorem HoistF_pick (c a b : Operand) : HoistF P ds blK (⟨d, .pick c a b, ty, pos, af, none⟩ :: rest) K σ = hoQ P ds blK rest K σ d (qval P blK σ (.pick c a b)) := rfl
@[simp] theorem HoistF_load (t : TypeId) (x : Operand) : HoistF P ds blK (⟨d, .load t x, ty, pos, af, none⟩ :: rest) K σ = hoQ P ds blK rest K σ d (qval P blK σ (.load t x)) := rfl
@[simp] theorem HoistF_nilCheck (x : Operand) : HoistF P ds blK (⟨d, .nilCheck x, ty, pos, af, none⟩ :: rest) K σ = hoQ P ds blK rest K σ d (nilV (σ.ev x)) := rfl
@[simp] theorem HoistF_binOp (op : BinOp) (t : TypeId) (x y : Operand) (t' : TypeId) : HoistF P ds blK (⟨d, .binOp op t x y t', ty, pos, af, none⟩ :: rest) K σ = hoQ P ds blK rest K σ d (binV P op t (σ.ev x) (σ.ev y)) := rfl
@[simp] theorem HoistF_unOp (op : UnOp) (t : TypeId) (x : Operand) : HoistF P ds blK (⟨d, .unOp op t x, ty, pos, af, none⟩ :: rest) K σ = hoQ P ds blK rest K σ d (unV op (σ.ev x)) := rfl
@[simp] theorem HoistF_convert (s t : TypeId) (x : Operand) : HoistF P ds blK (⟨d, .convert s t x, ty, pos, af, none⟩ :: rest) K σ = hoQ P ds blK rest K σ d (cvtV P blK s t (σ.ev x)) := rfl
@[simp] theorem HoistF_slice (t : TypeId) (x : Operand) (lo hi : Option Operand) : HoistF P ds blK (⟨d, .slice t x lo hi none, ty, pos, af, none⟩ :: rest) K σ = hoQ P ds blK rest K σ d (sliV P t (σ.ev x) (lo.map σ.ev) (hi.map σ.ev)) := rfl
@[simp] theorem HoistF_fieldAddr (t : TypeId) (x : Operand) (i : Nat) : HoistF P ds blK (⟨d, .fieldAddr t x i, ty, pos, af, none⟩ :: rest) K σ = hoQ P ds blK rest K σ d (fldV P t i (σ.ev x)) := rfl
@[simp] theorem HoistF_field (t : TypeId) (x : Operand) (i : Nat) : HoistF P ds blK (⟨d, .field t x i, ty, pos, af, none⟩ :: rest) K σ = hoQ P ds blK rest K σ d (fieldV P t i (σ.ev x)) := rfl
@[simp] theorem HoistF_indexAddr (t : TypeId) (x i : Operand) : HoistF P ds blK (⟨d, .indexAddr t x i, ty, pos, af, none⟩ :: rest) K σ = hoQ P ds blK rest K σ d (idxV P t (σ.ev x) (σ.ev i)) := rfl
@[simp] theorem HoistF_index (t : TypeId) (x i : Operand) : HoistF P ds blK (⟨d, .index t x i, ty, pos, af, none⟩ :: rest) K σ = hoQ P ds blK rest K σ d (idsV P t (σ.ev x) (σ.ev i)) := rfl
@[simp] theorem HoistF_extract (x : Operand) (i : Nat) : HoistF P ds blK (⟨d, .extract x i, ty, pos, af, none⟩ :: rest) K σ = hoQ P ds blK rest K σ d (extV i (σ.ev x)) := rfl
@[simp] theorem hoQ_some (v : V) : hoQ P ds blK rest K σ d (some v) = HoistF P ds blK rest K (σ.put d v) := bindP_some _ _
@[simp high] theorem hoQ_if (c : Prop) [Decidable c] (o : Option V) : hoQ P ds blK rest K σ d (if c then o else none) = (c ∧ hoQ P ds blK rest K σ d o) := bindP_if c o
end
theorem hcQ_ro {P : Program} {ds : List (Option Tmp)} {blK : Int → Option Blk} {rest : List Oper} {K : St → Prop} {σ : St} {d : Option Tmp} {f : FuncId} {xs : List V} {v : V} (h : RO P f xs v) (hK : HoistF P ds blK rest K (σ.put d v)) : hcQ P ds blK rest K σ d (some (f, xs)) :=
  ⟨_, rfl, v, 0, [], .inr (RL_of h), hK⟩
theorem Hoist_of {P : Program} {ops : Array Oper} {blK : Int → Option Blk} {K : St → Prop} : ∀ (l : List Oper) (k : Nat) (σ : St), (∀ j, l[j]? = ops[k + j]?) → HoistF P (ops.toList.map (·.dst)) blK l K σ → Hoist P ops blK (List.range' k l.length) K σ
  | [], k, σ, _, h => h
  | o :: rest, k, σ, hl, h => by
    have h0 : ops[k]? = some o := by simpa using (hl 0).symm
    have ih := fun σ' (h' : HoistF P (ops.toList.map (·.dst)) blK rest K σ') => Hoist_of rest (k + 1) σ' (fun j => by have := hl (j + 1); simpa [Nat.add_assoc, Nat.add_comm 1 j] using this) h'
    have hds : ∀ (j : Nat) d, (ops.toList.map (·.dst))[j]? = some (some d) → (ops[j]?).bind (·.dst) = some d := by
      intro j d hd
      rw [List.getElem?_map, Array.getElem?_toList] at hd
      rcases h : ops[j]? with _ | o
      · rw [h] at hd; cases hd
      · rw [h] at hd; simpa using hd
    show Hoist P ops blK (k :: List.range' (k + 1) rest.length) K σ
    unfold Hoist
    rw [h0]
    simp only
    have plain : bindP (qval P blK σ o.op) (fun v => HoistF P (ops.toList.map (·.dst)) blK rest K (σ.put o.dst v)) → ∃ v, SV P blK o σ v ∧ Hoist P ops blK (List.range' (k + 1) rest.length) K (σ.put o.dst v) := by
      rintro ⟨v, h1, h2⟩
      exact ⟨v, qval_sv h1, ih _ h2⟩
    unfold HoistF at h
    unfold DY
    split at h
    · rename_i hg
      simp only [hg]
      split at h
      · rename_i f args ats hop
        obtain ⟨p, hp, v, n, ys, h1, h4⟩ := h
        exact ⟨v, .inr ⟨_, f, p, n, ys, hop, rfl, hp, h1⟩, ih _ h4⟩
      · exact plain h
    · rename_i j b hg
      simp only [hg]
      split at h
      · rename_i d hd
        rw [hds j d hd]
        simp only
        split at h
        · rename_i q hq
          rw [hq]
          split at h
          · rename_i hqb
            obtain ⟨v, h1, h2⟩ := plain h
            exact ⟨v, ⟨fun _ => h1, fun hh => by subst hqb; cases q <;> cases hh⟩, h2⟩
          · rename_i hqb
            exact ⟨.tup [], ⟨fun hh => absurd hh hqb, fun _ => rfl⟩, ih _ h⟩
        · rename_i hq
          rw [hq]
          exact ⟨.tup [], rfl, ih _ h⟩
        · exact h.elim
      · exact h.elim

theorem Hoist_is {P : Program} {ops : Array Oper} {blK : Int → Option Blk} {K : St → Prop} : ∀ (l : List Oper) (is : List Nat) (σ : St), l.map some = is.map (fun i => ops[i]?) → HoistF P (ops.toList.map (·.dst)) blK l K σ → Hoist P ops blK is K σ
  | [], is, σ, hl, h => by
    cases is with
    | nil => exact h
    | cons i is => cases hl
  | o :: rest, [], σ, hl, h => by cases hl
  | o :: rest, k :: is, σ, hl, h => by
    have h0 : ops[k]? = some o := (List.cons.inj hl).1.symm
    have ih := fun σ' (h' : HoistF P (ops.toList.map (·.dst)) blK rest K σ') => Hoist_is rest is σ' (List.cons.inj hl).2 h'
    have hds : ∀ (j : Nat) d, (ops.toList.map (·.dst))[j]? = some (some d) → (ops[j]?).bind (·.dst) = some d := by
      intro j d hd
      rw [List.getElem?_map, Array.getElem?_toList] at hd
      rcases h : ops[j]? with _ | o
      · rw [h] at hd; cases hd
      · rw [h] at hd; simpa using hd
    unfold Hoist
    rw [h0]
    simp only
    have plain : bindP (qval P blK σ o.op) (fun v => HoistF P (ops.toList.map (·.dst)) blK rest K (σ.put o.dst v)) → ∃ v, SV P blK o σ v ∧ Hoist P ops blK is K (σ.put o.dst v) := by
      rintro ⟨v, h1, h2⟩
      exact ⟨v, qval_sv h1, ih _ h2⟩
    unfold HoistF at h
    unfold DY
    split at h
    · rename_i hg
      simp only [hg]
      split at h
      · rename_i f args ats hop
        obtain ⟨p, hp, v, n, ys, h1, h4⟩ := h
        exact ⟨v, .inr ⟨_, f, p, n, ys, hop, rfl, hp, h1⟩, ih _ h4⟩
      · exact plain h
    · rename_i j b hg
      simp only [hg]
      split at h
      · rename_i d hd
        rw [hds j d hd]
        simp only
        split at h
        · rename_i q hq
          rw [hq]
          split at h
          · rename_i hqb
            obtain ⟨v, h1, h2⟩ := plain h
            exact ⟨v, ⟨fun _ => h1, fun hh => by subst hqb; cases q <;> cases hh⟩, h2⟩
          · rename_i hqb
            exact ⟨.tup [], ⟨fun hh => absurd hh hqb, fun _ => rfl⟩, ih _ h⟩
        · rename_i hq
          rw [hq]
          exact ⟨.tup [], rfl, ih _ h⟩
        · exact h.elim
      · exact h.elim

theorem filter_some {ops : Array Oper} : ∀ (is : List Nat), is.all (fun i => decide (i < ops.size)) = true → (is.filterMap fun i => ops[i]?).map some = is.map (fun i => ops[i]?)
  | [], _ => rfl
  | i :: is, h => by
    simp only [List.all_cons, Bool.and_eq_true, decide_eq_true_eq] at h
    have ih := filter_some is h.2
    rw [List.filterMap_cons]
    simp only [Array.getElem?_eq_getElem h.1, List.map_cons]
    rw [ih]

/-- Reading operations first (is), then the others in every order. -/
theorem AW_mixed {P : Program} {id : Nat} {ops : Array Oper} {K : Ex → St → Prop} {σ : St} (hm : P.follows .mixedOrders = true) (is : List Nat) (fuel : Nat) (hn : (ops.size == fuel + is.length && is.all (fun i => decide (i < ops.size)) && hoistB ops is (Array.replicate ops.size false)) = true)
    (h : HoistF P (ops.toList.map (·.dst)) σ.bl (is.filterMap fun i => ops[i]?) (DAny P ops σ.bl (fun _ => false) (K .normal) fuel (setAll is (Array.replicate ops.size false))) σ) : AW P (.region id ops true) K σ := by
  simp only [Bool.and_eq_true, beq_iff_eq] at hn
  exact AW_draw_mixed hm is fuel σ.bl (Sub.refl _) hn.1.1 hn.2 (tl := fun _ => false) (fun _ _ _ _ h => by cases h) (Hoist_is _ is σ (filter_some is hn.1.2) h)
/-- .. where the last operations, from n on, wait for all that are read first: they may store into what has been read. -/
theorem AW_mixedT {P : Program} {id : Nat} {ops : Array Oper} {K : Ex → St → Prop} {σ : St} (hm : P.follows .mixedOrders = true) (is : List Nat) (fuel n : Nat) (hn : (ops.size == fuel + is.length && is.all (fun i => decide (i < ops.size)) && hoistB ops is (Array.replicate ops.size false) && tailB ops (fun j => decide (n ≤ j)) is) = true)
    (h : HoistF P (ops.toList.map (·.dst)) σ.bl (is.filterMap fun i => ops[i]?) (DAny P ops σ.bl (fun j => decide (n ≤ j)) (K .normal) fuel (setAll is (Array.replicate ops.size false))) σ) : AW P (.region id ops true) K σ := by
  simp only [Bool.and_eq_true, beq_iff_eq] at hn
  exact AW_draw_mixed hm is fuel σ.bl (Sub.refl _) hn.1.1.1 hn.1.2 (tl := fun j => decide (n ≤ j)) (tailB_spec hn.2) (Hoist_is _ is σ (filter_some is hn.1.1.2) h)

section
variable {P : Program} {ops : Array Oper} {blK : Int → Option Blk} {tl : Nat → Bool} {K : St → Prop} {fuel : Nat} {l : Array Bool} {σ : St}
theorem DAny_done (hr : Region.ready .any ops l = []) (h : K σ) : DAny P ops blK tl K fuel l σ := by
  cases fuel with
  | zero => exact ⟨hr, h⟩
  | succ n => exact ⟨fun _ => h, fun i hi => by rw [hr] at hi; cases hi⟩
theorem DAny_one {i : Nat} {o : Oper} (hr : Region.ready .any ops l = [i]) (ho : ops[i]? = some o) (hg : o.guard = none) (h : T P o (fun σ' => Sub blK σ'.bl ∧ DAny P ops blK tl K fuel (l.setIfInBounds i true) σ') σ) : DAny P ops blK tl K (fuel + 1) l σ := by
  refine ⟨fun h0 => (by rw [hr] at h0; cases h0), fun j hj => ?_⟩
  rw [hr] at hj
  obtain rfl : j = i := by simpa using hj
  unfold D1; rw [ho]; simp only [hg]; exact T_mono h fun _ ⟨h1, h2⟩ => ⟨fun _ => h1, h2⟩
/-- One of the last operations. -/
theorem DAny_last {i : Nat} {o : Oper} (hr : Region.ready .any ops l = [i]) (ho : ops[i]? = some o) (hg : o.guard = none) (ht : tl i = true) (h : T P o (fun σ' => DAny P ops blK tl K fuel (l.setIfInBounds i true) σ') σ) : DAny P ops blK tl K (fuel + 1) l σ := by
  refine ⟨fun h0 => (by rw [hr] at h0; cases h0), fun j hj => ?_⟩
  rw [hr] at hj
  obtain rfl : j = i := by simpa using hj
  unfold D1; rw [ho]; simp only [hg]; exact T_mono h fun _ h2 => ⟨fun hh => (by rw [ht] at hh; cases hh), h2⟩
theorem DAny_two {i j : Nat} {o o' : Oper} (hr : Region.ready .any ops l = [i, j]) (ho : ops[i]? = some o) (hg : o.guard = none) (ho' : ops[j]? = some o') (hg' : o'.guard = none)
    (h : T P o (fun σ' => Sub blK σ'.bl ∧ DAny P ops blK tl K fuel (l.setIfInBounds i true) σ') σ) (h' : T P o' (fun σ' => Sub blK σ'.bl ∧ DAny P ops blK tl K fuel (l.setIfInBounds j true) σ') σ) : DAny P ops blK tl K (fuel + 1) l σ := by
  refine ⟨fun h0 => (by rw [hr] at h0; cases h0), fun k hk => ?_⟩
  rw [hr] at hk
  rcases List.mem_cons.1 hk with rfl | hk
  · unfold D1; rw [ho]; simp only [hg]; exact T_mono h fun _ ⟨h1, h2⟩ => ⟨fun _ => h1, h2⟩
  · obtain rfl : k = j := by simpa using hk
    unfold D1; rw [ho']; simp only [hg']; exact T_mono h' fun _ ⟨h1, h2⟩ => ⟨fun _ => h1, h2⟩
end

def quietB (ops : Array Oper) : Bool := hoistB ops (List.range ops.size) (Array.replicate ops.size false) && (Region.ready .any ops (setAll (List.range ops.size) (Array.replicate ops.size false))).isEmpty

theorem AW_quiet {P : Program} {id : Nat} {ops : Array Oper} {K : Ex → St → Prop} {σ : St} (hm : P.follows .mixedOrders = true) (hB : quietB ops = true)
    (h : HoistF P (ops.toList.map (·.dst)) σ.bl ops.toList (K .normal) σ) : AW P (.region id ops true) K σ := by
  simp only [quietB, Bool.and_eq_true, List.isEmpty_iff] at hB
  refine AW_draw_quiet hm hB.1 hB.2 ?_
  have := Hoist_of ops.toList 0 σ (fun j => by simp) h
  rw [List.range_eq_range', ← Array.length_toList]
  exact this

/-! ### Loops over a few slots -/
def hv : List (Nat × V) → Nat → V
  | [], _ => .junk
  | (t, v) :: r, x => if x = t then v else hv r x
def Fit (l : List (Nat × V)) (n : Nat) (b : Int → Option Blk) (σ : St) : Prop := σ.n = n ∧ (∀ p, p ∈ l → σ.sl p.1 = p.2) ∧ Sub b σ.bl

theorem le_hv {σ : St} {l : List (Nat × V)} {n : Nat} {b : Int → Option Blk} (h : Fit l n b σ) : Le σ ⟨n, hv l, b⟩ := by
  obtain ⟨hn, hl, hb⟩ := h
  refine ⟨hn.symm, fun t _ => ?_, hb⟩
  show hv l t = σ.sl t ∨ hv l t = .junk
  clear hn hb
  induction l with
  | nil => exact .inr rfl
  | cons p r ih =>
    obtain ⟨u, v⟩ := p
    unfold hv
    split
    · rename_i ht; subst ht; exact .inl (hl (t, v) List.mem_cons_self).symm
    · exact ih fun p hp => hl p (List.mem_cons_of_mem _ hp)

/-- Only these slots matter from here on. -/
theorem AW_at {P : Program} {c : Code} {K : Ex → St → Prop} {σ : St} (l : List (Nat × V)) (n : Nat) (b : Int → Option Blk) (hf : Fit l n b σ) (h : AW P c K ⟨n, hv l, b⟩) : AW P c K σ := AW_le (le_hv hf) h

/-- Whatever way a region goes: these slots stay, and one is set. -/
theorem AW_way {P : Program} {id : Nat} {ops : Array Oper} {K : Ex → St → Prop} {σ : St} (l : List (Nat × V)) (n : Nat) (bl : Int → Option Blk) (t : Nat) (v : V) (bl' : Int → Option Blk) (hf : Fit l n bl σ) (hd : (l.all fun p => !(ops.toList.map (·.dst)).contains (some p.1)) = true)
    (h1 : OpsF P (ops.toList.map (·.dst)) ops.toList (fun σ' => σ'.sl t = v ∧ σ'.bl = bl') ⟨n, hv l, bl⟩) (h2 : K .normal ⟨n, hv ((t, v) :: l), bl'⟩) : AW P (.region id ops false) K σ := by
  refine AW_at l n bl hf ?_
  have hk : jn (hv l) (ops.toList.map (·.dst)) t v = hv ((t, v) :: l) := by
    funext x
    show (if x = t then v else if _ then _ else _) = if x = t then v else hv l x
    split
    · rfl
    · split
      · rename_i hx hc
        have : ∀ l : List (Nat × V), (l.all fun p => !(ops.toList.map (·.dst)).contains (some p.1)) = true → hv l x = .junk := by
          intro l
          induction l with
          | nil => intro _; rfl
          | cons p r ih =>
            obtain ⟨u, y⟩ := p
            intro ha
            simp only [List.all_cons, Bool.and_eq_true] at ha
            unfold hv
            rw [if_neg (by rintro rfl; rw [hc] at ha; exact absurd ha.1 (by simp)), ih ha.2]
        exact (this l hd).symm
      · rfl
  refine AW_join t v bl' (Ops_of h1) ?_
  rw [hk]; exact h2

def loopQ {α : Type} (S : α → List (Nat × V)) (B : α → Int → Option Blk) (I : α → Prop) (μ : α → Nat) (n m : Nat) (K : Ex → St → Prop) : Ex → St → Prop
  | .normal, σ => ∃ a, I a ∧ μ a < m ∧ Fit (S a) n (B a) σ
  | e, σ => K e σ

theorem AW_for {α : Type} {P : Program} {c : Code} {K : Ex → St → Prop} {σ : St} (S : α → List (Nat × V)) (B : α → Int → Option Blk) (I : α → Prop) (μ : α → Nat) (n : Nat) (a0 : α) (h0 : I a0) (hσ : Fit (S a0) n (B a0) σ)
    (round : ∀ a, I a → AW P c (loopQ S B I μ n (μ a) K) ⟨n, hv (S a), B a⟩) : AW P (.loop c) K σ := by
  intro w0 M F a w hs
  have hs := hs.le (le_hv hσ)
  intro b k cs
  have key : ∀ m (x : α) F1 a w, μ x = m → I x → (∀ b, F b → F1 b) → Sim w0 M F1 ⟨n, hv (S x), B x⟩ a w →
      ∃ e a' w', Post w0 M F K e a' w' ∧ Arrives P (lone (b.at a (.code c :: .inLoop c :: k)) cs w) b k cs e a' w' := by
    intro m
    induction m using Nat.strongRecOn with
    | _ m ih =>
      intro x F1 a w hm hI hF hs
      obtain ⟨e, a₁, w₁, hq, harr⟩ := round x hI w0 M F1 a w hs b (.inLoop c :: k) cs
      obtain ⟨ex, σ1, F2, rfl, hF2, hs1, hK⟩ := hq
      cases ex with
      | normal =>
        obtain ⟨y, hI2, hlt, hfit⟩ := hK
        have hfit' := le_hv hfit
        obtain ⟨e₂, a₂, w₂, hq₂, harr₂⟩ := ih (μ y) (hm ▸ hlt) y F2 a₁ w₁ rfl hI2 (fun b hb => hF2 b (hF b hb)) (hs1.le hfit')
        exact ⟨e₂, a₂, w₂, hq₂, .of_steps (Steps.trans harr (.one step_inLoop)) harr₂⟩
      | exit id => exact ⟨.exit id, a₁, w₁, ⟨.exit id, σ1, F2, rfl, fun b hb => hF2 b (hF b hb), hs1, hK⟩, .pass (x := .inLoop c) rfl (fun _ _ => .inl (by simp)) harr⟩
      | ret => exact ⟨.ret, a₁, w₁, ⟨.ret, σ1, F2, rfl, fun b hb => hF2 b (hF b hb), hs1, hK⟩, .pass (x := .inLoop c) rfl (fun _ _ => .inl (by simp)) harr⟩
  obtain ⟨e, a', w', hq, harr⟩ := key _ a0 F a w rfl h0 (fun _ h => h) hs
  exact ⟨e, a', w', hq, .of_steps (.one step_loop) harr⟩

theorem loopQ_normal {α : Type} (S : α → List (Nat × V)) (B : α → Int → Option Blk) (I : α → Prop) (μ : α → Nat) (n m : Nat) (K : Ex → St → Prop) (σ : St) : loopQ S B I μ n m K .normal σ = ∃ a, I a ∧ μ a < m ∧ Fit (S a) n (B a) σ := rfl
theorem loopQ_exit {α : Type} (S : α → List (Nat × V)) (B : α → Int → Option Blk) (I : α → Prop) (μ : α → Nat) (n m : Nat) (K : Ex → St → Prop) (i : Nat) (σ : St) : loopQ S B I μ n m K (.exit i) σ = K (.exit i) σ := rfl
theorem loopQ_ret {α : Type} (S : α → List (Nat × V)) (B : α → Int → Option Blk) (I : α → Prop) (μ : α → Nat) (n m : Nat) (K : Ex → St → Prop) (σ : St) : loopQ S B I μ n m K .ret σ = K .ret σ := rfl

section
variable {P : Program} {σ : St} {K : Ex → St → Prop}

/-- What is left of a call that reads: the value r, frozen. -/
def ROk (bl : Int → Option Blk) (r : V) (v : V) (bl' : Int → Option Blk) : Prop := ∃ n, frz (dropB bl' bl) n v = some r ∧ Sub bl bl'

theorem ro_of2 {f : FuncId} {fn : Func} {c : Code} {xs : List V} {r : V} (hf : P.funcs[f]? = some fn) (hb : fn.body = some c) (hn : (fn.name == "runtime.NumGoroutine") = false) (hl : xs.length ≤ fn.ntmps)
    (h : ∀ bl, AW P c (retK P fn.results.toList (ROk bl r)) ⟨fn.ntmps, fun t => xs.getD t .junk, bl⟩) : RO P f xs r := ro_of hf hb hn hl h

/-- The end of a function that reads. -/
theorem retRO {rs : List ResultVar} {bl : Int → Option Blk} {r : V} (vs : List V) (n : Nat) (h : resV P σ rs = some vs) (hf : frz (dropB σ.bl bl) n (retV vs) = some r) (hs : Sub bl σ.bl) :
    retK P rs (ROk bl r) .ret σ := by rw [retK_ret]; exact ⟨vs, h, n, hf, hs⟩
/-- .. that tells a value of one cell and has made nothing. -/
theorem retRO0 {rs : List ResultVar} {bl : Int → Option Blk} {r : V} (h : resV P σ rs = some [r]) (hb : σ.bl = bl) (hf : frz (dropB bl bl) 0 r = some r) : retK P rs (ROk bl r) .ret σ :=
  retRO [r] 0 h (by rw [hb]; exact hf) (by rw [hb]; exact Sub.refl _)

end
attribute [simp] St.ev St.put seqK_normal seqK_exit seqK_ret blockK_normal blockK_exit blockK_ret loopK_normal loopK_exit loopK_ret ofValue ofCell retV resV rdP loadV pickV intV binV unV lenV nilV fldV idxV idsV partV fieldV extV cvtV callV frzL jn fillV splice
attribute [simp] upd_idem eqA eqV eq1 qval upd_apply hv loopQ_exit loopQ_ret
@[simp] theorem cells_junk  : V.cells .junk = [.junk] := rfl
@[simp] theorem one_junk  : V.one .junk = false := rfl
@[simp] theorem cells_bool (b : Bool) : V.cells (.bool b) = [.bool b] := rfl
@[simp] theorem one_bool (b : Bool) : V.one (.bool b) = true := rfl
@[simp] theorem cells_int (k : IntKind) (n : Int) : V.cells (.int k n) = [.int k n] := rfl
@[simp] theorem one_int (k : IntKind) (n : Int) : V.one (.int k n) = true := rfl
@[simp] theorem cells_str (s : ByteArray) : V.cells (.str s) = [.str s] := rfl
@[simp] theorem one_str (s : ByteArray) : V.one (.str s) = true := rfl
@[simp] theorem cells_nilp  : V.cells .nilp = [.nilp] := rfl
@[simp] theorem one_nilp  : V.one .nilp = true := rfl
@[simp] theorem cells_ptr (cs : List V) : V.cells (.ptr cs) = [.ptr cs] := rfl
@[simp] theorem one_ptr (cs : List V) : V.one (.ptr cs) = true := rfl
@[simp] theorem cells_nils  : V.cells .nils = [.nils] := rfl
@[simp] theorem one_nils  : V.one .nils = true := rfl
@[simp] theorem cells_sle  : V.cells .sle = [.sle] := rfl
@[simp] theorem one_sle  : V.one .sle = true := rfl
@[simp] theorem cells_sl (xs : List (List V)) : V.cells (.sl xs) = [.sl xs] := rfl
@[simp] theorem one_sl (xs : List (List V)) : V.one (.sl xs) = true := rfl
@[simp] theorem cells_loc (g : Int) (sz k j : Nat) : V.cells (.loc g sz k j) = [.loc g sz k j] := rfl
@[simp] theorem one_loc (g : Int) (sz k j : Nat) : V.one (.loc g sz k j) = true := rfl
@[simp] theorem cells_lsl (g : Int) (sz o n : Nat) : V.cells (.lsl g sz o n) = [.lsl g sz o n] := rfl
@[simp] theorem one_lsl (g : Int) (sz o n : Nat) : V.one (.lsl g sz o n) = true := rfl
@[simp] theorem cells_agg (cs : List V) : V.cells (.agg cs) = cs := rfl
@[simp] theorem one_agg (cs : List V) : V.one (.agg cs) = false := rfl
@[simp] theorem cells_tup (vs : List V) : V.cells (.tup vs) = [.tup vs] := rfl
@[simp] theorem one_tup (vs : List V) : V.one (.tup vs) = false := rfl
@[simp] theorem cells_fn (f : FuncId) (cap : List V) : V.cells (.fn f cap) = [.fn f cap] := rfl
@[simp] theorem one_fn (f : FuncId) (cap : List V) : V.one (.fn f cap) = true := rfl
end Go.Proofs.YticmgmemnpcbbaaGreat.Vm

namespace Go.Proofs.YticmgmemnpcbbaaGreat.Vm
set_option linter.unusedSimpArgs false
set_option linter.unusedVariables false

/-- The base of the limbs. -/
def LB : Nat := 1000000000
theorem LB_pos : 0 < LB := by decide
/-- The limbs of a number, the least one first. -/
def lim (n : Nat) : List Int := if h : n = 0 then [] else ((n % LB : Nat) : Int) :: lim (n / LB)
termination_by n
decreasing_by exact Nat.div_lt_self (Nat.pos_of_ne_zero h) (by decide)
/-- The number of some limbs. -/
def val : List Int → Nat
  | [] => 0
  | d :: ds => d.toNat + LB * val ds
/-- Limbs, zeros at the end or not. -/
def Dig (l : List Int) : Prop := ∀ d, d ∈ l → 0 ≤ d ∧ d < 1000000000
theorem lim_zero : lim 0 = [] := by rw [lim, dif_pos rfl]
theorem lim_pos {n : Nat} (h : n ≠ 0) : lim n = ((n % LB : Nat) : Int) :: lim (n / LB) := by rw [lim, dif_neg h]
@[simp] theorem val_lim (n : Nat) : val (lim n) = n := by
  induction n using Nat.strongRecOn with
  | _ n ih =>
    by_cases h : n = 0
    · subst h; rw [lim_zero]; rfl
    · rw [lim_pos h, val, ih _ (Nat.div_lt_self (Nat.pos_of_ne_zero h) (by decide)), Int.toNat_natCast, Nat.mod_add_div]
theorem lim_dig (n : Nat) : Dig (lim n) := by
  induction n using Nat.strongRecOn with
  | _ n ih =>
    by_cases h : n = 0
    · subst h; rw [lim_zero]; intro d hd; cases hd
    · rw [lim_pos h]
      intro d hd
      rcases List.mem_cons.1 hd with rfl | hd
      · have : n % LB < 1000000000 := Nat.mod_lt _ LB_pos
        omega
      · exact ih _ (Nat.div_lt_self (Nat.pos_of_ne_zero h) (by decide)) d hd
theorem lim_inj {a b : Nat} (h : lim a = lim b) : a = b := by rw [← val_lim a, ← val_lim b, h]
@[simp] theorem lim_eq {a b : Nat} : lim a = lim b ↔ a = b := ⟨lim_inj, fun h => by rw [h]⟩
theorem lim_nil {n : Nat} : lim n = [] ↔ n = 0 := by rw [← lim_zero, lim_eq]
theorem Dig.tail {d : Int} {l : List Int} (h : Dig (d :: l)) : Dig l := fun x hx => h x (List.mem_cons_of_mem _ hx)
theorem Dig.append {a b : List Int} : Dig (a ++ b) ↔ Dig a ∧ Dig b := by
  constructor
  · intro h; exact ⟨fun d hd => h d (List.mem_append_left _ hd), fun d hd => h d (List.mem_append_right _ hd)⟩
  · rintro ⟨h1, h2⟩ d hd
    rcases List.mem_append.1 hd with hd | hd
    · exact h1 d hd
    · exact h2 d hd
theorem val_append (a b : List Int) : val (a ++ b) = val a + LB ^ a.length * val b := by
  induction a with
  | nil => simp [val]
  | cons d a ih => rw [List.cons_append, val, ih, val, List.length_cons, Nat.pow_succ, Nat.mul_add, Nat.add_assoc, Nat.mul_comm (LB ^ a.length) LB, Nat.mul_assoc]
theorem val_lt {l : List Int} (h : Dig l) : val l < LB ^ l.length := by
  induction l with
  | nil => simp [val]
  | cons d l ih =>
    have h1 := h d List.mem_cons_self
    have h2 := ih h.tail
    rw [val, List.length_cons, Nat.pow_succ]
    have : LB * (val l + 1) ≤ LB * LB ^ l.length := Nat.mul_le_mul_left _ h2
    have h3 : d.toNat < LB := by unfold LB; omega
    rw [Nat.mul_comm (LB ^ l.length)]
    rw [Nat.mul_add] at this
    omega
/-- Limbs without a zero at the end are the limbs of their number. -/
theorem lim_val {l : List Int} (h : Dig l) (hz : ∀ d, l.getLast? = some d → d ≠ 0) : lim (val l) = l := by
  induction l with
  | nil => exact lim_zero
  | cons d l ih =>
    have h1 := h d List.mem_cons_self
    have hd : d.toNat < LB := by unfold LB; omega
    have e1 : (d.toNat + LB * val l) % LB = d.toNat := by rw [Nat.add_mul_mod_self_left, Nat.mod_eq_of_lt hd]
    have e2 : (d.toNat + LB * val l) / LB = val l := by rw [Nat.add_mul_div_left _ _ LB_pos, Nat.div_eq_of_lt hd, Nat.zero_add]
    have hl : lim (val l) = l := ih h.tail fun x hx => hz x (by
      cases l with
      | nil => cases hx
      | cons y l => rw [List.getLast?_cons_cons]; exact hx)
    have hne : d.toNat + LB * val l ≠ 0 := by
      intro h0
      have hv : val l = 0 := by
        have : LB * val l = 0 := by omega
        rcases Nat.mul_eq_zero.1 this with h | h
        · exact absurd h (by decide)
        · exact h
      rw [hv, lim_zero] at hl
      subst hl
      have : d = 0 := by omega
      exact hz d rfl this
    rw [val, lim_pos hne, e1, e2, hl]
    congr 1
    omega
theorem lim_last (n : Nat) (d : Int) (h : (lim n).getLast? = some d) : d ≠ 0 := by
  induction n using Nat.strongRecOn generalizing d with
  | _ n ih =>
    by_cases h0 : n = 0
    · subst h0; rw [lim_zero] at h; cases h
    · rw [lim_pos h0] at h
      have hlt := Nat.div_lt_self (Nat.pos_of_ne_zero h0) (show 1 < LB by decide)
      cases hq : lim (n / LB) with
      | nil =>
        rw [hq] at h
        simp at h
        subst h
        have hq0 := lim_nil.1 hq
        have := Nat.mod_add_div n LB
        rw [hq0] at this
        omega
      | cons y l =>
        rw [hq, List.getLast?_cons_cons, ← hq] at h
        exact ih _ hlt d h
theorem lim_length_le {n k : Nat} : (lim n).length ≤ k ↔ n < LB ^ k := by
  constructor
  · intro h
    have h1 := val_lt (lim_dig n)
    rw [val_lim] at h1
    exact Nat.lt_of_lt_of_le h1 (Nat.pow_le_pow_right LB_pos h)
  · intro h
    induction k generalizing n with
    | zero => have : n = 0 := by simpa using h
              subst this; rw [lim_zero]; simp
    | succ k ih =>
      by_cases h0 : n = 0
      · subst h0; rw [lim_zero]; simp
      · rw [lim_pos h0, List.length_cons]
        have : n / LB < LB ^ k := by
          rw [Nat.div_lt_iff_lt_mul LB_pos, ← Nat.pow_succ]; exact h
        have := ih this
        omega
theorem lim_length_lt {a b : Nat} (h : (lim a).length < (lim b).length) : a < b := by
  have h1 : a < LB ^ (lim a).length := lim_length_le.1 (Nat.le_refl _)
  have h2 : ¬ b < LB ^ (lim a).length := fun hh => by have := lim_length_le.2 hh; omega
  omega
theorem lim_length_mono {a b : Nat} (h : a ≤ b) : (lim a).length ≤ (lim b).length := by
  rcases Nat.lt_or_ge (lim b).length (lim a).length with hh | hh
  · have := lim_length_lt hh; omega
  · exact hh

/-- Zeros at the end taken away, from the first n limbs. -/
theorem val_take_zero {l : List Int} {n : Nat} (h : ∀ i (hi : i < l.length), n ≤ i → l[i] = 0) : val (l.take n) = val l := by
  induction l generalizing n with
  | nil => simp
  | cons d l ih =>
    cases n with
    | zero =>
      have hd : d = 0 := by have := h 0 (by simp) (Nat.le_refl _); simpa using this
      have := ih (n := 0) fun i hi _ => by have := h (i + 1) (by simpa using hi) (by omega); simpa using this
      simp [val] at this ⊢
      subst hd; rw [← this]; simp
    | succ n =>
      rw [List.take_succ_cons, val, val, ih fun i hi hn => by have := h (i + 1) (by simpa using hi) (by omega); simpa using this]
theorem take_dig {l : List Int} (h : Dig l) (n : Nat) : Dig (l.take n) := fun d hd => h d (List.mem_of_mem_take hd)
/-- What trimming leaves. -/
theorem trim_lim {l : List Int} {n : Nat} (h : Dig l) (hn : n ≤ l.length) (hz : ∀ i (hi : i < l.length), n ≤ i → l[i] = 0) (hl : ∀ i (hi : i < l.length), n = i + 1 → l[i] ≠ 0) : l.take n = lim (val l) := by
  rw [← val_take_zero hz, lim_val (take_dig h n)]
  intro d hd
  rw [List.getLast?_eq_getElem?] at hd
  have hlen : (l.take n).length = n := by simp; omega
  rw [hlen] at hd
  obtain ⟨h1, h2⟩ := List.getElem?_eq_some_iff.1 hd
  rw [hlen] at h1
  rw [List.getElem_take] at h2
  rw [← h2]
  exact hl (n - 1) (by omega) (by omega)

end Go.Proofs.YticmgmemnpcbbaaGreat.Vm

namespace Go.Proofs.YticmgmemnpcbbaaGreat.Vm
set_option linter.unusedSimpArgs false
set_option linter.unusedVariables false

theorem val_take_succ {l : List Int} {i : Nat} (h : i < l.length) : val (l.take (i + 1)) = val (l.take i) + LB ^ i * l[i].toNat := by
  rw [List.take_add_one, List.getElem?_eq_getElem h, val_append]
  have : (l.take i).length = i := by simp; omega
  rw [this]
  simp [val]
/-- The first limbs from above that differ decide. -/
theorem val_lt_at : ∀ {a b : List Int} {i : Nat} (ha : Dig a) (hb : Dig b) (hl : a.length = b.length) (hi : i < a.length), (∀ j (h1 : j < a.length), i < j → a[j] = b[j]'(hl ▸ h1)) → a[i] < b[i]'(hl ▸ hi) → val a < val b
  | [], b, i, _, _, _, hi, _, _ => by simp at hi
  | x :: a, [], i, _, _, hl, _, _, _ => by simp at hl
  | x :: a, y :: b, 0, ha, hb, hl, _, he, hlt => by
    have hx := ha x List.mem_cons_self
    have hy := hb y List.mem_cons_self
    have hab : a = b := by
      apply List.ext_getElem
      · simpa using hl
      · intro j h1 h2
        have := he (j + 1) (by simpa using h1) (by omega)
        simpa using this
    subst hab
    simp at hlt
    simp only [val]
    omega
  | x :: a, y :: b, i + 1, ha, hb, hl, hi, he, hlt => by
    have hx := ha x List.mem_cons_self
    have hy := hb y List.mem_cons_self
    have := val_lt_at (a := a) (b := b) (i := i) ha.tail hb.tail (by simpa using hl) (by simpa using hi) (fun j h1 h2 => by have := he (j + 1) (by simpa using h1) (by omega); simpa using this) (by simpa using hlt)
    simp only [val]
    have h2 : LB * (val a + 1) ≤ LB * val b := Nat.mul_le_mul_left _ this
    rw [Nat.mul_add] at h2
    have : LB = 1000000000 := rfl
    omega
def cmpN (a b : Nat) : Int := if a < b then -1 else if a = b then 0 else 1
/-- One step of a sum: o are the limbs made, c is carried. -/
theorem plus_step {o : List Int} {i A S : Nat} {c x : Int} {P : Nat} (hP : P = LB ^ i) (ho : o.length = i) (hx0 : 0 ≤ x) (hc : (val o : Int) + c * P = S) (hA : x = c + A) :
    (val (o ++ [x.tmod 1000000000]) : Int) + x.tdiv 1000000000 * (LB ^ (i + 1) : Nat) = (S + P * A : Nat) := by
  obtain ⟨n, rfl⟩ : ∃ n : Nat, x = n := ⟨x.toNat, by omega⟩
  have e1 : (n : Int).tmod 1000000000 = (n % 1000000000 : Nat) := by rw [Int.tmod_eq_emod_of_nonneg (by omega)]; omega
  have e2 : (n : Int).tdiv 1000000000 = (n / 1000000000 : Nat) := by rw [Int.tdiv_eq_ediv_of_nonneg (by omega)]; omega
  rw [e1, e2, val_append, ho, Nat.pow_succ, ← hP]
  simp only [val, Int.toNat_natCast, Nat.mul_zero, Nat.add_zero]
  have h3 : n % 1000000000 + 1000000000 * (n / 1000000000) = n := Nat.mod_add_div n _
  have h4 : P * (n % 1000000000) + P * (1000000000 * (n / 1000000000)) = P * n := by rw [← Nat.mul_add, h3]
  have h5 : n / 1000000000 * (P * LB) = P * (1000000000 * (n / 1000000000)) := by
    show n / 1000000000 * (P * 1000000000) = _
    rw [Nat.mul_comm, Nat.mul_assoc]
  have h6 : (P : Int) * n = P * c + P * A := by rw [hA, Int.mul_add]
  have h7 : (c : Int) * P = P * c := Int.mul_comm _ _
  rw [← Int.natCast_mul, h5]
  have h8 : ((P * (n % 1000000000) + P * (1000000000 * (n / 1000000000)) : Nat) : Int) = (P : Int) * n := by rw [h4]; simp
  rw [h6] at h8
  simp only [Int.natCast_add] at h8 ⊢
  have h9 : ((P * A : Nat) : Int) = (P : Int) * A := by simp
  rw [h9]
  omega

end Go.Proofs.YticmgmemnpcbbaaGreat.Vm

namespace Go.Proofs.YticmgmemnpcbbaaGreat.Vm
set_option linter.unusedSimpArgs false
set_option linter.unusedVariables false

theorem val_set : ∀ {l : List Int} {k : Nat} (h : k < l.length) (d : Int), val (l.set k d) + LB ^ k * l[k].toNat = val l + LB ^ k * d.toNat
  | [], k, h, d => by simp at h
  | x :: l, 0, h, d => by simp [val]; omega
  | x :: l, k + 1, h, d => by
    have hk : k < l.length := by simpa using h
    have ih := val_set (l := l) (k := k) hk d
    have e : LB * (val (l.set k d) + LB ^ k * l[k].toNat) = LB * (val l + LB ^ k * d.toNat) := by rw [ih]
    rw [Nat.mul_add, Nat.mul_add, ← Nat.mul_assoc, ← Nat.mul_assoc, Nat.mul_comm LB (LB ^ k), ← Nat.pow_succ] at e
    simp only [List.set_cons_succ, val, List.getElem_cons_succ]
    rw [Nat.succ_eq_add_one] at e
    omega
theorem Dig.set {l : List Int} (h : Dig l) {k : Nat} {d : Int} (hd : 0 ≤ d ∧ d < 1000000000) : Dig (l.set k d) := by
  intro x hx
  rcases List.mem_or_eq_of_mem_set hx with hx | rfl
  · exact h x hx
  · exact hd
theorem Dig.at {l : List Int} (h : Dig l) {k : Nat} (hk : k < l.length) : 0 ≤ l[k] ∧ l[k] < 1000000000 := h _ (List.getElem_mem hk)
theorem dig_replicate (n : Nat) : Dig (List.replicate n 0) := by
  intro d hd
  rw [(List.mem_replicate.1 hd).2]; decide
theorem val_replicate (n : Nat) : val (List.replicate n 0) = 0 := by
  induction n with
  | zero => rfl
  | succ n ih => rw [List.replicate_succ, val, ih]; rfl

/-- One step of a difference. -/
theorem minus_step {o : List Int} {i A B Sa Sb br br' : Nat} {x : Int} (ho : o.length = i) (hI : val o + Sb = Sa + br * LB ^ i) (hx : x = (A : Int) - br - B + br' * 1000000000) (hx0 : 0 ≤ x) :
    val (o ++ [x]) + (Sb + LB ^ i * B) = (Sa + LB ^ i * A) + br' * LB ^ (i + 1) := by
  obtain ⟨n, rfl⟩ : ∃ n : Nat, x = n := ⟨x.toNat, by omega⟩
  have hn : n + br + B = A + br' * LB := by
    show n + br + B = A + br' * 1000000000
    omega
  rw [val_append, ho]
  simp only [val, Int.toNat_natCast, Nat.mul_zero, Nat.add_zero]
  have h1 : LB ^ i * (n + br + B) = LB ^ i * (A + br' * LB) := by rw [hn]
  rw [Nat.mul_add, Nat.mul_add, Nat.mul_add] at h1
  have h2 : br' * LB ^ (i + 1) = LB ^ i * (br' * LB) := by rw [Nat.pow_succ, ← Nat.mul_assoc, Nat.mul_comm br', Nat.mul_assoc]
  have h3 : br * LB ^ i = LB ^ i * br := Nat.mul_comm _ _
  omega

/-- One step of a row of a product: x is what stands at k, and what comes. -/
theorem times_step {O : List Int} {k : Nat} (hk : k < O.length) (hO : Dig O) {n m c S : Nat} (hI : val O + c * LB ^ k = S) :
    val (O.set k ((O[k] + n * m + c).tmod 1000000000)) + ((O[k] + n * m + c).tdiv 1000000000).toNat * LB ^ (k + 1) = S + LB ^ k * (n * m) := by
  have h0 := hO.at hk
  obtain ⟨o, ho⟩ : ∃ o : Nat, O[k] = o := ⟨O[k].toNat, by omega⟩
  have hv := val_set hk ((O[k] + n * m + c).tmod 1000000000)
  rw [ho] at hv ⊢
  obtain ⟨x, hx⟩ : ∃ x : Nat, x = o + n * m + c := ⟨_, rfl⟩
  have hxi : (o : Int) + n * m + c = (x : Nat) := by rw [hx]; simp
  rw [hxi] at hv ⊢
  have e1 : (x : Int).tmod 1000000000 = (x % 1000000000 : Nat) := by rw [Int.tmod_eq_emod_of_nonneg (by omega)]; omega
  have e2 : (x : Int).tdiv 1000000000 = (x / 1000000000 : Nat) := by rw [Int.tdiv_eq_ediv_of_nonneg (by omega)]; omega
  rw [e1] at hv ⊢
  rw [e2, Int.toNat_natCast]
  simp only [Int.toNat_natCast] at hv
  have h3 : LB ^ k * (x % 1000000000 + 1000000000 * (x / 1000000000)) = LB ^ k * x := by rw [Nat.mod_add_div]
  rw [Nat.mul_add] at h3
  have h4 : x / 1000000000 * LB ^ (k + 1) = LB ^ k * (1000000000 * (x / 1000000000)) := by
    rw [Nat.pow_succ, Nat.mul_comm, Nat.mul_assoc]; rfl
  have h5 : LB ^ k * x = LB ^ k * o + LB ^ k * (n * m) + LB ^ k * c := by rw [hx, Nat.mul_add, Nat.mul_add]
  have h6 : c * LB ^ k = LB ^ k * c := Nat.mul_comm _ _
  omega
/-- What is carried stays a limb. -/
theorem times_carry {o n m c : Int} (ho : 0 ≤ o ∧ o < 1000000000) (hn : 0 ≤ n ∧ n < 1000000000) (hm : 0 ≤ m ∧ m < 1000000000) (hc : 0 ≤ c ∧ c < 1000000000) :
    0 ≤ o + n * m + c ∧ o + n * m + c < 1000000000000000000 ∧ 0 ≤ (o + n * m + c).tdiv 1000000000 ∧ (o + n * m + c).tdiv 1000000000 < 1000000000 := by
  have h1 : 0 ≤ n * m := Int.mul_nonneg hn.1 hm.1
  have h2 : n * m ≤ 999999999 * 999999999 := Int.mul_le_mul (by omega) (by omega) hm.1 (by omega)
  have h3 : 0 ≤ o + n * m + c := by omega
  rw [Int.tdiv_eq_ediv_of_nonneg h3]
  omega
/-- One step of a quotient by one limb, from above. -/
theorem small_step {Q A r b a : Nat} {L : Nat} (hI : A = Q * b + r) (hb : 0 < b) : (a + L * A) = ((r * L + a) / b + L * Q) * b + (r * L + a) % b := by
  have h := Nat.div_add_mod (r * L + a) b
  rw [hI, Nat.mul_add, Nat.add_mul]
  have h1 : (r * L + a) / b * b = b * ((r * L + a) / b) := Nat.mul_comm _ _
  have h2 : L * (Q * b) = L * Q * b := (Nat.mul_assoc _ _ _).symm
  have h3 : L * r = r * L := Nat.mul_comm _ _
  omega

end Go.Proofs.YticmgmemnpcbbaaGreat.Vm

namespace Go.Proofs.YticmgmemnpcbbaaGreat.Vm
set_option linter.unusedSimpArgs false
set_option linter.unusedVariables false

/-- A guess that is too great for the first limbs is too great. -/
theorem guess_dec {g v t T ul vl : Nat} (hT : 0 < T) (hu : ul < T) (hv : 0 < v) (h : t < g * v) : (t * T + ul) / (v * T + vl) < g := by
  have hV : 0 < v * T + vl := by have := Nat.mul_pos hv hT; omega
  rw [Nat.div_lt_iff_lt_mul hV, Nat.mul_add, ← Nat.mul_assoc]
  have h1 : (t + 1) * T ≤ g * v * T := Nat.mul_le_mul_right _ h
  rw [Nat.add_mul] at h1
  omega
/-- A guess of a base or more is too great. -/
theorem guess_base {g U V : Nat} (hV : 0 < V) (h : U < LB * V) (hg : LB ≤ g) : U / V < g := by
  rw [Nat.div_lt_iff_lt_mul hV]
  exact Nat.lt_of_lt_of_le h (Nat.mul_le_mul_right _ hg)
/-- A guess that is not too great for the first limbs is at most one too great. -/
theorem guess_fin {g v1 v2 t T ul vl : Nat} (hvl : vl < T) (hv : 0 < v1) (hg : g < LB) (h : g * (v1 * LB + v2) ≤ t) : g ≤ (t * T + ul) / ((v1 * LB + v2) * T + vl) + 1 := by
  have hT : 0 < T := by omega
  have hV : 0 < (v1 * LB + v2) * T + vl := by
    have : 0 < v1 * LB + v2 := by have := Nat.mul_pos hv LB_pos; omega
    have := Nat.mul_pos this hT
    omega
  by_cases h0 : g = 0
  · rw [h0]; exact Nat.zero_le _
  have h1 : g - 1 ≤ (t * T + ul) / ((v1 * LB + v2) * T + vl) := by
    rw [Nat.le_div_iff_mul_le hV]
    have e1 : (g - 1) * ((v1 * LB + v2) * T + vl) + ((v1 * LB + v2) * T + vl) = g * ((v1 * LB + v2) * T + vl) := by
      obtain ⟨k, rfl⟩ : ∃ k, g = k + 1 := ⟨g - 1, by omega⟩
      rw [Nat.add_sub_cancel, Nat.add_mul k 1, Nat.one_mul]
    have e2 : g * ((v1 * LB + v2) * T + vl) = g * (v1 * LB + v2) * T + g * vl := by rw [Nat.mul_add, Nat.mul_assoc]
    have e3 : g * (v1 * LB + v2) * T ≤ t * T := Nat.mul_le_mul_right _ h
    have e4 : g * vl ≤ LB * T := Nat.mul_le_mul (by omega) (by omega)
    have e5 : LB * T ≤ (v1 * LB + v2) * T := Nat.mul_le_mul_right _ (by have := Nat.mul_le_mul_right LB hv; omega)
    omega
  omega
/-- Where the rest passes the base, the guess is less than the base, and not too great for the first limbs. -/
theorem guess_break {g r v1 v2 top u : Nat} (ht : top = g * v1 + r) (hr : LB ≤ r) (htop : top ≤ v1 * LB + (LB - 1)) (hv2 : v2 < LB) (hv1 : 0 < v1) : g < LB ∧ g * (v1 * LB + v2) ≤ top * LB + u := by
  have hb := LB_pos
  have hg : g < LB := by
    rcases Nat.lt_or_ge g LB with h | h
    · exact h
    · have := Nat.mul_le_mul_right v1 h
      have e : v1 * LB = LB * v1 := Nat.mul_comm _ _
      omega
  refine ⟨hg, ?_⟩
  have h1 : g * v2 ≤ LB * LB := Nat.mul_le_mul (by omega) (by omega)
  have h2 : LB * LB ≤ r * LB := Nat.mul_le_mul_right _ hr
  have h3 : top * LB = g * v1 * LB + r * LB := by rw [ht, Nat.add_mul]
  have h4 : g * (v1 * LB + v2) = g * v1 * LB + g * v2 := by rw [Nat.mul_add, Nat.mul_assoc]
  omega
/-- The test of the loop, said of the first limbs. -/
theorem guess_test {g r v1 v2 top u : Nat} (ht : top = g * v1 + r) : r * LB + u < g * v2 ↔ top * LB + u < g * (v1 * LB + v2) := by
  have h3 : top * LB = g * v1 * LB + r * LB := by rw [ht, Nat.add_mul]
  have h4 : g * (v1 * LB + v2) = g * v1 * LB + g * v2 := by rw [Nat.mul_add, Nat.mul_assoc]
  omega

end Go.Proofs.YticmgmemnpcbbaaGreat.Vm

namespace Go.Proofs.YticmgmemnpcbbaaGreat.Vm
set_option linter.unusedSimpArgs false
set_option linter.unusedVariables false

theorem low_parts (n : Int) {d : Nat} (hd : d ≠ 0) : (mkRat n d).num.natAbs = n.natAbs / Nat.gcd n.natAbs d ∧ (mkRat n d).den = d / Nat.gcd n.natAbs d ∧ ((mkRat n d).num < 0 ↔ n < 0) := by
  rw [← Rat.normalize_eq_mkRat hd, Rat.normalize_eq hd]
  have hg : 0 < Nat.gcd n.natAbs d := Nat.gcd_pos_of_pos_right _ (Nat.pos_of_ne_zero hd)
  obtain ⟨k, hk⟩ : (Nat.gcd n.natAbs d : Int) ∣ n := by
    exact Int.ofNat_dvd_left.2 (Nat.gcd_dvd_left _ _)
  show (n / ((Nat.gcd n.natAbs d : Nat) : Int)).natAbs = _ ∧ d / Nat.gcd n.natAbs d = _ ∧ (n / ((Nat.gcd n.natAbs d : Nat) : Int) < 0 ↔ n < 0)
  generalize Nat.gcd n.natAbs d = g at *
  have e : n / (g : Int) = k := by rw [hk, Int.mul_ediv_cancel_left _ (by omega)]
  have ea : n.natAbs / g = k.natAbs := by rw [hk, Int.natAbs_mul, Int.natAbs_natCast, Nat.mul_div_cancel_left _ hg]
  refine ⟨by rw [e, ea], rfl, ?_⟩
  show n / (g : Int) < 0 ↔ n < 0
  rw [e, hk]
  constructor
  · intro h; exact Int.mul_neg_of_pos_of_neg (by omega) h
  · intro h
    by_cases h1 : k < 0
    · exact h1
    · have := Int.mul_nonneg (show 0 ≤ (g : Int) by omega) (show 0 ≤ k by omega); omega

/-- A quotient, over the parts. -/
theorem div_mk (a b : Rat) (hb : b.num ≠ 0) : a / b = mkRat (a.num * (b.num.sign * b.den)) (a.den * b.num.natAbs) := by
  rw [Rat.div_def, Rat.mul_def', Rat.num_inv, Rat.den_inv, if_neg hb]
/-- The sign of a difference. -/
theorem rat_lt (a b : Rat) : a < b ↔ a.num * b.den < b.num * a.den := Rat.lt_iff a b
end Go.Proofs.YticmgmemnpcbbaaGreat.Vm

namespace Go.Proofs.YticmgmemnpcbbaaGreat.Vm
set_option linter.unusedSimpArgs false
set_option linter.unusedVariables false

/-- The bounds of a digit: x are the first limbs of the rest, t is the first limb of the divisor. -/
theorem digit_lo {x t T rl bl : Nat} (hb : bl < T) (ht : 0 < t) : x / (t + 1) ≤ (x * T + rl) / (t * T + bl) := by
  have hT : 0 < T := by omega
  have hV : 0 < t * T + bl := by have := Nat.mul_pos ht hT; omega
  rw [Nat.le_div_iff_mul_le hV]
  have h1 : t * T + bl ≤ (t + 1) * T := by rw [Nat.add_mul]; omega
  have h2 : x / (t + 1) * (t * T + bl) ≤ x / (t + 1) * ((t + 1) * T) := Nat.mul_le_mul_left _ h1
  have h3 : x / (t + 1) * (t + 1) ≤ x := Nat.div_mul_le_self _ _
  have h4 : x / (t + 1) * ((t + 1) * T) ≤ x * T := by rw [← Nat.mul_assoc]; exact Nat.mul_le_mul_right _ h3
  omega
theorem digit_hi {x t T rl bl : Nat} (hr : rl < T) (ht : 0 < t) : (x * T + rl) / (t * T + bl) ≤ x / t := by
  have hT : 0 < T := by omega
  have hV : 0 < t * T := Nat.mul_pos ht hT
  have h1 : (x * T + rl) / (t * T + bl) ≤ (x * T + rl) / (t * T) := Nat.div_le_div_left (by omega) hV
  have h2 : (x * T + rl) / (t * T) = x / t := by
    rw [Nat.mul_comm t T, ← Nat.div_div_eq_div_mul, Nat.mul_comm x T, Nat.mul_add_div hT, Nat.div_eq_of_lt hr, Nat.add_zero]
  omega
/-- A half of the search. -/
theorem digit_half {b r q : Nat} (hb : 0 < b) : b * q ≤ r ↔ q ≤ r / b := by
  rw [Nat.le_div_iff_mul_le hb, Nat.mul_comm]
/-- A step of the schoolbook: the rest with the next limb below it. -/
theorem school_step {Q A r b a q : Nat} {L : Nat} (hI : A = Q * b + r) : a + L * A = (q + L * Q) * b + (a + L * r - q * b) ∨ a + L * r < q * b := by
  rcases Nat.lt_or_ge (a + L * r) (q * b) with h | h
  · exact .inr h
  · refine .inl ?_
    rw [hI, Nat.mul_add, Nat.add_mul]
    have h2 : L * (Q * b) = L * Q * b := (Nat.mul_assoc _ _ _).symm
    omega

end Go.Proofs.YticmgmemnpcbbaaGreat.Vm

namespace Go.Proofs.YticmgmemnpcbbaaGreat.Vm
set_option linter.unusedSimpArgs false
set_option linter.unusedVariables false

theorem take_set {O : List Int} {k : Nat} (hk : k < O.length) (hO : Dig O) {m c c' S A : Nat} {x : Int} (hI : val O + S = A + c * LB ^ k) (hx : x = O[k] - m - c + c' * 1000000000) (hx0 : 0 ≤ x) :
    val (O.set k x) + (S + LB ^ k * m) = A + c' * LB ^ (k + 1) := by
  have h0 := hO.at hk
  have hv := val_set hk x
  obtain ⟨o, ho⟩ : ∃ o : Nat, O[k] = o := ⟨O[k].toNat, by omega⟩
  obtain ⟨n, rfl⟩ : ∃ n : Nat, x = n := ⟨x.toNat, by omega⟩
  rw [ho] at hv hx
  simp only [Int.toNat_natCast] at hv
  have hn : n + m + c = o + c' * LB := by
    show n + m + c = o + c' * 1000000000
    omega
  have h1 : LB ^ k * (n + m + c) = LB ^ k * (o + c' * LB) := by rw [hn]
  rw [Nat.mul_add, Nat.mul_add, Nat.mul_add] at h1
  have h2 : c' * LB ^ (k + 1) = LB ^ k * (c' * LB) := by rw [Nat.pow_succ, ← Nat.mul_assoc, Nat.mul_comm c', Nat.mul_assoc]
  have h3 : c * LB ^ k = LB ^ k * c := Nat.mul_comm _ _
  omega
/-- What is borrowed. -/
theorem take_carry {o x c : Int} (hx : x < 0) (hc : c = (1000000000 - 1 - x).tdiv 1000000000) : 0 ≤ x + c * 1000000000 ∧ x + c * 1000000000 < 1000000000 ∧ 0 ≤ c := by
  rw [Int.tdiv_eq_ediv_of_nonneg (by omega)] at hc
  omega
theorem give_set {O : List Int} {k : Nat} (hk : k < O.length) (hO : Dig O) {m c S : Nat} (hI : val O + c * LB ^ k = S) :
    val (O.set k ((O[k] + m + c).tmod 1000000000)) + ((O[k] + m + c).tdiv 1000000000).toNat * LB ^ (k + 1) = S + LB ^ k * m := by
  have := times_step hk hO (n := m) (m := 1) hI
  simpa using this
/-- The sign of what is left is the sign of its first limb. -/
theorem sign_top {M : Nat} {n : Nat} {t : Int} (hM : M < LB ^ n) : (M : Int) + t * (LB ^ n : Nat) < 0 ↔ t < 0 := by
  have hP : 0 < LB ^ n := Nat.pow_pos LB_pos
  generalize LB ^ n = P at *
  constructor
  · intro h
    by_cases ht : t < 0
    · exact ht
    · have := Int.mul_nonneg (show 0 ≤ t by omega) (show 0 ≤ (P : Int) by omega)
      omega
  · intro ht
    have h1 : t * (P : Int) ≤ (-1) * P := Int.mul_le_mul_of_nonneg_right (by omega) (by omega)
    omega

end Go.Proofs.YticmgmemnpcbbaaGreat.Vm

namespace Go.Proofs.YticmgmemnpcbbaaGreat.Vm
set_option linter.unusedSimpArgs false
set_option linter.unusedVariables false

/-! ### Order -/
theorem cmp_len_lt {a b : Nat} (h : (lim a).length < (lim b).length) : cmpN a b = -1 := by
  have := lim_length_lt h
  unfold cmpN; rw [if_pos this]
theorem cmp_len_gt {a b : Nat} (h : (lim b).length < (lim a).length) : cmpN a b = 1 := by
  have := lim_length_lt h
  unfold cmpN; rw [if_neg (by omega), if_neg (by omega)]
theorem cmp_at_lt {a b i : Nat} (hl : (lim a).length = (lim b).length) (h1 : i < (lim a).length) (h2 : i < (lim b).length) (he : ∀ j (h1 : j < (lim a).length) (h2 : j < (lim b).length), i < j → (lim a)[j] = (lim b)[j]) (h : (lim a)[i] < (lim b)[i]) : cmpN a b = -1 := by
  have := val_lt_at (lim_dig a) (lim_dig b) hl h1 (fun j hj hij => he j hj _ hij) h
  rw [val_lim, val_lim] at this
  unfold cmpN; rw [if_pos this]
theorem cmp_at_gt {a b i : Nat} (hl : (lim a).length = (lim b).length) (h1 : i < (lim a).length) (h2 : i < (lim b).length) (he : ∀ j (h1 : j < (lim a).length) (h2 : j < (lim b).length), i < j → (lim a)[j] = (lim b)[j]) (h : (lim b)[i] < (lim a)[i]) : cmpN a b = 1 := by
  have := val_lt_at (lim_dig b) (lim_dig a) hl.symm h2 (fun j hj hij => (he j (hl ▸ hj) hj hij).symm) h
  rw [val_lim, val_lim] at this
  unfold cmpN; rw [if_neg (by omega), if_neg (by omega)]
theorem cmp_same {a b : Nat} (hl : (lim a).length = (lim b).length) (he : ∀ j (h1 : j < (lim a).length) (h2 : j < (lim b).length), (lim a)[j] = (lim b)[j]) : cmpN a b = 0 := by
  have : a = b := lim_inj (List.ext_getElem hl fun j h1 h2 => he j h1 h2)
  subst this
  unfold cmpN; rw [if_neg (by omega), if_pos rfl]

/-! ### The first limbs of a number -/
def pv (a i : Nat) : Nat := val ((lim a).take i)
/-- A limb of a number; 0 above the last. -/
def dg (a i : Nat) : Nat := (((lim a)[i]?).getD 0).toNat
theorem dg_lt (a i : Nat) : dg a i < 1000000000 := by
  unfold dg
  rcases h : (lim a)[i]? with _ | d
  · simp
  · have := lim_dig a d (List.mem_of_getElem? h)
    simp; omega
theorem lim_at {a i : Nat} (h : i < (lim a).length) : (lim a)[i] = (dg a i : Nat) := by
  have := (lim_dig a).at h
  unfold dg
  rw [List.getElem?_eq_getElem h]
  simp; omega
theorem dg_out {a i : Nat} (h : (lim a).length ≤ i) : dg a i = 0 := by
  unfold dg
  rw [List.getElem?_eq_none h]; rfl
theorem cmp_lt {a b i : Nat} (hl : (lim a).length = (lim b).length) (hi : i < (lim a).length) (he : ∀ j, i < j → dg a j = dg b j) (h : dg a i < dg b i) : cmpN a b = -1 :=
  cmp_at_lt hl hi (hl ▸ hi) (fun j h1 h2 hj => by rw [lim_at h1, lim_at h2, he j hj]) (by rw [lim_at hi, lim_at (hl ▸ hi)]; omega)
theorem cmp_gt {a b i : Nat} (hl : (lim a).length = (lim b).length) (hi : i < (lim a).length) (he : ∀ j, i < j → dg a j = dg b j) (h : dg b i < dg a i) : cmpN a b = 1 :=
  cmp_at_gt hl hi (hl ▸ hi) (fun j h1 h2 hj => by rw [lim_at h1, lim_at h2, he j hj]) (by rw [lim_at hi, lim_at (hl ▸ hi)]; omega)
theorem cmp_eq {a b : Nat} (hl : (lim a).length = (lim b).length) (he : ∀ j, dg a j = dg b j) : cmpN a b = 0 :=
  cmp_same hl fun j h1 h2 => by rw [lim_at h1, lim_at h2, he j]
@[simp] theorem pv_zero (a : Nat) : pv a 0 = 0 := by simp [pv, val]
theorem pv_succ (a i : Nat) : pv a (i + 1) = pv a i + LB ^ i * dg a i := by
  rcases Nat.lt_or_ge i (lim a).length with h | h
  · unfold pv
    rw [val_take_succ h, lim_at h, Int.toNat_natCast]
  · unfold pv
    rw [dg_out h, List.take_of_length_le h, List.take_of_length_le (by omega)]; simp
theorem pv_out {a i : Nat} (h : (lim a).length ≤ i) : pv a i = a := by
  unfold pv; rw [List.take_of_length_le h, val_lim]
theorem pv_lt (a i : Nat) : pv a i < LB ^ i := by
  have h1 := val_lt (take_dig (lim_dig a) i)
  refine Nat.lt_of_lt_of_le h1 (Nat.pow_le_pow_right LB_pos ?_)
  simp; omega
theorem lim_length_pow {n : Nat} (h : n ≠ 0) : LB ^ ((lim n).length - 1) ≤ n := by
  rcases Nat.lt_or_ge n (LB ^ ((lim n).length - 1)) with hh | hh
  · have := lim_length_le.2 hh
    have : (lim n).length ≠ 0 := fun h0 => h (lim_nil.1 (List.length_eq_zero_iff.1 h0))
    omega
  · exact hh
/-- Limbs that are not more than needed are the limbs of their number. -/
theorem lim_of {o : List Int} {n : Nat} (ho : Dig o) (hv : val o = n) (hn : o.length = 0 ∨ LB ^ (o.length - 1) ≤ n) : lim n = o := by
  rw [← hv]
  refine lim_val ho fun d hd h0 => ?_
  subst h0
  rcases o.eq_nil_or_concat with rfl | ⟨o', x, e⟩
  · cases hd
  · rw [List.concat_eq_append] at e
    subst e
    simp at hd; subst hd
    simp [val_append, val] at hv hn
    have := val_lt (Dig.append.1 ho).1
    omega

/-! ### Sums -/
structure PlusI (a b i : Nat) (o : List Int) (c : Int) : Prop where
  len : o.length = i
  dig : Dig o
  c0 : 0 ≤ c
  c1 : c ≤ 1
  v : (val o : Int) + c * (LB ^ i : Nat) = (pv a i + pv b i : Nat)
theorem PlusI.start (a b : Nat) : PlusI a b 0 [] 0 := ⟨rfl, (fun _ h => by cases h), by decide, by decide, by simp [val]⟩
theorem PlusI.x {a b i : Nat} {o : List Int} {c : Int} (h : PlusI a b i o c) : 0 ≤ c + dg a i + dg b i ∧ c + dg a i + dg b i ≤ 1999999999 := by
  have := dg_lt a i; have := dg_lt b i; have := h.c0; have := h.c1; omega
theorem PlusI.next {a b i : Nat} {o : List Int} {c x : Int} (h : PlusI a b i o c) (hx : x = c + dg a i + dg b i) : PlusI a b (i + 1) (o ++ [x.tmod 1000000000]) (x.tdiv 1000000000) := by
  have hb := h.x
  rw [← hx] at hb
  have e1 : x.tmod 1000000000 = x % 1000000000 := Int.tmod_eq_emod_of_nonneg hb.1
  have e2 : x.tdiv 1000000000 = x / 1000000000 := Int.tdiv_eq_ediv_of_nonneg hb.1
  refine ⟨by simp [h.len], Dig.append.2 ⟨h.dig, fun d hd => ?_⟩, by omega, by omega, ?_⟩
  · simp at hd; subst hd; omega
  · rw [plus_step (P := LB ^ i) (A := dg a i + dg b i) rfl h.len hb.1 h.v (by rw [hx]; simp; omega), pv_succ, pv_succ]
    congr 1
    rw [Nat.mul_add]; omega
theorem PlusI.impl {a b i : Nat} {o : List Int} {c : Int} (h : PlusI a b i o c) (ha : (lim a).length ≤ i) (hb : (lim b).length ≤ i) : Dig (o ++ [c]) ∧ val (o ++ [c]) = a + b := by
  have h0 := h.c0; have h1 := h.c1
  refine ⟨Dig.append.2 ⟨h.dig, fun d hd => ?_⟩, ?_⟩
  · simp at hd; subst hd; omega
  · have := h.v
    rw [pv_out ha, pv_out hb] at this
    rw [val_append, h.len]
    simp only [val, Nat.mul_zero, Nat.add_zero]
    have e : c = 0 ∨ c = 1 := by omega
    generalize LB ^ i = P at this ⊢
    rcases e with rfl | rfl
    · simp at this ⊢; omega
    · simp at this ⊢; omega
theorem PlusI.spec {a b i : Nat} {o : List Int} (h : PlusI a b i o 0) (ha : (lim a).length ≤ i) (hb : (lim b).length ≤ i) (hn : i = 0 ∨ LB ^ (i - 1) ≤ a + b) : o = lim (a + b) := by
  have := h.v
  rw [pv_out ha, pv_out hb] at this
  refine (lim_of h.dig (by simp at this; omega) ?_).symm
  rw [h.len]; exact hn
theorem PlusI.more {a b i : Nat} {o : List Int} {c : Int} (h : PlusI a b i o c) (hc : i < (lim a).length ∨ i < (lim b).length ∨ 0 < c) : LB ^ i ≤ a + b := by
  have ex : ∀ n, i < (lim n).length → LB ^ i ≤ n := fun n hn => by
    have h0 : n ≠ 0 := fun h => by rw [h, lim_zero] at hn; simp at hn
    exact Nat.le_trans (Nat.pow_le_pow_right LB_pos (by omega)) (lim_length_pow h0)
  by_cases h1 : i < (lim a).length
  · have := ex a h1; omega
  by_cases h2 : i < (lim b).length
  · have := ex b h2; omega
  have h3 : 0 < c := by omega
  have hv := h.v
  rw [pv_out (by omega), pv_out (by omega)] at hv
  have hc1 := h.c1
  have e : c = 1 := by omega
  subst e
  generalize LB ^ i = P at hv ⊢
  omega

/-! ### Differences -/
structure MinusI (a b i : Nat) (o : List Int) (br : Nat) : Prop where
  len : o.length = i
  dig : Dig o
  c1 : br ≤ 1
  v : val o + pv b i = pv a i + br * LB ^ i
theorem MinusI.start (a b : Nat) : MinusI a b 0 [] 0 := ⟨rfl, (fun _ h => by cases h), by decide, by simp [val]⟩
theorem MinusI.x {a b i : Nat} {o : List Int} {br : Nat} (h : MinusI a b i o br) : -1000000000 ≤ (dg a i : Int) - br - dg b i ∧ (dg a i : Int) - br - dg b i ≤ 999999999 := by
  have := dg_lt a i; have := dg_lt b i; have := h.c1; omega
theorem MinusI.next0 {a b i : Nat} {o : List Int} {br : Nat} {x : Int} (h : MinusI a b i o br) (hx : x = (dg a i : Int) - br - dg b i) (h0 : 0 ≤ x) : MinusI a b (i + 1) (o ++ [x]) 0 := by
  have hb := h.x
  refine ⟨by simp [h.len], Dig.append.2 ⟨h.dig, fun d hd => ?_⟩, by decide, ?_⟩
  · simp at hd; subst hd; omega
  · rw [pv_succ, pv_succ]
    exact minus_step (br' := 0) h.len h.v (by rw [hx]; simp) h0
theorem MinusI.next1 {a b i : Nat} {o : List Int} {br : Nat} {x : Int} (h : MinusI a b i o br) (hx : x = (dg a i : Int) - br - dg b i) (h0 : x < 0) : MinusI a b (i + 1) (o ++ [x + 1000000000]) 1 := by
  have hb := h.x
  refine ⟨by simp [h.len], Dig.append.2 ⟨h.dig, fun d hd => ?_⟩, by decide, ?_⟩
  · simp at hd; subst hd; omega
  · rw [pv_succ, pv_succ]
    exact minus_step (br' := 1) h.len h.v (by rw [hx]; simp) (by omega)
theorem MinusI.done {a b i : Nat} {o : List Int} {br : Nat} (h : MinusI a b i o br) (hab : b ≤ a) (ha : (lim a).length ≤ i) : val o = a - b := by
  have hv := h.v
  have hb := lim_length_mono hab
  rw [pv_out ha, pv_out (by omega)] at hv
  have := val_lt h.dig
  rw [h.len] at this
  have : br = 0 ∨ br = 1 := by have := h.c1; omega
  rcases this with rfl | rfl <;> omega

end Go.Proofs.YticmgmemnpcbbaaGreat.Vm

namespace Go.Proofs.YticmgmemnpcbbaaGreat.Vm
set_option linter.unusedSimpArgs false
set_option linter.unusedVariables false

/-! ### Products -/
structure TimesI (a b i j : Nat) (O : List Int) (c : Nat) : Prop where
  len : O.length = (lim a).length + (lim b).length
  dig : Dig O
  c1 : c < 1000000000
  z : ∀ k (hk : k < O.length), i + (lim b).length ≤ k → O[k] = 0
  v : val O + c * LB ^ (i + j) = pv a i * b + LB ^ i * (dg a i * pv b j)
theorem TimesI.start (a b : Nat) : TimesI a b 0 0 (List.replicate ((lim a).length + (lim b).length) 0) 0 := by
  refine ⟨by simp, dig_replicate _, by decide, fun k hk _ => by simp, ?_⟩
  rw [val_replicate]; simp
theorem TimesI.next {a b i j : Nat} {O : List Int} {c : Nat} (h : TimesI a b i j O c) (hi : i < (lim a).length) (hj : j < (lim b).length) (hk : i + j < O.length) :
    0 ≤ (O[i + j] + dg a i * dg b j + c).tdiv 1000000000 ∧ O[i + j] + dg a i * dg b j + c < 1000000000000000000 ∧ 0 ≤ O[i + j] + dg a i * dg b j + c ∧
    TimesI a b i (j + 1) (O.set (i + j) ((O[i + j] + dg a i * dg b j + c).tmod 1000000000)) ((O[i + j] + dg a i * dg b j + c).tdiv 1000000000).toNat := by
  have h0 := h.dig.at hk
  have hx := dg_lt a i
  have hy := dg_lt b j
  have hc := h.c1
  obtain ⟨b1, b2, b3, b4⟩ := times_carry (o := O[i + j]) (n := dg a i) (m := dg b j) (c := c) h0 (by omega) (by omega) (by omega)
  have hs := times_step hk h.dig h.v (n := dg a i) (m := dg b j)
  refine ⟨b3, b2, b1, by simp [h.len], h.dig.set ?_, by omega, fun k hk2 hz => ?_, ?_⟩
  · rw [Int.tmod_eq_emod_of_nonneg b1]; omega
  · rw [List.getElem_set_ne (by omega)]
    exact h.z k (by simpa using hk2) hz
  · rw [← Nat.add_assoc, hs, pv_succ, Nat.pow_add]
    have e : LB ^ i * (dg a i * (pv b j + LB ^ j * dg b j)) = LB ^ i * (dg a i * pv b j) + LB ^ i * LB ^ j * (dg a i * dg b j) := by
      rw [Nat.mul_add, Nat.mul_add]
      congr 1
      rw [← Nat.mul_assoc, ← Nat.mul_assoc, ← Nat.mul_assoc, Nat.mul_assoc (LB ^ i) (dg a i), Nat.mul_comm (dg a i) (LB ^ j), ← Nat.mul_assoc]
    omega
theorem TimesI.row {a b i j : Nat} {O : List Int} {c : Nat} (h : TimesI a b i j O c) (hi : i < (lim a).length) (hj : (lim b).length ≤ j) (hj2 : j ≤ (lim b).length) (hk : i + (lim b).length < O.length) : TimesI a b (i + 1) 0 (O.set (i + (lim b).length) c) 0 := by
  have e : j = (lim b).length := by omega
  subst e
  have hc := h.c1
  have hv := val_set hk c
  have hz := h.z _ hk (Nat.le_refl _)
  refine ⟨by simp [h.len], h.dig.set (by omega), by decide, fun k hk2 hz => ?_, ?_⟩
  · rw [List.getElem_set_ne (by omega)]
    exact h.z k (by simpa using hk2) (by omega)
  · rw [hz] at hv
    have := h.v
    rw [pv_out (Nat.le_refl _)] at this
    simp at hv ⊢
    rw [hv, pv_succ, Nat.add_mul, Nat.mul_assoc]
    rw [Nat.mul_comm c] at this
    omega
theorem TimesI.done {a b i : Nat} {O : List Int} {c : Nat} (h : TimesI a b i 0 O 0) (hi : (lim a).length ≤ i) : val O = a * b := by
  have := h.v
  rw [pv_out hi] at this
  simpa using this

/-! ### Quotients, limb by limb from above -/
structure DivI (a b i : Nat) (Q : List Int) (r : Nat) : Prop where
  le : i ≤ (lim a).length
  len : Q.length = (lim a).length - i
  dig : Dig Q
  rlt : r < b
  v : val ((lim a).drop i) = val Q * b + r
theorem DivI.start (a b : Nat) (hb : 0 < b) : DivI a b (lim a).length [] 0 := ⟨Nat.le_refl _, by simp, (fun _ h => by cases h), hb, by simp [val]⟩
theorem DivI.quot {b r d : Nat} (hr : r < b) (hd : d < 1000000000) : (r * 1000000000 + d) / b < 1000000000 := by
  rw [Nat.div_lt_iff_lt_mul (by omega)]
  have : (r + 1) * 1000000000 ≤ b * 1000000000 := Nat.mul_le_mul_right _ hr
  omega
theorem DivI.next {a b i : Nat} {Q : List Int} {r : Nat} (h : DivI a b (i + 1) Q r) {q r' : Nat} (hq : q = (r * 1000000000 + dg a i) / b) (hr : r' = (r * 1000000000 + dg a i) % b) : DivI a b i ((q : Int) :: Q) r' := by
  have hl := h.le
  have hb : 0 < b := by have := h.rlt; omega
  have hd := dg_lt a i
  have hlt := DivI.quot h.rlt hd
  refine ⟨by omega, by simp [h.len]; omega, fun d hd => ?_, ?_, ?_⟩
  · rcases List.mem_cons.1 hd with rfl | hd
    · omega
    · exact h.dig d hd
  · subst hr; exact Nat.mod_lt _ hb
  · rw [List.drop_eq_getElem_cons (by omega), val, val, lim_at (by omega), h.v]
    simp only [Int.toNat_natCast]
    have := small_step (Q := val Q) (A := val Q * b + r) (r := r) (b := b) (a := dg a i) (L := LB) rfl hb
    rw [this, hq, hr]
    rfl
theorem DivI.done {a b : Nat} {Q : List Int} {r : Nat} (h : DivI a b 0 Q r) : val Q = a / b ∧ r = a % b := by
  have hv := h.v
  have hr := h.rlt
  simp at hv
  rw [hv]
  rw [Nat.mul_comm, Nat.mul_add_div (by omega), Nat.div_eq_of_lt hr, Nat.mul_add_mod, Nat.mod_eq_of_lt hr]
  exact ⟨rfl, rfl⟩
theorem fill_set (i : Nat) (q z : Int) (Q : List Int) : (List.replicate (i + 1) z ++ Q).set i q = List.replicate i z ++ q :: Q := by
  rw [List.replicate_succ', List.append_assoc, List.set_append_right _ _ (by simp)]
  simp
theorem fill_none (i : Nat) (z : Int) (Q : List Int) : List.replicate (i + 1) z ++ Q = List.replicate i z ++ z :: Q := by
  rw [List.replicate_succ', List.append_assoc]; rfl

end Go.Proofs.YticmgmemnpcbbaaGreat.Vm
