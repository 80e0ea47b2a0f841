/- What functions compute that print and its laws reach: terms, names, what may be, comparisons. Conditions: lengths are an int's. -/
import Derived.Test.YtbbpfakobaiglaaGreatDoorVmA
import Derived.Test.YtbbpfakobaiglaaGreatDoorProg
import Derived.KernelRfl
import Derived.Test.YtbbpfakobaiglaaGreatDoorVmS
import Derived.Laws.Strings
import Derived.IntWalk
import Derived.Lib.ItoaNum
import Derived.Lib.LaidTab
set_option linter.unusedVariables false
set_option linter.unusedSimpArgs false
namespace Go.Vm
open Go Go.Proofs
@[simp] theorem T1 : mkTy Tryz.prog 1 = some { u := .other, size := 1, bytes := 8, agg := false, zero := .nilfn } := by kernel_rfl
@[simp] theorem T2 : mkTy Tryz.prog 2 = some { u := .int .i64, size := 1, bytes := 8, agg := false, zero := .int .i64 0 } := by kernel_rfl
@[simp] theorem T3 : mkTy Tryz.prog 3 = some { u := .int .i64, size := 1, bytes := 8, agg := false, zero := .int .i64 0 } := by kernel_rfl
@[simp] theorem T4 : mkTy Tryz.prog 4 = some { u := .bool, size := 1, bytes := 1, agg := false, zero := .bool false } := by kernel_rfl
@[simp] theorem T5 : mkTy Tryz.prog 5 = some { u := .int .u8, size := 1, bytes := 1, agg := false, zero := .int .u8 0 } := by kernel_rfl
@[simp] theorem T6 : mkTy Tryz.prog 6 = some { u := .int .u8, size := 1, bytes := 1, agg := false, zero := .int .u8 0 } := by kernel_rfl
@[simp] theorem T7 : mkTy Tryz.prog 7 = some { u := .struct [(0, 2), (1, 3), (2, 4), (3, 6)], size := 4, bytes := 24, agg := true, zero := .agg [.int .i64 0, .int .i64 0, .bool false, .int .u8 0] } := by kernel_rfl
@[simp] theorem T8 : mkTy Tryz.prog 8 = some { u := .struct [(0, 2), (1, 3), (2, 4), (3, 6)], size := 4, bytes := 24, agg := true, zero := .agg [.int .i64 0, .int .i64 0, .bool false, .int .u8 0] } := by kernel_rfl
@[simp] theorem T9 : mkTy Tryz.prog 9 = some { u := .string, size := 1, bytes := 16, agg := false, zero := .str ⟨#[]⟩ } := by kernel_rfl
@[simp] theorem T10 : mkTy Tryz.prog 10 = some { u := .string, size := 1, bytes := 16, agg := false, zero := .str ⟨#[]⟩ } := by kernel_rfl
@[simp] theorem T11 : mkTy Tryz.prog 11 = some { u := .string, size := 1, bytes := 16, agg := false, zero := .str ⟨#[]⟩ } := by kernel_rfl
@[simp] theorem T12 : mkTy Tryz.prog 12 = some { u := .int .u64, size := 1, bytes := 8, agg := false, zero := .int .u64 0 } := by kernel_rfl
@[simp] theorem T13 : mkTy Tryz.prog 13 = some { u := .struct [(0, 9), (1, 12)], size := 2, bytes := 24, agg := true, zero := .agg [.str ⟨#[]⟩, .int .u64 0] } := by kernel_rfl
@[simp] theorem T14 : mkTy Tryz.prog 14 = some { u := .struct [(0, 9), (1, 12)], size := 2, bytes := 24, agg := true, zero := .agg [.str ⟨#[]⟩, .int .u64 0] } := by kernel_rfl
@[simp] theorem T15 : mkTy Tryz.prog 15 = some { u := .other, size := 1, bytes := 8, agg := false, zero := .nilp } := by kernel_rfl
@[simp] theorem T16 : mkTy Tryz.prog 16 = some { u := .other, size := 1, bytes := 8, agg := false, zero := .nilp } := by kernel_rfl
@[simp] theorem T17 : mkTy Tryz.prog 17 = some { u := .other, size := 1, bytes := 8, agg := false, zero := .nilp } := by kernel_rfl
@[simp] theorem T18 : mkTy Tryz.prog 18 = some { u := .struct [(0, 17)], size := 1, bytes := 8, agg := true, zero := .agg [.nilp] } := by kernel_rfl
@[simp] theorem T19 : mkTy Tryz.prog 19 = some { u := .struct [(0, 17)], size := 1, bytes := 8, agg := true, zero := .agg [.nilp] } := by kernel_rfl
@[simp] theorem T20 : mkTy Tryz.prog 20 = some { u := .other, size := 1, bytes := 16, agg := false, zero := .nili } := by kernel_rfl
@[simp] theorem T21 : mkTy Tryz.prog 21 = some { u := .int .i32, size := 1, bytes := 4, agg := false, zero := .int .i32 0 } := by kernel_rfl
@[simp] theorem T22 : mkTy Tryz.prog 22 = some { u := .slice 85, size := 1, bytes := 24, agg := false, zero := .nilsl } := by kernel_rfl
@[simp] theorem T23 : mkTy Tryz.prog 23 = some { u := .struct [(0, 22)], size := 1, bytes := 24, agg := true, zero := .agg [.nilsl] } := by kernel_rfl
@[simp] theorem T24 : mkTy Tryz.prog 24 = some { u := .struct [(0, 22)], size := 1, bytes := 24, agg := true, zero := .agg [.nilsl] } := by kernel_rfl
@[simp] theorem T25 : mkTy Tryz.prog 25 = some { u := .other, size := 1, bytes := 8, agg := false, zero := .nilfn } := by kernel_rfl
@[simp] theorem T26 : mkTy Tryz.prog 26 = some { u := .other, size := 1, bytes := 8, agg := false, zero := .nilfn } := by kernel_rfl
@[simp] theorem T27 : mkTy Tryz.prog 27 = some { u := .other, size := 1, bytes := 8, agg := false, zero := .nilfn } := by kernel_rfl
@[simp] theorem T28 : mkTy Tryz.prog 28 = some { u := .other, size := 1, bytes := 8, agg := false, zero := .nilfn } := by kernel_rfl
@[simp] theorem T29 : mkTy Tryz.prog 29 = some { u := .other, size := 1, bytes := 8, agg := false, zero := .nilfn } := by kernel_rfl
@[simp] theorem T30 : mkTy Tryz.prog 30 = some { u := .slice 41, size := 1, bytes := 24, agg := false, zero := .nilsl } := by kernel_rfl
@[simp] theorem T31 : mkTy Tryz.prog 31 = some { u := .slice 45, size := 1, bytes := 24, agg := false, zero := .nilsl } := by kernel_rfl
@[simp] theorem T32 : mkTy Tryz.prog 32 = some { u := .slice 48, size := 1, bytes := 24, agg := false, zero := .nilsl } := by kernel_rfl
@[simp] theorem T33 : mkTy Tryz.prog 33 = some { u := .slice 91, size := 1, bytes := 24, agg := false, zero := .nilsl } := by kernel_rfl
@[simp] theorem T34 : mkTy Tryz.prog 34 = some { u := .struct [(0, 30), (1, 31), (2, 32), (3, 33)], size := 4, bytes := 96, agg := true, zero := .agg [.nilsl, .nilsl, .nilsl, .nilsl] } := by kernel_rfl
@[simp] theorem T35 : mkTy Tryz.prog 35 = some { u := .struct [(0, 30), (1, 31), (2, 32), (3, 33)], size := 4, bytes := 96, agg := true, zero := .agg [.nilsl, .nilsl, .nilsl, .nilsl] } := by kernel_rfl
@[simp] theorem T36 : mkTy Tryz.prog 36 = some { u := .other, size := 1, bytes := 8, agg := false, zero := .nilfn } := by kernel_rfl
@[simp] theorem T37 : mkTy Tryz.prog 37 = some { u := .other, size := 1, bytes := 8, agg := false, zero := .nilfn } := by kernel_rfl
@[simp] theorem T38 : mkTy Tryz.prog 38 = some { u := .other, size := 1, bytes := 8, agg := false, zero := .nilfn } := by kernel_rfl
@[simp] theorem T39 : mkTy Tryz.prog 39 = some { u := .slice 51, size := 1, bytes := 24, agg := false, zero := .nilsl } := by kernel_rfl
@[simp] theorem T40 : mkTy Tryz.prog 40 = some { u := .struct [(0, 9), (1, 39)], size := 2, bytes := 40, agg := true, zero := .agg [.str ⟨#[]⟩, .nilsl] } := by kernel_rfl
@[simp] theorem T41 : mkTy Tryz.prog 41 = some { u := .struct [(0, 9), (1, 39)], size := 2, bytes := 40, agg := true, zero := .agg [.str ⟨#[]⟩, .nilsl] } := by kernel_rfl
@[simp] theorem T42 : mkTy Tryz.prog 42 = some { u := .other, size := 1, bytes := 8, agg := false, zero := .nilfn } := by kernel_rfl
@[simp] theorem T43 : mkTy Tryz.prog 43 = some { u := .slice 24, size := 1, bytes := 24, agg := false, zero := .nilsl } := by kernel_rfl
@[simp] theorem T44 : mkTy Tryz.prog 44 = some { u := .struct [(0, 41), (2, 30), (3, 43), (4, 33)], size := 5, bytes := 112, agg := true, zero := .agg [.str ⟨#[]⟩, .nilsl, .nilsl, .nilsl, .nilsl] } := by kernel_rfl
@[simp] theorem T45 : mkTy Tryz.prog 45 = some { u := .struct [(0, 41), (2, 30), (3, 43), (4, 33)], size := 5, bytes := 112, agg := true, zero := .agg [.str ⟨#[]⟩, .nilsl, .nilsl, .nilsl, .nilsl] } := by kernel_rfl
@[simp] theorem T46 : mkTy Tryz.prog 46 = some { u := .other, size := 1, bytes := 8, agg := false, zero := .nilfn } := by kernel_rfl
@[simp] theorem T47 : mkTy Tryz.prog 47 = some { u := .struct [(0, 4), (1, 31)], size := 2, bytes := 32, agg := true, zero := .agg [.bool false, .nilsl] } := by kernel_rfl
@[simp] theorem T48 : mkTy Tryz.prog 48 = some { u := .struct [(0, 4), (1, 31)], size := 2, bytes := 32, agg := true, zero := .agg [.bool false, .nilsl] } := by kernel_rfl
@[simp] theorem T49 : mkTy Tryz.prog 49 = some { u := .other, size := 1, bytes := 8, agg := false, zero := .nilfn } := by kernel_rfl
@[simp] theorem T50 : mkTy Tryz.prog 50 = some { u := .struct [(0, 3), (1, 2), (2, 9), (3, 39)], size := 4, bytes := 56, agg := true, zero := .agg [.int .i64 0, .int .i64 0, .str ⟨#[]⟩, .nilsl] } := by kernel_rfl
@[simp] theorem T51 : mkTy Tryz.prog 51 = some { u := .struct [(0, 3), (1, 2), (2, 9), (3, 39)], size := 4, bytes := 56, agg := true, zero := .agg [.int .i64 0, .int .i64 0, .str ⟨#[]⟩, .nilsl] } := by kernel_rfl
@[simp] theorem T52 : mkTy Tryz.prog 52 = some { u := .other, size := 1, bytes := 8, agg := false, zero := .nilfn } := by kernel_rfl
@[simp] theorem T53 : mkTy Tryz.prog 53 = some { u := .other, size := 1, bytes := 8, agg := false, zero := .nilfn } := by kernel_rfl
@[simp] theorem T54 : mkTy Tryz.prog 54 = some { u := .int .i64, size := 1, bytes := 8, agg := false, zero := .int .i64 0 } := by kernel_rfl
@[simp] theorem T56 : mkTy Tryz.prog 56 = some { u := .other, size := 1, bytes := 8, agg := false, zero := .nilfn } := by kernel_rfl
@[simp] theorem T57 : mkTy Tryz.prog 57 = some { u := .other, size := 1, bytes := 8, agg := false, zero := .nilfn } := by kernel_rfl
@[simp] theorem T58 : mkTy Tryz.prog 58 = some { u := .other, size := 1, bytes := 8, agg := false, zero := .nilfn } := by kernel_rfl
@[simp] theorem T59 : mkTy Tryz.prog 59 = some { u := .other, size := 1, bytes := 8, agg := false, zero := .nilfn } := by kernel_rfl
@[simp] theorem T60 : mkTy Tryz.prog 60 = some { u := .other, size := 1, bytes := 8, agg := false, zero := .nilfn } := by kernel_rfl
@[simp] theorem T62 : mkTy Tryz.prog 62 = some { u := .other, size := 1, bytes := 8, agg := false, zero := .nilfn } := by kernel_rfl
@[simp] theorem T63 : mkTy Tryz.prog 63 = some { u := .other, size := 1, bytes := 8, agg := false, zero := .nilfn } := by kernel_rfl
@[simp] theorem T64 : mkTy Tryz.prog 64 = some { u := .other, size := 1, bytes := 8, agg := false, zero := .nilfn } := by kernel_rfl
@[simp] theorem T66 : mkTy Tryz.prog 66 = some { u := .other, size := 1, bytes := 8, agg := false, zero := .nilfn } := by kernel_rfl
@[simp] theorem T67 : mkTy Tryz.prog 67 = some { u := .struct [(0, 4), (1, 31)], size := 2, bytes := 32, agg := true, zero := .agg [.bool false, .nilsl] } := by kernel_rfl
@[simp] theorem T68 : mkTy Tryz.prog 68 = some { u := .struct [(0, 4), (1, 31)], size := 2, bytes := 32, agg := true, zero := .agg [.bool false, .nilsl] } := by kernel_rfl
@[simp] theorem T69 : mkTy Tryz.prog 69 = some { u := .other, size := 1, bytes := 8, agg := false, zero := .nilfn } := by kernel_rfl
@[simp] theorem T70 : mkTy Tryz.prog 70 = some { u := .other, size := 1, bytes := 8, agg := false, zero := .nilfn } := by kernel_rfl
@[simp] theorem T71 : mkTy Tryz.prog 71 = some { u := .other, size := 1, bytes := 8, agg := false, zero := .nilfn } := by kernel_rfl
@[simp] theorem T72 : mkTy Tryz.prog 72 = some { u := .slice 117, size := 1, bytes := 24, agg := false, zero := .nilsl } := by kernel_rfl
@[simp] theorem T74 : mkTy Tryz.prog 74 = some { u := .other, size := 1, bytes := 8, agg := false, zero := .nilfn } := by kernel_rfl
@[simp] theorem T75 : mkTy Tryz.prog 75 = some { u := .slice 68, size := 1, bytes := 24, agg := false, zero := .nilsl } := by kernel_rfl
@[simp] theorem T76 : mkTy Tryz.prog 76 = some { u := .struct [(0, 35), (4, 75)], size := 5, bytes := 120, agg := true, zero := .agg [.nilsl, .nilsl, .nilsl, .nilsl, .nilsl] } := by kernel_rfl
@[simp] theorem T77 : mkTy Tryz.prog 77 = some { u := .struct [(0, 35), (4, 75)], size := 5, bytes := 120, agg := true, zero := .agg [.nilsl, .nilsl, .nilsl, .nilsl, .nilsl] } := by kernel_rfl
@[simp] theorem T79 : mkTy Tryz.prog 79 = some { u := .other, size := 1, bytes := 8, agg := false, zero := .nilfn } := by kernel_rfl
@[simp] theorem T80 : mkTy Tryz.prog 80 = some { u := .other, size := 1, bytes := 8, agg := false, zero := .nilfn } := by kernel_rfl
@[simp] theorem T81 : mkTy Tryz.prog 81 = some { u := .other, size := 1, bytes := 8, agg := false, zero := .nilfn } := by kernel_rfl
@[simp] theorem T82 : mkTy Tryz.prog 82 = some { u := .other, size := 1, bytes := 8, agg := false, zero := .nilfn } := by kernel_rfl
@[simp] theorem T83 : mkTy Tryz.prog 83 = some { u := .other, size := 1, bytes := 8, agg := false, zero := .nilfn } := by kernel_rfl
@[simp] theorem T84 : mkTy Tryz.prog 84 = some { u := .struct [(0, 3), (1, 51), (5, 3), (6, 3)], size := 7, bytes := 80, agg := true, zero := .agg [.int .i64 0, .int .i64 0, .int .i64 0, .str ⟨#[]⟩, .nilsl, .int .i64 0, .int .i64 0] } := by kernel_rfl
@[simp] theorem T85 : mkTy Tryz.prog 85 = some { u := .struct [(0, 3), (1, 51), (5, 3), (6, 3)], size := 7, bytes := 80, agg := true, zero := .agg [.int .i64 0, .int .i64 0, .int .i64 0, .str ⟨#[]⟩, .nilsl, .int .i64 0, .int .i64 0] } := by kernel_rfl
@[simp] theorem T86 : mkTy Tryz.prog 86 = some { u := .other, size := 1, bytes := 8, agg := false, zero := .nilfn } := by kernel_rfl
@[simp] theorem T87 : mkTy Tryz.prog 87 = some { u := .other, size := 1, bytes := 8, agg := false, zero := .nilfn } := by kernel_rfl
@[simp] theorem T88 : mkTy Tryz.prog 88 = some { u := .other, size := 1, bytes := 8, agg := false, zero := .nilfn } := by kernel_rfl
@[simp] theorem T89 : mkTy Tryz.prog 89 = some { u := .other, size := 1, bytes := 8, agg := false, zero := .nilfn } := by kernel_rfl
@[simp] theorem T90 : mkTy Tryz.prog 90 = some { u := .struct [(0, 3), (1, 9)], size := 2, bytes := 24, agg := true, zero := .agg [.int .i64 0, .str ⟨#[]⟩] } := by kernel_rfl
@[simp] theorem T91 : mkTy Tryz.prog 91 = some { u := .struct [(0, 3), (1, 9)], size := 2, bytes := 24, agg := true, zero := .agg [.int .i64 0, .str ⟨#[]⟩] } := by kernel_rfl
@[simp] theorem T92 : mkTy Tryz.prog 92 = some { u := .other, size := 1, bytes := 8, agg := false, zero := .nilfn } := by kernel_rfl
@[simp] theorem T93 : mkTy Tryz.prog 93 = some { u := .other, size := 1, bytes := 8, agg := false, zero := .nilfn } := by kernel_rfl
@[simp] theorem T94 : mkTy Tryz.prog 94 = some { u := .other, size := 1, bytes := 8, agg := false, zero := .nilfn } := by kernel_rfl
@[simp] theorem T95 : mkTy Tryz.prog 95 = some { u := .other, size := 1, bytes := 8, agg := false, zero := .nilfn } := by kernel_rfl
@[simp] theorem T96 : mkTy Tryz.prog 96 = some { u := .other, size := 1, bytes := 8, agg := false, zero := .nilfn } := by kernel_rfl
@[simp] theorem T97 : mkTy Tryz.prog 97 = some { u := .other, size := 1, bytes := 8, agg := false, zero := .nilp } := by kernel_rfl
@[simp] theorem T98 : mkTy Tryz.prog 98 = some { u := .other, size := 1, bytes := 8, agg := false, zero := .nilfn } := by kernel_rfl
@[simp] theorem T99 : mkTy Tryz.prog 99 = some { u := .other, size := 1, bytes := 8, agg := false, zero := .nilfn } := by kernel_rfl
@[simp] theorem T100 : mkTy Tryz.prog 100 = some { u := .other, size := 1, bytes := 8, agg := false, zero := .nilfn } := by kernel_rfl
@[simp] theorem T101 : mkTy Tryz.prog 101 = some { u := .struct [(0, 72), (1, 3), (2, 3), (3, 3), (4, 54), (5, 3)], size := 6, bytes := 64, agg := true, zero := .agg [.nilsl, .int .i64 0, .int .i64 0, .int .i64 0, .int .i64 0, .int .i64 0] } := by kernel_rfl
@[simp] theorem T102 : mkTy Tryz.prog 102 = some { u := .struct [(0, 72), (1, 3), (2, 3), (3, 3), (4, 54), (5, 3)], size := 6, bytes := 64, agg := true, zero := .agg [.nilsl, .int .i64 0, .int .i64 0, .int .i64 0, .int .i64 0, .int .i64 0] } := by kernel_rfl
@[simp] theorem T103 : mkTy Tryz.prog 103 = some { u := .other, size := 1, bytes := 8, agg := false, zero := .nilfn } := by kernel_rfl
@[simp] theorem T104 : mkTy Tryz.prog 104 = some { u := .other, size := 1, bytes := 8, agg := false, zero := .nilfn } := by kernel_rfl
@[simp] theorem T105 : mkTy Tryz.prog 105 = some { u := .other, size := 1, bytes := 8, agg := false, zero := .nilfn } := by kernel_rfl
@[simp] theorem T106 : mkTy Tryz.prog 106 = some { u := .other, size := 1, bytes := 8, agg := false, zero := .nilfn } := by kernel_rfl
@[simp] theorem T107 : mkTy Tryz.prog 107 = some { u := .other, size := 1, bytes := 8, agg := false, zero := .nilfn } := by kernel_rfl
@[simp] theorem T108 : mkTy Tryz.prog 108 = some { u := .other, size := 1, bytes := 8, agg := false, zero := .nilfn } := by kernel_rfl
@[simp] theorem T109 : mkTy Tryz.prog 109 = some { u := .other, size := 1, bytes := 8, agg := false, zero := .nilfn } := by kernel_rfl
@[simp] theorem T110 : mkTy Tryz.prog 110 = some { u := .other, size := 1, bytes := 8, agg := false, zero := .nilfn } := by kernel_rfl
@[simp] theorem T111 : mkTy Tryz.prog 111 = some { u := .other, size := 1, bytes := 8, agg := false, zero := .nilp } := by kernel_rfl
@[simp] theorem T112 : mkTy Tryz.prog 112 = some { u := .struct [(0, 9), (1, 3), (2, 4)], size := 3, bytes := 32, agg := true, zero := .agg [.str ⟨#[]⟩, .int .i64 0, .bool false] } := by kernel_rfl
@[simp] theorem T113 : mkTy Tryz.prog 113 = some { u := .struct [(0, 9), (1, 3), (2, 4)], size := 3, bytes := 32, agg := true, zero := .agg [.str ⟨#[]⟩, .int .i64 0, .bool false] } := by kernel_rfl
@[simp] theorem T114 : mkTy Tryz.prog 114 = some { u := .other, size := 1, bytes := 8, agg := false, zero := .nilfn } := by kernel_rfl
@[simp] theorem T115 : mkTy Tryz.prog 115 = some { u := .other, size := 1, bytes := 8, agg := false, zero := .nilfn } := by kernel_rfl
@[simp] theorem T116 : mkTy Tryz.prog 116 = some { u := .struct [(0, 3), (1, 9), (2, 2), (3, 3)], size := 4, bytes := 40, agg := true, zero := .agg [.int .i64 0, .str ⟨#[]⟩, .int .i64 0, .int .i64 0] } := by kernel_rfl
@[simp] theorem T117 : mkTy Tryz.prog 117 = some { u := .struct [(0, 3), (1, 9), (2, 2), (3, 3)], size := 4, bytes := 40, agg := true, zero := .agg [.int .i64 0, .str ⟨#[]⟩, .int .i64 0, .int .i64 0] } := by kernel_rfl
@[simp] theorem T118 : mkTy Tryz.prog 118 = some { u := .other, size := 1, bytes := 8, agg := false, zero := .nilfn } := by kernel_rfl
@[simp] theorem T119 : mkTy Tryz.prog 119 = some { u := .other, size := 1, bytes := 8, agg := false, zero := .nilfn } := by kernel_rfl
@[simp] theorem T120 : mkTy Tryz.prog 120 = some { u := .other, size := 1, bytes := 8, agg := false, zero := .nilp } := by kernel_rfl
@[simp] theorem T121 : mkTy Tryz.prog 121 = some { u := .other, size := 1, bytes := 8, agg := false, zero := .nilfn } := by kernel_rfl
@[simp] theorem T122 : mkTy Tryz.prog 122 = some { u := .other, size := 1, bytes := 8, agg := false, zero := .nilfn } := by kernel_rfl
@[simp] theorem T123 : mkTy Tryz.prog 123 = some { u := .other, size := 1, bytes := 8, agg := false, zero := .nilfn } := by kernel_rfl
@[simp] theorem T124 : mkTy Tryz.prog 124 = some { u := .other, size := 1, bytes := 8, agg := false, zero := .nilfn } := by kernel_rfl
@[simp] theorem T125 : mkTy Tryz.prog 125 = some { u := .other, size := 1, bytes := 8, agg := false, zero := .nilfn } := by kernel_rfl
@[simp] theorem T126 : mkTy Tryz.prog 126 = some { u := .struct [(0, 9), (1, 4), (2, 4)], size := 3, bytes := 24, agg := true, zero := .agg [.str ⟨#[]⟩, .bool false, .bool false] } := by kernel_rfl
@[simp] theorem T127 : mkTy Tryz.prog 127 = some { u := .struct [(0, 9), (1, 4), (2, 4)], size := 3, bytes := 24, agg := true, zero := .agg [.str ⟨#[]⟩, .bool false, .bool false] } := by kernel_rfl
@[simp] theorem T128 : mkTy Tryz.prog 128 = some { u := .other, size := 1, bytes := 8, agg := false, zero := .nilfn } := by kernel_rfl
@[simp] theorem T129 : mkTy Tryz.prog 129 = some { u := .other, size := 1, bytes := 8, agg := false, zero := .nilfn } := by kernel_rfl
@[simp] theorem T130 : mkTy Tryz.prog 130 = some { u := .other, size := 1, bytes := 8, agg := false, zero := .nilfn } := by kernel_rfl
@[simp] theorem T131 : mkTy Tryz.prog 131 = some { u := .slice 9, size := 1, bytes := 24, agg := false, zero := .nilsl } := by kernel_rfl
@[simp] theorem T132 : mkTy Tryz.prog 132 = some { u := .other, size := 1, bytes := 8, agg := false, zero := .nilfn } := by kernel_rfl
@[simp] theorem T133 : mkTy Tryz.prog 133 = some { u := .other, size := 1, bytes := 8, agg := false, zero := .nilfn } := by kernel_rfl
@[simp] theorem T134 : mkTy Tryz.prog 134 = some { u := .other, size := 1, bytes := 8, agg := false, zero := .nilfn } := by kernel_rfl
@[simp] theorem T135 : mkTy Tryz.prog 135 = some { u := .other, size := 1, bytes := 8, agg := false, zero := .nilfn } := by kernel_rfl
@[simp] theorem T136 : mkTy Tryz.prog 136 = some { u := .other, size := 1, bytes := 8, agg := false, zero := .nilfn } := by kernel_rfl
@[simp] theorem T137 : mkTy Tryz.prog 137 = some { u := .other, size := 1, bytes := 8, agg := false, zero := .nilfn } := by kernel_rfl
@[simp] theorem T138 : mkTy Tryz.prog 138 = some { u := .other, size := 1, bytes := 8, agg := false, zero := .nilfn } := by kernel_rfl
@[simp] theorem T139 : mkTy Tryz.prog 139 = some { u := .other, size := 1, bytes := 8, agg := false, zero := .nilfn } := by kernel_rfl
@[simp] theorem T140 : mkTy Tryz.prog 140 = some { u := .other, size := 1, bytes := 8, agg := false, zero := .nilfn } := by kernel_rfl
@[simp] theorem T141 : mkTy Tryz.prog 141 = some { u := .other, size := 1, bytes := 8, agg := false, zero := .nilfn } := by kernel_rfl
@[simp] theorem T142 : mkTy Tryz.prog 142 = some { u := .other, size := 1, bytes := 8, agg := false, zero := .nilfn } := by kernel_rfl
@[simp] theorem T143 : mkTy Tryz.prog 143 = some { u := .other, size := 1, bytes := 8, agg := false, zero := .nilfn } := by kernel_rfl
@[simp] theorem T144 : mkTy Tryz.prog 144 = some { u := .other, size := 1, bytes := 8, agg := false, zero := .nilfn } := by kernel_rfl
@[simp] theorem T145 : mkTy Tryz.prog 145 = some { u := .other, size := 1, bytes := 8, agg := false, zero := .nilfn } := by kernel_rfl
@[simp] theorem T146 : mkTy Tryz.prog 146 = some { u := .other, size := 1, bytes := 8, agg := false, zero := .nilfn } := by kernel_rfl
@[simp] theorem T147 : mkTy Tryz.prog 147 = some { u := .other, size := 1, bytes := 8, agg := false, zero := .nilfn } := by kernel_rfl
@[simp] theorem T148 : mkTy Tryz.prog 148 = some { u := .other, size := 1, bytes := 8, agg := false, zero := .nilfn } := by kernel_rfl
@[simp] theorem T149 : mkTy Tryz.prog 149 = some { u := .other, size := 1, bytes := 8, agg := false, zero := .nilfn } := by kernel_rfl
@[simp] theorem T150 : mkTy Tryz.prog 150 = some { u := .other, size := 1, bytes := 8, agg := false, zero := .nilfn } := by kernel_rfl
@[simp] theorem T151 : mkTy Tryz.prog 151 = some { u := .other, size := 1, bytes := 8, agg := false, zero := .nilfn } := by kernel_rfl
@[simp] theorem T152 : mkTy Tryz.prog 152 = some { u := .other, size := 1, bytes := 8, agg := false, zero := .nilfn } := by kernel_rfl
@[simp] theorem T153 : mkTy Tryz.prog 153 = some { u := .other, size := 1, bytes := 8, agg := false, zero := .nilfn } := by kernel_rfl
@[simp] theorem T154 : mkTy Tryz.prog 154 = some { u := .other, size := 1, bytes := 8, agg := false, zero := .nilfn } := by kernel_rfl
@[simp] theorem T155 : mkTy Tryz.prog 155 = some { u := .other, size := 1, bytes := 8, agg := false, zero := .nilfn } := by kernel_rfl
@[simp] theorem T156 : mkTy Tryz.prog 156 = some { u := .other, size := 1, bytes := 8, agg := false, zero := .nilfn } := by kernel_rfl
@[simp] theorem T157 : mkTy Tryz.prog 157 = some { u := .other, size := 1, bytes := 8, agg := false, zero := .nilp } := by kernel_rfl
@[simp] theorem T158 : mkTy Tryz.prog 158 = some { u := .other, size := 1, bytes := 8, agg := false, zero := .nilfn } := by kernel_rfl
@[simp] theorem T159 : mkTy Tryz.prog 159 = some { u := .other, size := 1, bytes := 8, agg := false, zero := .nilfn } := by kernel_rfl
@[simp] theorem T160 : mkTy Tryz.prog 160 = some { u := .other, size := 1, bytes := 8, agg := false, zero := .nilfn } := by kernel_rfl
@[simp] theorem T161 : mkTy Tryz.prog 161 = some { u := .other, size := 1, bytes := 8, agg := false, zero := .nilfn } := by kernel_rfl
@[simp] theorem T162 : mkTy Tryz.prog 162 = some { u := .other, size := 1, bytes := 8, agg := false, zero := .nilfn } := by kernel_rfl
@[simp] theorem T163 : mkTy Tryz.prog 163 = some { u := .slice 127, size := 1, bytes := 24, agg := false, zero := .nilsl } := by kernel_rfl
@[simp] theorem T164 : mkTy Tryz.prog 164 = some { u := .other, size := 1, bytes := 8, agg := false, zero := .nilfn } := by kernel_rfl
@[simp] theorem T165 : mkTy Tryz.prog 165 = some { u := .other, size := 1, bytes := 8, agg := false, zero := .nilfn } := by kernel_rfl
@[simp] theorem T166 : mkTy Tryz.prog 166 = some { u := .other, size := 1, bytes := 8, agg := false, zero := .nilfn } := by kernel_rfl
@[simp] theorem T167 : mkTy Tryz.prog 167 = some { u := .other, size := 1, bytes := 8, agg := false, zero := .nilfn } := by kernel_rfl
@[simp] theorem T168 : mkTy Tryz.prog 168 = some { u := .other, size := 1, bytes := 8, agg := false, zero := .nilfn } := by kernel_rfl
@[simp] theorem T169 : mkTy Tryz.prog 169 = some { u := .other, size := 1, bytes := 8, agg := false, zero := .nilfn } := by kernel_rfl
@[simp] theorem T170 : mkTy Tryz.prog 170 = some { u := .other, size := 1, bytes := 8, agg := false, zero := .nilfn } := by kernel_rfl
@[simp] theorem T171 : mkTy Tryz.prog 171 = some { u := .other, size := 1, bytes := 8, agg := false, zero := .nilfn } := by kernel_rfl
@[simp] theorem T172 : mkTy Tryz.prog 172 = some { u := .other, size := 1, bytes := 8, agg := false, zero := .nilfn } := by kernel_rfl
@[simp] theorem T173 : mkTy Tryz.prog 173 = some { u := .other, size := 1, bytes := 8, agg := false, zero := .nilfn } := by kernel_rfl
@[simp] theorem T174 : mkTy Tryz.prog 174 = some { u := .other, size := 1, bytes := 8, agg := false, zero := .nilp } := by kernel_rfl
@[simp] theorem T175 : mkTy Tryz.prog 175 = some { u := .slice 5, size := 1, bytes := 24, agg := false, zero := .nilsl } := by kernel_rfl
@[simp] theorem T176 : mkTy Tryz.prog 176 = some { u := .struct [(0, 174), (1, 175)], size := 2, bytes := 32, agg := true, zero := .agg [.nilp, .nilsl] } := by kernel_rfl
@[simp] theorem T177 : mkTy Tryz.prog 177 = some { u := .struct [(0, 174), (1, 175)], size := 2, bytes := 32, agg := true, zero := .agg [.nilp, .nilsl] } := by kernel_rfl
@[simp] theorem T178 : mkTy Tryz.prog 178 = some { u := .other, size := 1, bytes := 8, agg := false, zero := .nilfn } := by kernel_rfl
@[simp] theorem T179 : mkTy Tryz.prog 179 = some { u := .other, size := 1, bytes := 16, agg := false, zero := .nili } := by kernel_rfl
@[simp] theorem T180 : mkTy Tryz.prog 180 = some { u := .other, size := 1, bytes := 16, agg := false, zero := .nili } := by kernel_rfl
@[simp] theorem T182 : mkTy Tryz.prog 182 = some { u := .other, size := 1, bytes := 8, agg := false, zero := .nilfn } := by kernel_rfl
@[simp] theorem T183 : mkTy Tryz.prog 183 = some { u := .int .u64, size := 1, bytes := 8, agg := false, zero := .int .u64 0 } := by kernel_rfl
@[simp] theorem T184 : mkTy Tryz.prog 184 = some { u := .other, size := 1, bytes := 8, agg := false, zero := .nilfn } := by kernel_rfl
@[simp] theorem T185 : mkTy Tryz.prog 185 = some { u := .other, size := 1, bytes := 8, agg := false, zero := .nilfn } := by kernel_rfl
@[simp] theorem T186 : mkTy Tryz.prog 186 = some { u := .other, size := 1, bytes := 8, agg := false, zero := .nilfn } := by kernel_rfl
@[simp] theorem T187 : mkTy Tryz.prog 187 = some { u := .other, size := 1, bytes := 8, agg := false, zero := .nilfn } := by kernel_rfl
@[simp] theorem T189 : mkTy Tryz.prog 189 = some { u := .other, size := 1, bytes := 8, agg := false, zero := .nilfn } := by kernel_rfl
@[simp] theorem T190 : mkTy Tryz.prog 190 = some { u := .other, size := 1, bytes := 8, agg := false, zero := .nilfn } := by kernel_rfl
@[simp] theorem T191 : mkTy Tryz.prog 191 = some { u := .other, size := 1, bytes := 8, agg := false, zero := .nilfn } := by kernel_rfl
@[simp] theorem T193 : mkTy Tryz.prog 193 = some { u := .other, size := 1, bytes := 8, agg := false, zero := .nilfn } := by kernel_rfl
@[simp] theorem T194 : mkTy Tryz.prog 194 = some { u := .other, size := 1, bytes := 8, agg := false, zero := .nilfn } := by kernel_rfl
@[simp] theorem T195 : mkTy Tryz.prog 195 = some { u := .other, size := 1, bytes := 8, agg := false, zero := .nilfn } := by kernel_rfl
@[simp] theorem T196 : mkTy Tryz.prog 196 = some { u := .other, size := 1, bytes := 8, agg := false, zero := .nilfn } := by kernel_rfl
@[simp] theorem T197 : mkTy Tryz.prog 197 = some { u := .other, size := 1, bytes := 8, agg := false, zero := .nilfn } := by kernel_rfl
@[simp] theorem T198 : mkTy Tryz.prog 198 = some { u := .array 7 9, size := 7, bytes := 112, agg := true, zero := .agg [.str ⟨#[]⟩, .str ⟨#[]⟩, .str ⟨#[]⟩, .str ⟨#[]⟩, .str ⟨#[]⟩, .str ⟨#[]⟩, .str ⟨#[]⟩] } := by kernel_rfl
@[simp] theorem T199 : mkTy Tryz.prog 199 = some { u := .other, size := 1, bytes := 8, agg := false, zero := .nilfn } := by kernel_rfl
@[simp] theorem T200 : mkTy Tryz.prog 200 = some { u := .other, size := 1, bytes := 8, agg := false, zero := .nilfn } := by kernel_rfl
@[simp] theorem T202 : mkTy Tryz.prog 202 = some { u := .other, size := 1, bytes := 8, agg := false, zero := .nilfn } := by kernel_rfl
@[simp] theorem T203 : mkTy Tryz.prog 203 = some { u := .int .u64, size := 1, bytes := 8, agg := false, zero := .int .u64 0 } := by kernel_rfl
@[simp] theorem T205 : mkTy Tryz.prog 205 = some { u := .other, size := 1, bytes := 8, agg := false, zero := .nilfn } := by kernel_rfl
@[simp] theorem T206 : mkTy Tryz.prog 206 = some { u := .other, size := 1, bytes := 8, agg := false, zero := .nilfn } := by kernel_rfl
@[simp] theorem T207 : mkTy Tryz.prog 207 = some { u := .other, size := 1, bytes := 8, agg := false, zero := .nilfn } := by kernel_rfl
@[simp] theorem T208 : mkTy Tryz.prog 208 = some { u := .other, size := 1, bytes := 8, agg := false, zero := .nilfn } := by kernel_rfl
@[simp] theorem T209 : mkTy Tryz.prog 209 = some { u := .other, size := 1, bytes := 8, agg := false, zero := .nilfn } := by kernel_rfl
@[simp] theorem T210 : mkTy Tryz.prog 210 = some { u := .other, size := 1, bytes := 8, agg := false, zero := .nilfn } := by kernel_rfl
@[simp] theorem T211 : mkTy Tryz.prog 211 = some { u := .other, size := 1, bytes := 8, agg := false, zero := .nilfn } := by kernel_rfl
@[simp] theorem T212 : mkTy Tryz.prog 212 = some { u := .other, size := 1, bytes := 8, agg := false, zero := .nilfn } := by kernel_rfl
@[simp] theorem T213 : mkTy Tryz.prog 213 = some { u := .other, size := 1, bytes := 8, agg := false, zero := .nilfn } := by kernel_rfl
@[simp] theorem T214 : mkTy Tryz.prog 214 = some { u := .other, size := 1, bytes := 8, agg := false, zero := .nilp } := by kernel_rfl
@[simp] theorem T215 : mkTy Tryz.prog 215 = some { u := .other, size := 1, bytes := 8, agg := false, zero := .nilfn } := by kernel_rfl
@[simp] theorem T216 : mkTy Tryz.prog 216 = some { u := .other, size := 1, bytes := 8, agg := false, zero := .nilfn } := by kernel_rfl
@[simp] theorem T217 : mkTy Tryz.prog 217 = some { u := .other, size := 1, bytes := 8, agg := false, zero := .nilfn } := by kernel_rfl
@[simp] theorem T218 : mkTy Tryz.prog 218 = some { u := .other, size := 1, bytes := 8, agg := false, zero := .nilfn } := by kernel_rfl
@[simp] theorem T219 : mkTy Tryz.prog 219 = some { u := .other, size := 1, bytes := 8, agg := false, zero := .nilfn } := by kernel_rfl
@[simp] theorem T220 : mkTy Tryz.prog 220 = some { u := .slice 51, size := 1, bytes := 24, agg := false, zero := .nilsl } := by kernel_rfl
@[simp] theorem T221 : mkTy Tryz.prog 221 = some { u := .other, size := 1, bytes := 8, agg := false, zero := .nilfn } := by kernel_rfl
@[simp] theorem T222 : mkTy Tryz.prog 222 = some { u := .other, size := 1, bytes := 8, agg := false, zero := .nilfn } := by kernel_rfl
@[simp] theorem T223 : mkTy Tryz.prog 223 = some { u := .other, size := 1, bytes := 8, agg := false, zero := .nilp } := by kernel_rfl
@[simp] theorem T224 : mkTy Tryz.prog 224 = some { u := .other, size := 1, bytes := 8, agg := false, zero := .nilfn } := by kernel_rfl
@[simp] theorem T226 : mkTy Tryz.prog 226 = some { u := .other, size := 1, bytes := 8, agg := false, zero := .nilfn } := by kernel_rfl
@[simp] theorem T227 : mkTy Tryz.prog 227 = some { u := .array 24 5, size := 24, bytes := 24, agg := true, zero := .agg [.int .u8 0, .int .u8 0, .int .u8 0, .int .u8 0, .int .u8 0, .int .u8 0, .int .u8 0, .int .u8 0, .int .u8 0, .int .u8 0, .int .u8 0, .int .u8 0, .int .u8 0, .int .u8 0, .int .u8 0, .int .u8 0, .int .u8 0, .int .u8 0, .int .u8 0, .int .u8 0, .int .u8 0, .int .u8 0, .int .u8 0, .int .u8 0] } := by kernel_rfl
@[simp] theorem T228 : mkTy Tryz.prog 228 = some { u := .other, size := 1, bytes := 8, agg := false, zero := .nilfn } := by kernel_rfl
@[simp] theorem T229 : mkTy Tryz.prog 229 = some { u := .other, size := 1, bytes := 8, agg := false, zero := .nilfn } := by kernel_rfl
@[simp] theorem T231 : mkTy Tryz.prog 231 = some { u := .other, size := 1, bytes := 8, agg := false, zero := .nilfn } := by kernel_rfl
@[simp] theorem T232 : mkTy Tryz.prog 232 = some { u := .array 12 3, size := 12, bytes := 96, agg := true, zero := .agg [.int .i64 0, .int .i64 0, .int .i64 0, .int .i64 0, .int .i64 0, .int .i64 0, .int .i64 0, .int .i64 0, .int .i64 0, .int .i64 0, .int .i64 0, .int .i64 0] } := by kernel_rfl
@[simp] theorem T233 : mkTy Tryz.prog 233 = some { u := .other, size := 1, bytes := 8, agg := false, zero := .nilfn } := by kernel_rfl
@[simp] theorem T234 : mkTy Tryz.prog 234 = some { u := .other, size := 1, bytes := 8, agg := false, zero := .nilfn } := by kernel_rfl
@[simp] theorem T236 : mkTy Tryz.prog 236 = some { u := .other, size := 1, bytes := 8, agg := false, zero := .nilfn } := by kernel_rfl
@[simp] theorem T237 : mkTy Tryz.prog 237 = some { u := .other, size := 1, bytes := 8, agg := false, zero := .nilp } := by kernel_rfl
@[simp] theorem T238 : mkTy Tryz.prog 238 = some { u := .struct [(0, 9), (1, 4)], size := 2, bytes := 24, agg := true, zero := .agg [.str ⟨#[]⟩, .bool false] } := by kernel_rfl
@[simp] theorem T239 : mkTy Tryz.prog 239 = some { u := .struct [(0, 9), (1, 4)], size := 2, bytes := 24, agg := true, zero := .agg [.str ⟨#[]⟩, .bool false] } := by kernel_rfl
@[simp] theorem T240 : mkTy Tryz.prog 240 = some { u := .other, size := 1, bytes := 8, agg := false, zero := .nilfn } := by kernel_rfl
@[simp] theorem T241 : mkTy Tryz.prog 241 = some { u := .other, size := 1, bytes := 8, agg := false, zero := .nilfn } := by kernel_rfl
@[simp] theorem T242 : mkTy Tryz.prog 242 = some { u := .other, size := 1, bytes := 8, agg := false, zero := .nilfn } := by kernel_rfl
@[simp] theorem T243 : mkTy Tryz.prog 243 = some { u := .other, size := 1, bytes := 8, agg := false, zero := .nilfn } := by kernel_rfl
@[simp] theorem T244 : mkTy Tryz.prog 244 = some { u := .other, size := 1, bytes := 8, agg := false, zero := .nilfn } := by kernel_rfl
@[simp] theorem T245 : mkTy Tryz.prog 245 = some { u := .other, size := 1, bytes := 8, agg := false, zero := .nilfn } := by kernel_rfl
@[simp] theorem T246 : mkTy Tryz.prog 246 = some { u := .other, size := 1, bytes := 8, agg := false, zero := .nilfn } := by kernel_rfl
@[simp] theorem T247 : mkTy Tryz.prog 247 = some { u := .other, size := 1, bytes := 8, agg := false, zero := .nilp } := by kernel_rfl
@[simp] theorem T248 : mkTy Tryz.prog 248 = some { u := .other, size := 1, bytes := 8, agg := false, zero := .nilfn } := by kernel_rfl
@[simp] theorem T249 : mkTy Tryz.prog 249 = some { u := .other, size := 1, bytes := 8, agg := false, zero := .nilfn } := by kernel_rfl
@[simp] theorem T250 : mkTy Tryz.prog 250 = some { u := .other, size := 1, bytes := 8, agg := false, zero := .nilfn } := by kernel_rfl
@[simp] theorem T251 : mkTy Tryz.prog 251 = some { u := .int .i64, size := 1, bytes := 8, agg := false, zero := .int .i64 0 } := by kernel_rfl
@[simp] theorem T253 : mkTy Tryz.prog 253 = some { u := .other, size := 1, bytes := 8, agg := false, zero := .nilfn } := by kernel_rfl
@[simp] theorem T254 : mkTy Tryz.prog 254 = some { u := .other, size := 1, bytes := 8, agg := false, zero := .nilfn } := by kernel_rfl
@[simp] theorem T255 : mkTy Tryz.prog 255 = some { u := .other, size := 1, bytes := 8, agg := false, zero := .nilfn } := by kernel_rfl
@[simp] theorem T256 : mkTy Tryz.prog 256 = some { u := .other, size := 1, bytes := 8, agg := false, zero := .nilfn } := by kernel_rfl
@[simp] theorem T257 : mkTy Tryz.prog 257 = some { u := .other, size := 1, bytes := 8, agg := false, zero := .nilfn } := by kernel_rfl
@[simp] theorem T258 : mkTy Tryz.prog 258 = some { u := .int .u32, size := 1, bytes := 4, agg := false, zero := .int .u32 0 } := by kernel_rfl
@[simp] theorem T259 : mkTy Tryz.prog 259 = some { u := .other, size := 1, bytes := 16, agg := false, zero := .nili } := by kernel_rfl
@[simp] theorem T260 : mkTy Tryz.prog 260 = some { u := .other, size := 1, bytes := 16, agg := false, zero := .nili } := by kernel_rfl
@[simp] theorem T261 : mkTy Tryz.prog 261 = some { u := .other, size := 1, bytes := 8, agg := false, zero := .nilfn } := by kernel_rfl
@[simp] theorem T262 : mkTy Tryz.prog 262 = some { u := .other, size := 1, bytes := 8, agg := false, zero := .nilfn } := by kernel_rfl
@[simp] theorem T263 : mkTy Tryz.prog 263 = some { u := .other, size := 1, bytes := 8, agg := false, zero := .nilfn } := by kernel_rfl
@[simp] theorem T264 : mkTy Tryz.prog 264 = some { u := .other, size := 1, bytes := 8, agg := false, zero := .nilfn } := by kernel_rfl
@[simp] theorem T265 : mkTy Tryz.prog 265 = some { u := .other, size := 1, bytes := 8, agg := false, zero := .nilfn } := by kernel_rfl
@[simp] theorem T266 : mkTy Tryz.prog 266 = some { u := .other, size := 1, bytes := 8, agg := false, zero := .nilfn } := by kernel_rfl
@[simp] theorem T267 : mkTy Tryz.prog 267 = some { u := .other, size := 1, bytes := 8, agg := false, zero := .nilfn } := by kernel_rfl
@[simp] theorem T268 : mkTy Tryz.prog 268 = some { u := .array 20 203, size := 20, bytes := 160, agg := true, zero := .agg [.int .u64 0, .int .u64 0, .int .u64 0, .int .u64 0, .int .u64 0, .int .u64 0, .int .u64 0, .int .u64 0, .int .u64 0, .int .u64 0, .int .u64 0, .int .u64 0, .int .u64 0, .int .u64 0, .int .u64 0, .int .u64 0, .int .u64 0, .int .u64 0, .int .u64 0, .int .u64 0] } := by kernel_rfl
@[simp] theorem T269 : mkTy Tryz.prog 269 = some { u := .array 65 5, size := 65, bytes := 65, agg := true, zero := .agg [.int .u8 0, .int .u8 0, .int .u8 0, .int .u8 0, .int .u8 0, .int .u8 0, .int .u8 0, .int .u8 0, .int .u8 0, .int .u8 0, .int .u8 0, .int .u8 0, .int .u8 0, .int .u8 0, .int .u8 0, .int .u8 0, .int .u8 0, .int .u8 0, .int .u8 0, .int .u8 0, .int .u8 0, .int .u8 0, .int .u8 0, .int .u8 0, .int .u8 0, .int .u8 0, .int .u8 0, .int .u8 0, .int .u8 0, .int .u8 0, .int .u8 0, .int .u8 0, .int .u8 0, .int .u8 0, .int .u8 0, .int .u8 0, .int .u8 0, .int .u8 0, .int .u8 0, .int .u8 0, .int .u8 0, .int .u8 0, .int .u8 0, .int .u8 0, .int .u8 0, .int .u8 0, .int .u8 0, .int .u8 0, .int .u8 0, .int .u8 0, .int .u8 0, .int .u8 0, .int .u8 0, .int .u8 0, .int .u8 0, .int .u8 0, .int .u8 0, .int .u8 0, .int .u8 0, .int .u8 0, .int .u8 0, .int .u8 0, .int .u8 0, .int .u8 0, .int .u8 0] } := by kernel_rfl
@[simp] theorem T271 : mkTy Tryz.prog 271 = some { u := .other, size := 1, bytes := 8, agg := false, zero := .nilfn } := by kernel_rfl
@[simp] theorem T272 : mkTy Tryz.prog 272 = some { u := .other, size := 1, bytes := 8, agg := false, zero := .nilfn } := by kernel_rfl
@[simp] theorem T273 : mkTy Tryz.prog 273 = some { u := .int .i64, size := 1, bytes := 8, agg := false, zero := .int .i64 0 } := by kernel_rfl
@[simp] theorem T274 : mkTy Tryz.prog 274 = some { u := .other, size := 1, bytes := 8, agg := false, zero := .nilfn } := by kernel_rfl
@[simp] theorem T275 : mkTy Tryz.prog 275 = some { u := .other, size := 1, bytes := 8, agg := false, zero := .nilp } := by kernel_rfl
@[simp] theorem T276 : mkTy Tryz.prog 276 = some { u := .other, size := 1, bytes := 8, agg := false, zero := .nilfn } := by kernel_rfl
@[simp] theorem T277 : mkTy Tryz.prog 277 = some { u := .other, size := 1, bytes := 8, agg := false, zero := .nilfn } := by kernel_rfl
@[simp] theorem T278 : mkTy Tryz.prog 278 = some { u := .other, size := 1, bytes := 8, agg := false, zero := .nilfn } := by kernel_rfl
@[simp] theorem T279 : mkTy Tryz.prog 279 = some { u := .int .u64, size := 1, bytes := 8, agg := false, zero := .int .u64 0 } := by kernel_rfl
@[simp] theorem T280 : mkTy Tryz.prog 280 = some { u := .other, size := 1, bytes := 8, agg := false, zero := .nilfn } := by kernel_rfl
@[simp] theorem T281 : mkTy Tryz.prog 281 = some { u := .other, size := 1, bytes := 8, agg := false, zero := .nilfn } := by kernel_rfl
@[simp] theorem T282 : mkTy Tryz.prog 282 = some { u := .other, size := 1, bytes := 8, agg := false, zero := .nilfn } := by kernel_rfl
@[simp] theorem T283 : mkTy Tryz.prog 283 = some { u := .other, size := 1, bytes := 8, agg := false, zero := .nilp } := by kernel_rfl
@[simp] theorem T284 : mkTy Tryz.prog 284 = some { u := .other, size := 1, bytes := 8, agg := false, zero := .nilfn } := by kernel_rfl
@[simp] theorem T285 : mkTy Tryz.prog 285 = some { u := .other, size := 1, bytes := 8, agg := false, zero := .nilfn } := by kernel_rfl
@[simp] theorem T286 : mkTy Tryz.prog 286 = some { u := .slice 3, size := 1, bytes := 24, agg := false, zero := .nilsl } := by kernel_rfl
@[simp] theorem T287 : mkTy Tryz.prog 287 = some { u := .other, size := 1, bytes := 8, agg := false, zero := .nilfn } := by kernel_rfl
@[simp] theorem T289 : mkTy Tryz.prog 289 = some { u := .other, size := 1, bytes := 8, agg := false, zero := .nilfn } := by kernel_rfl
@[simp] theorem T291 : mkTy Tryz.prog 291 = some { u := .other, size := 1, bytes := 8, agg := false, zero := .nilfn } := by kernel_rfl
@[simp] theorem T292 : mkTy Tryz.prog 292 = some { u := .struct [(0, 9), (1, 9), (2, 180)], size := 3, bytes := 48, agg := true, zero := .agg [.str ⟨#[]⟩, .str ⟨#[]⟩, .nili] } := by kernel_rfl
@[simp] theorem T293 : mkTy Tryz.prog 293 = some { u := .struct [(0, 9), (1, 9), (2, 180)], size := 3, bytes := 48, agg := true, zero := .agg [.str ⟨#[]⟩, .str ⟨#[]⟩, .nili] } := by kernel_rfl
@[simp] theorem T294 : mkTy Tryz.prog 294 = some { u := .other, size := 1, bytes := 8, agg := false, zero := .nilfn } := by kernel_rfl
@[simp] theorem T295 : mkTy Tryz.prog 295 = some { u := .other, size := 1, bytes := 8, agg := false, zero := .nilfn } := by kernel_rfl
@[simp] theorem T296 : mkTy Tryz.prog 296 = some { u := .other, size := 1, bytes := 8, agg := false, zero := .nilp } := by kernel_rfl
@[simp] theorem T298 : mkTy Tryz.prog 298 = some { u := .other, size := 1, bytes := 8, agg := false, zero := .nilfn } := by kernel_rfl
@[simp] theorem T299 : mkTy Tryz.prog 299 = some { u := .array 32 5, size := 32, bytes := 32, agg := true, zero := .agg [.int .u8 0, .int .u8 0, .int .u8 0, .int .u8 0, .int .u8 0, .int .u8 0, .int .u8 0, .int .u8 0, .int .u8 0, .int .u8 0, .int .u8 0, .int .u8 0, .int .u8 0, .int .u8 0, .int .u8 0, .int .u8 0, .int .u8 0, .int .u8 0, .int .u8 0, .int .u8 0, .int .u8 0, .int .u8 0, .int .u8 0, .int .u8 0, .int .u8 0, .int .u8 0, .int .u8 0, .int .u8 0, .int .u8 0, .int .u8 0, .int .u8 0, .int .u8 0] } := by kernel_rfl
@[simp] theorem T300 : mkTy Tryz.prog 300 = some { u := .array 64 5, size := 64, bytes := 64, agg := true, zero := .agg [.int .u8 0, .int .u8 0, .int .u8 0, .int .u8 0, .int .u8 0, .int .u8 0, .int .u8 0, .int .u8 0, .int .u8 0, .int .u8 0, .int .u8 0, .int .u8 0, .int .u8 0, .int .u8 0, .int .u8 0, .int .u8 0, .int .u8 0, .int .u8 0, .int .u8 0, .int .u8 0, .int .u8 0, .int .u8 0, .int .u8 0, .int .u8 0, .int .u8 0, .int .u8 0, .int .u8 0, .int .u8 0, .int .u8 0, .int .u8 0, .int .u8 0, .int .u8 0, .int .u8 0, .int .u8 0, .int .u8 0, .int .u8 0, .int .u8 0, .int .u8 0, .int .u8 0, .int .u8 0, .int .u8 0, .int .u8 0, .int .u8 0, .int .u8 0, .int .u8 0, .int .u8 0, .int .u8 0, .int .u8 0, .int .u8 0, .int .u8 0, .int .u8 0, .int .u8 0, .int .u8 0, .int .u8 0, .int .u8 0, .int .u8 0, .int .u8 0, .int .u8 0, .int .u8 0, .int .u8 0, .int .u8 0, .int .u8 0, .int .u8 0, .int .u8 0] } := by kernel_rfl
@[simp] theorem T301 : mkTy Tryz.prog 301 = some { u := .other, size := 1, bytes := 8, agg := false, zero := .nilp } := by kernel_rfl
@[simp] theorem T302 : mkTy Tryz.prog 302 = some { u := .struct [(0, 9)], size := 1, bytes := 16, agg := true, zero := .agg [.str ⟨#[]⟩] } := by kernel_rfl
@[simp] theorem T303 : mkTy Tryz.prog 303 = some { u := .struct [(0, 9)], size := 1, bytes := 16, agg := true, zero := .agg [.str ⟨#[]⟩] } := by kernel_rfl
@[simp] theorem T304 : mkTy Tryz.prog 304 = some { u := .other, size := 1, bytes := 8, agg := false, zero := .nilfn } := by kernel_rfl
@[simp] theorem T306 : mkTy Tryz.prog 306 = some { u := .other, size := 1, bytes := 8, agg := false, zero := .nilfn } := by kernel_rfl
@[simp] theorem T308 : mkTy Tryz.prog 308 = some { u := .struct [(0, 5), (1, 5)], size := 2, bytes := 2, agg := true, zero := .agg [.int .u8 0, .int .u8 0] } := by kernel_rfl
@[simp] theorem T309 : mkTy Tryz.prog 309 = some { u := .struct [(0, 5), (1, 5)], size := 2, bytes := 2, agg := true, zero := .agg [.int .u8 0, .int .u8 0] } := by kernel_rfl
@[simp] theorem T310 : mkTy Tryz.prog 310 = some { u := .array 16 309, size := 32, bytes := 32, agg := true, zero := .agg [.int .u8 0, .int .u8 0, .int .u8 0, .int .u8 0, .int .u8 0, .int .u8 0, .int .u8 0, .int .u8 0, .int .u8 0, .int .u8 0, .int .u8 0, .int .u8 0, .int .u8 0, .int .u8 0, .int .u8 0, .int .u8 0, .int .u8 0, .int .u8 0, .int .u8 0, .int .u8 0, .int .u8 0, .int .u8 0, .int .u8 0, .int .u8 0, .int .u8 0, .int .u8 0, .int .u8 0, .int .u8 0, .int .u8 0, .int .u8 0, .int .u8 0, .int .u8 0] } := by kernel_rfl
@[simp] theorem T311 : mkTy Tryz.prog 311 = some { u := .other, size := 1, bytes := 8, agg := false, zero := .nilfn } := by kernel_rfl
@[simp] theorem T312 : mkTy Tryz.prog 312 = some { u := .struct [(0, 17), (1, 17), (2, 17), (3, 9)], size := 4, bytes := 40, agg := true, zero := .agg [.nilp, .nilp, .nilp, .str ⟨#[]⟩] } := by kernel_rfl
@[simp] theorem T313 : mkTy Tryz.prog 313 = some { u := .struct [(0, 17), (1, 17), (2, 17), (3, 9)], size := 4, bytes := 40, agg := true, zero := .agg [.nilp, .nilp, .nilp, .str ⟨#[]⟩] } := by kernel_rfl
@[simp] theorem T314 : mkTy Tryz.prog 314 = some { u := .array 0 16, size := 0, bytes := 0, agg := true, zero := .agg [] } := by kernel_rfl
@[simp] theorem T315 : mkTy Tryz.prog 315 = some { u := .struct [(0, 314)], size := 0, bytes := 0, agg := true, zero := .agg [] } := by kernel_rfl
@[simp] theorem T316 : mkTy Tryz.prog 316 = some { u := .struct [(0, 314)], size := 0, bytes := 0, agg := true, zero := .agg [] } := by kernel_rfl
@[simp] theorem T317 : mkTy Tryz.prog 317 = some { u := .int .u8, size := 1, bytes := 1, agg := false, zero := .int .u8 0 } := by kernel_rfl
@[simp] theorem T318 : mkTy Tryz.prog 318 = some { u := .int .u8, size := 1, bytes := 1, agg := false, zero := .int .u8 0 } := by kernel_rfl
@[simp] theorem T319 : mkTy Tryz.prog 319 = some { u := .other, size := 1, bytes := 8, agg := false, zero := .nilfn } := by kernel_rfl
@[simp] theorem T320 : mkTy Tryz.prog 320 = some { u := .int .i32, size := 1, bytes := 4, agg := false, zero := .int .i32 0 } := by kernel_rfl
@[simp] theorem T321 : mkTy Tryz.prog 321 = some { u := .int .i32, size := 1, bytes := 4, agg := false, zero := .int .i32 0 } := by kernel_rfl
@[simp] theorem T322 : mkTy Tryz.prog 322 = some { u := .struct [(0, 12), (1, 12), (2, 258), (3, 317), (4, 5), (5, 5), (6, 318), (7, 319), (8, 214), (9, 320), (10, 321)], size := 11, bytes := 48, agg := true, zero := .agg [.int .u64 0, .int .u64 0, .int .u32 0, .int .u8 0, .int .u8 0, .int .u8 0, .int .u8 0, .nilfn, .nilp, .int .i32 0, .int .i32 0] } := by kernel_rfl
@[simp] theorem T323 : mkTy Tryz.prog 323 = some { u := .struct [(0, 12), (1, 12), (2, 258), (3, 317), (4, 5), (5, 5), (6, 318), (7, 319), (8, 214), (9, 320), (10, 321)], size := 11, bytes := 48, agg := true, zero := .agg [.int .u64 0, .int .u64 0, .int .u32 0, .int .u8 0, .int .u8 0, .int .u8 0, .int .u8 0, .nilfn, .nilp, .int .i32 0, .int .i32 0] } := by kernel_rfl
@[simp] theorem T324 : mkTy Tryz.prog 324 = some { u := .other, size := 1, bytes := 8, agg := false, zero := .nilfn } := by kernel_rfl
end Go.Vm

namespace Go.Vm
open Go Go.Proofs
/-- What is known of the library's variables: the table of powers of ten is laid; the bound of short searches is some number. -/
def J0 (w : World) (C : Nat → Prop) : Prop := C 0 ∧ C 1 ∧ Lib.TabIs Tryz.prog w "internal/strconv.uint64pow10" .u64 Lib.pow10Tab ∧ ∃ m, w.cell? ⟨1, 0, none⟩ = some (.int .i64 m)
/-- A text as its bytes. -/
abbrev S := List UInt8
def bs (l : S) : ByteArray := ⟨l.toArray⟩
/-- Texts as the cells of a slice; texts in order. -/
def strs (l : List S) : List (List V) := l.map fun s => [.str (bs s)]
def sortS (l : List S) : List S := l.mergeSort fun x y => decide (x ≤ y)
noncomputable def cfg : Cfg :=
  { P := Tryz.prog, lend := fun f => f == 180, J := J0, ipB := fun f => f == 179,
    ip := fun g _ sz xs ys => g = 179 ∧ sz = 1 ∧ ∃ l : List S, l.length < 4611686018427387904 ∧ xs = strs l ∧ ys = strs (sortS l) }
@[simp] theorem cfgJ : cfg.J = J0 := rfl
@[simp] theorem cfgP : cfg.P = Tryz.prog := rfl
@[simp] theorem cfgL (f : Nat) : cfg.lend f = (f == 180) := rfl
@[simp] theorem cfgI (f : Nat) : cfg.ipB f = (f == 179) := rfl
@[reducible] def m0 : Mem := ⟨[], [], [], []⟩

theorem wrap64_id {n : Int} (h0 : -9223372036854775808 ≤ n) (h1 : n ≤ 9223372036854775807) : IntKind.i64.wrap n = n := Go.IntWalk.i64_in n ⟨h0, h1⟩
theorem mk_bs (l : S) : (⟨l.toArray⟩ : ByteArray) = bs l := rfl
theorem bs_of (b : ByteArray) : ∃ l, b = bs l := ⟨b.data.toList, by cases b; simp [bs]⟩
@[simp] theorem bs_inj {a b : S} : bs a = bs b ↔ a = b := by simp [bs]
@[simp] theorem size_bs (l : S) : (bs l).size = l.length := by simp [bs, ByteArray.size]
@[simp] theorem append_bs (a b : S) : bs a ++ bs b = bs (a ++ b) := by
  apply ByteArray.ext
  simp [bs]
@[simp] theorem toList_bs (l : S) : (bs l).toList = l := by
  rw [ByteArray.toList_eq]
  simp [bs]
@[simp] theorem extract_bs (l : S) (i j : Nat) : (bs l).extract i j = bs ((l.take j).drop i) := by
  apply ByteArray.ext
  simp [bs, List.drop_take]
@[simp] theorem byteAt_bs (l : S) (i : Nat) : byteAt (bs l) i = ((l.getD i 0).toNat : Int) := by
  unfold byteAt
  split
  · rename_i h
    simp only [size_bs] at h
    simp [List.getD_eq_getElem?_getD, h]
    rfl
  · rename_i h
    simp only [size_bs] at h
    simp [List.getD_eq_getElem?_getD, h]

attribute [simp] mk_bs
def letterB (c : Int) : Bool := (decide (97 ≤ c) && decide (c ≤ 122)) || (decide (65 ≤ c) && decide (c ≤ 90))
theorem f118 (X : CallRel) (c : Int) : Run cfg X 118 [.int .u8 c] m0 (.bool (letterB c)) m0 := by
  refine Run.fn [.tmp 2] [4] Tryz.func118 rfl (by simp [Tryz.ntmps118]) rfl rfl (by kernel_rfl) ?_
  simp
  repeat' (first | (refine guardK_true ?_ ?_ <;> intro hg <;> ((have hg0 := hg); (try simp only [decide_eq_true_eq, decide_eq_false_iff_not, Bool.not_eq_true', Bool.not_eq_false', beq_iff_eq, beq_eq_false_iff_ne, bne_iff_ne, ne_eq, bne_eq_false_iff_eq, List.isEmpty_iff, List.isEmpty_eq_false_iff] at hg) <;> (try simp [hg0, hg]) <;> clear hg0) <;> (try (revert hg; intro _))) | (refine guardK_false ?_ ?_ <;> intro hg <;> ((have hg0 := hg); (try simp only [decide_eq_true_eq, decide_eq_false_iff_not, Bool.not_eq_true', Bool.not_eq_false', beq_iff_eq, beq_eq_false_iff_ne, bne_iff_ne, ne_eq, bne_eq_false_iff_eq, List.isEmpty_iff, List.isEmpty_eq_false_iff] at hg) <;> (try simp [hg0, hg]) <;> clear hg0) <;> (try (revert hg; intro _))) | (refine boolK_by ?_ ?_ <;> intro hg <;> ((have hg0 := hg); (try simp only [decide_eq_true_eq, decide_eq_false_iff_not, Bool.not_eq_true', Bool.not_eq_false', beq_iff_eq, beq_eq_false_iff_ne, bne_iff_ne, ne_eq, bne_eq_false_iff_eq, List.isEmpty_iff, List.isEmpty_eq_false_iff] at hg) <;> (try simp [hg0, hg]) <;> clear hg0) <;> (try (revert hg; intro _))))
  all_goals simp [letterB, *]
def innerB (c : Int) : Bool := letterB c || (decide (48 ≤ c) && decide (c ≤ 57)) || c == 95 || c == 58
theorem f119 (X : CallRel) (c : Int) : Run cfg X 119 [.int .u8 c] m0 (.bool (innerB c)) m0 := by
  refine Run.fn [.tmp 2] [4] Tryz.func119 rfl (by simp [Tryz.ntmps119]) rfl rfl (by kernel_rfl) ?_
  simp
  refine runK_of (f118 X c) ?_
  simp
  repeat' (first | (refine guardK_true ?_ ?_ <;> intro hg <;> ((have hg0 := hg); (try simp only [decide_eq_true_eq, decide_eq_false_iff_not, Bool.not_eq_true', Bool.not_eq_false', beq_iff_eq, beq_eq_false_iff_ne, bne_iff_ne, ne_eq, bne_eq_false_iff_eq, List.isEmpty_iff, List.isEmpty_eq_false_iff] at hg) <;> (try simp [hg0, hg]) <;> clear hg0) <;> (try (revert hg; intro _))) | (refine guardK_false ?_ ?_ <;> intro hg <;> ((have hg0 := hg); (try simp only [decide_eq_true_eq, decide_eq_false_iff_not, Bool.not_eq_true', Bool.not_eq_false', beq_iff_eq, beq_eq_false_iff_ne, bne_iff_ne, ne_eq, bne_eq_false_iff_eq, List.isEmpty_iff, List.isEmpty_eq_false_iff] at hg) <;> (try simp [hg0, hg]) <;> clear hg0) <;> (try (revert hg; intro _))) | (refine boolK_by ?_ ?_ <;> intro hg <;> ((have hg0 := hg); (try simp only [decide_eq_true_eq, decide_eq_false_iff_not, Bool.not_eq_true', Bool.not_eq_false', beq_iff_eq, beq_eq_false_iff_ne, bne_iff_ne, ne_eq, bne_eq_false_iff_eq, List.isEmpty_iff, List.isEmpty_eq_false_iff] at hg) <;> (try simp [hg0, hg]) <;> clear hg0) <;> (try (revert hg; intro _))))
  all_goals simp [innerB, *]
end Go.Vm

namespace Go.Vm
open Go Go.Proofs
/-- A term. -/
inductive Tm where
  | mk (kind n : Int) (s : S) (l : List Tm)
def Tm.kind : Tm → Int | .mk k _ _ _ => k
def Tm.n : Tm → Int | .mk _ n _ _ => n
def Tm.s : Tm → S | .mk _ _ s _ => s
def Tm.l : Tm → List Tm | .mk _ _ _ l => l
mutual
def Tm.cells : Tm → List V
  | .mk k n s l => [.int .i64 k, .int .i64 n, .str (bs s), .sl (Tm.cellsL l)]
def Tm.cellsL : List Tm → List (List V)
  | [] => []
  | t :: r => t.cells :: Tm.cellsL r
end
theorem Tm.cellsL_map : ∀ l, Tm.cellsL l = l.map Tm.cells := by
  intro l
  induction l with
  | nil => rfl
  | cons t r ih => simp [Tm.cellsL, ih]
theorem Tm.cells_eq (t : Tm) : t.cells = [.int .i64 t.kind, .int .i64 t.n, .str (bs t.s), .sl (t.l.map Tm.cells)] := by
  cases t
  simp [Tm.cells, Tm.cellsL_map, Tm.kind, Tm.n, Tm.s, Tm.l]
theorem Tm.cells_len (t : Tm) : t.cells.length = 4 := by rw [t.cells_eq]; rfl
@[simp] theorem allLen_tm (l : List Tm) : allLen (l.map Tm.cells) 4 := fun x hx => by
  obtain ⟨t, _, rfl⟩ := List.mem_map.1 hx
  exact t.cells_len
-- Within these bounds no number of elements goes round.
mutual
def Tm.small : Tm → Prop
  | .mk _ _ s l => s.length ≤ 9223372036854775807 ∧ l.length ≤ 9223372036854775807 ∧ smallL l
def smallL : List Tm → Prop
  | [] => True
  | t :: r => t.small ∧ smallL r
end
theorem smallL_iff : ∀ {l : List Tm}, smallL l ↔ ∀ t ∈ l, t.small
  | [] => by simp [smallL]
  | t :: r => by simp [smallL, smallL_iff (l := r)]
theorem Tm.small_iff {t : Tm} : t.small ↔ t.s.length ≤ 9223372036854775807 ∧ t.l.length ≤ 9223372036854775807 ∧ ∀ x ∈ t.l, x.small := by
  cases t
  simp only [Tm.small, smallL_iff, Tm.s, Tm.l]
def sgn (b : Bool) : Int := if b then -1 else 1
theorem f191 (X : CallRel) (b : Bool) : Run cfg X 191 [.bool b] m0 (.int .i64 (sgn b)) m0 := by
  refine Run.fn [.tmp 2] [3] Tryz.func191 rfl (by simp [Tryz.ntmps191]) rfl rfl (by kernel_rfl) ?_
  simp
  repeat' (first | (refine guardK_true ?_ ?_ <;> intro hg <;> ((have hg0 := hg); (try simp only [decide_eq_true_eq, decide_eq_false_iff_not, Bool.not_eq_true', Bool.not_eq_false', beq_iff_eq, beq_eq_false_iff_ne, bne_iff_ne, ne_eq, bne_eq_false_iff_eq, List.isEmpty_iff, List.isEmpty_eq_false_iff] at hg) <;> (try simp [hg0, hg]) <;> clear hg0) <;> (try (revert hg; intro _))) | (refine guardK_false ?_ ?_ <;> intro hg <;> ((have hg0 := hg); (try simp only [decide_eq_true_eq, decide_eq_false_iff_not, Bool.not_eq_true', Bool.not_eq_false', beq_iff_eq, beq_eq_false_iff_ne, bne_iff_ne, ne_eq, bne_eq_false_iff_eq, List.isEmpty_iff, List.isEmpty_eq_false_iff] at hg) <;> (try simp [hg0, hg]) <;> clear hg0) <;> (try (revert hg; intro _))) | (refine boolK_by ?_ ?_ <;> intro hg <;> ((have hg0 := hg); (try simp only [decide_eq_true_eq, decide_eq_false_iff_not, Bool.not_eq_true', Bool.not_eq_false', beq_iff_eq, beq_eq_false_iff_ne, bne_iff_ne, ne_eq, bne_eq_false_iff_eq, List.isEmpty_iff, List.isEmpty_eq_false_iff] at hg) <;> (try simp [hg0, hg]) <;> clear hg0) <;> (try (revert hg; intro _))))
  all_goals simp [sgn, *]
def cmpL (f : Tm → Tm → Int) : List Tm → List Tm → Int
  | [], [] => 0
  | [], _ :: _ => -1
  | _ :: _, [] => 1
  | x :: r, y :: q => if f x y ≠ 0 then f x y else cmpL f r q
def cmpR : Nat → Tm → Tm → Int
  | 0, a, b => if a.kind ≠ b.kind then sgn (a.kind < b.kind) else if a.n ≠ b.n then sgn (a.n < b.n) else if a.s ≠ b.s then sgn (Op.bytesLess a.s b.s) else 0
  | d + 1, a, b => if a.kind ≠ b.kind then sgn (a.kind < b.kind) else if a.n ≠ b.n then sgn (a.n < b.n) else if a.s ≠ b.s then sgn (Op.bytesLess a.s b.s) else cmpL (cmpR d) a.l b.l
theorem cmpL_drop (f : Tm → Tm → Int) {a b : List Tm} {i : Nat} (ha : i < a.length) (hb : i < b.length) : cmpL f (a.drop i) (b.drop i) = if f a[i] b[i] ≠ 0 then f a[i] b[i] else cmpL f (a.drop (i + 1)) (b.drop (i + 1)) := by
  rw [List.drop_eq_getElem_cons ha, List.drop_eq_getElem_cons hb]
  rfl
theorem f120 (X : CallRel) : ∀ (deep : Nat) (a b : Tm), deep ≤ 6 → a.small → Run cfg X 120 [.agg a.cells, .agg b.cells, .int .i64 deep] m0 (.int .i64 (cmpR deep a b)) m0 := by
  intro deep
  induction deep with
  | zero =>
    intro a b hd hsm
    refine Run.fn [.tmp 6] [3] Tryz.func120 rfl (by simp [Tryz.ntmps120]) rfl rfl (by kernel_rfl) ?_
    simp [Tm.cells_eq]
    (first | (refine guardK_true ?_ ?_ <;> intro hg <;> ((have hg0 := hg); (try simp only [decide_eq_true_eq, decide_eq_false_iff_not, Bool.not_eq_true', Bool.not_eq_false', beq_iff_eq, beq_eq_false_iff_ne, bne_iff_ne, ne_eq, bne_eq_false_iff_eq, List.isEmpty_iff, List.isEmpty_eq_false_iff] at hg) <;> (try simp [hg0, hg]) <;> clear hg0) <;> (try (revert hg; intro _))) | (refine guardK_false ?_ ?_ <;> intro hg <;> ((have hg0 := hg); (try simp only [decide_eq_true_eq, decide_eq_false_iff_not, Bool.not_eq_true', Bool.not_eq_false', beq_iff_eq, beq_eq_false_iff_ne, bne_iff_ne, ne_eq, bne_eq_false_iff_eq, List.isEmpty_iff, List.isEmpty_eq_false_iff] at hg) <;> (try simp [hg0, hg]) <;> clear hg0) <;> (try (revert hg; intro _))) | (refine boolK_by ?_ ?_ <;> intro hg <;> ((have hg0 := hg); (try simp only [decide_eq_true_eq, decide_eq_false_iff_not, Bool.not_eq_true', Bool.not_eq_false', beq_iff_eq, beq_eq_false_iff_ne, bne_iff_ne, ne_eq, bne_eq_false_iff_eq, List.isEmpty_iff, List.isEmpty_eq_false_iff] at hg) <;> (try simp [hg0, hg]) <;> clear hg0) <;> (try (revert hg; intro _))))
    · refine runK_of (f191 X _) ?_
      simp [cmpR, *]
    (first | (refine guardK_true ?_ ?_ <;> intro hg <;> ((have hg0 := hg); (try simp only [decide_eq_true_eq, decide_eq_false_iff_not, Bool.not_eq_true', Bool.not_eq_false', beq_iff_eq, beq_eq_false_iff_ne, bne_iff_ne, ne_eq, bne_eq_false_iff_eq, List.isEmpty_iff, List.isEmpty_eq_false_iff] at hg) <;> (try simp [hg0, hg]) <;> clear hg0) <;> (try (revert hg; intro _))) | (refine guardK_false ?_ ?_ <;> intro hg <;> ((have hg0 := hg); (try simp only [decide_eq_true_eq, decide_eq_false_iff_not, Bool.not_eq_true', Bool.not_eq_false', beq_iff_eq, beq_eq_false_iff_ne, bne_iff_ne, ne_eq, bne_eq_false_iff_eq, List.isEmpty_iff, List.isEmpty_eq_false_iff] at hg) <;> (try simp [hg0, hg]) <;> clear hg0) <;> (try (revert hg; intro _))) | (refine boolK_by ?_ ?_ <;> intro hg <;> ((have hg0 := hg); (try simp only [decide_eq_true_eq, decide_eq_false_iff_not, Bool.not_eq_true', Bool.not_eq_false', beq_iff_eq, beq_eq_false_iff_ne, bne_iff_ne, ne_eq, bne_eq_false_iff_eq, List.isEmpty_iff, List.isEmpty_eq_false_iff] at hg) <;> (try simp [hg0, hg]) <;> clear hg0) <;> (try (revert hg; intro _))))
    · refine runK_of (f191 X _) ?_
      simp [cmpR, *]
    (first | (refine guardK_true ?_ ?_ <;> intro hg <;> ((have hg0 := hg); (try simp only [decide_eq_true_eq, decide_eq_false_iff_not, Bool.not_eq_true', Bool.not_eq_false', beq_iff_eq, beq_eq_false_iff_ne, bne_iff_ne, ne_eq, bne_eq_false_iff_eq, List.isEmpty_iff, List.isEmpty_eq_false_iff] at hg) <;> (try simp [hg0, hg]) <;> clear hg0) <;> (try (revert hg; intro _))) | (refine guardK_false ?_ ?_ <;> intro hg <;> ((have hg0 := hg); (try simp only [decide_eq_true_eq, decide_eq_false_iff_not, Bool.not_eq_true', Bool.not_eq_false', beq_iff_eq, beq_eq_false_iff_ne, bne_iff_ne, ne_eq, bne_eq_false_iff_eq, List.isEmpty_iff, List.isEmpty_eq_false_iff] at hg) <;> (try simp [hg0, hg]) <;> clear hg0) <;> (try (revert hg; intro _))) | (refine boolK_by ?_ ?_ <;> intro hg <;> ((have hg0 := hg); (try simp only [decide_eq_true_eq, decide_eq_false_iff_not, Bool.not_eq_true', Bool.not_eq_false', beq_iff_eq, beq_eq_false_iff_ne, bne_iff_ne, ne_eq, bne_eq_false_iff_eq, List.isEmpty_iff, List.isEmpty_eq_false_iff] at hg) <;> (try simp [hg0, hg]) <;> clear hg0) <;> (try (revert hg; intro _))))
    · refine runK_of (f191 X _) ?_
      simp [cmpR, *]
    simp [cmpR, *]
  | succ d ih =>
    intro a b hd hsm0
    have hsm := Tm.small_iff.1 hsm0
    refine Run.fn [.tmp 6] [3] Tryz.func120 rfl (by simp [Tryz.ntmps120]) rfl rfl (by kernel_rfl) ?_
    simp [Tm.cells_eq]
    (first | (refine guardK_true ?_ ?_ <;> intro hg <;> ((have hg0 := hg); (try simp only [decide_eq_true_eq, decide_eq_false_iff_not, Bool.not_eq_true', Bool.not_eq_false', beq_iff_eq, beq_eq_false_iff_ne, bne_iff_ne, ne_eq, bne_eq_false_iff_eq, List.isEmpty_iff, List.isEmpty_eq_false_iff] at hg) <;> (try simp [hg0, hg]) <;> clear hg0) <;> (try (revert hg; intro _))) | (refine guardK_false ?_ ?_ <;> intro hg <;> ((have hg0 := hg); (try simp only [decide_eq_true_eq, decide_eq_false_iff_not, Bool.not_eq_true', Bool.not_eq_false', beq_iff_eq, beq_eq_false_iff_ne, bne_iff_ne, ne_eq, bne_eq_false_iff_eq, List.isEmpty_iff, List.isEmpty_eq_false_iff] at hg) <;> (try simp [hg0, hg]) <;> clear hg0) <;> (try (revert hg; intro _))) | (refine boolK_by ?_ ?_ <;> intro hg <;> ((have hg0 := hg); (try simp only [decide_eq_true_eq, decide_eq_false_iff_not, Bool.not_eq_true', Bool.not_eq_false', beq_iff_eq, beq_eq_false_iff_ne, bne_iff_ne, ne_eq, bne_eq_false_iff_eq, List.isEmpty_iff, List.isEmpty_eq_false_iff] at hg) <;> (try simp [hg0, hg]) <;> clear hg0) <;> (try (revert hg; intro _))))
    · refine runK_of (f191 X _) ?_
      simp [cmpR, *]
    (first | (refine guardK_true ?_ ?_ <;> intro hg <;> ((have hg0 := hg); (try simp only [decide_eq_true_eq, decide_eq_false_iff_not, Bool.not_eq_true', Bool.not_eq_false', beq_iff_eq, beq_eq_false_iff_ne, bne_iff_ne, ne_eq, bne_eq_false_iff_eq, List.isEmpty_iff, List.isEmpty_eq_false_iff] at hg) <;> (try simp [hg0, hg]) <;> clear hg0) <;> (try (revert hg; intro _))) | (refine guardK_false ?_ ?_ <;> intro hg <;> ((have hg0 := hg); (try simp only [decide_eq_true_eq, decide_eq_false_iff_not, Bool.not_eq_true', Bool.not_eq_false', beq_iff_eq, beq_eq_false_iff_ne, bne_iff_ne, ne_eq, bne_eq_false_iff_eq, List.isEmpty_iff, List.isEmpty_eq_false_iff] at hg) <;> (try simp [hg0, hg]) <;> clear hg0) <;> (try (revert hg; intro _))) | (refine boolK_by ?_ ?_ <;> intro hg <;> ((have hg0 := hg); (try simp only [decide_eq_true_eq, decide_eq_false_iff_not, Bool.not_eq_true', Bool.not_eq_false', beq_iff_eq, beq_eq_false_iff_ne, bne_iff_ne, ne_eq, bne_eq_false_iff_eq, List.isEmpty_iff, List.isEmpty_eq_false_iff] at hg) <;> (try simp [hg0, hg]) <;> clear hg0) <;> (try (revert hg; intro _))))
    · refine runK_of (f191 X _) ?_
      simp [cmpR, *]
    (first | (refine guardK_true ?_ ?_ <;> intro hg <;> ((have hg0 := hg); (try simp only [decide_eq_true_eq, decide_eq_false_iff_not, Bool.not_eq_true', Bool.not_eq_false', beq_iff_eq, beq_eq_false_iff_ne, bne_iff_ne, ne_eq, bne_eq_false_iff_eq, List.isEmpty_iff, List.isEmpty_eq_false_iff] at hg) <;> (try simp [hg0, hg]) <;> clear hg0) <;> (try (revert hg; intro _))) | (refine guardK_false ?_ ?_ <;> intro hg <;> ((have hg0 := hg); (try simp only [decide_eq_true_eq, decide_eq_false_iff_not, Bool.not_eq_true', Bool.not_eq_false', beq_iff_eq, beq_eq_false_iff_ne, bne_iff_ne, ne_eq, bne_eq_false_iff_eq, List.isEmpty_iff, List.isEmpty_eq_false_iff] at hg) <;> (try simp [hg0, hg]) <;> clear hg0) <;> (try (revert hg; intro _))) | (refine boolK_by ?_ ?_ <;> intro hg <;> ((have hg0 := hg); (try simp only [decide_eq_true_eq, decide_eq_false_iff_not, Bool.not_eq_true', Bool.not_eq_false', beq_iff_eq, beq_eq_false_iff_ne, bne_iff_ne, ne_eq, bne_eq_false_iff_eq, List.isEmpty_iff, List.isEmpty_eq_false_iff] at hg) <;> (try simp [hg0, hg]) <;> clear hg0) <;> (try (revert hg; intro _))))
    · refine runK_of (f191 X _) ?_
      simp [cmpR, *]
    (first | (refine guardK_true ?_ ?_ <;> intro hg <;> ((have hg0 := hg); (try simp only [decide_eq_true_eq, decide_eq_false_iff_not, Bool.not_eq_true', Bool.not_eq_false', beq_iff_eq, beq_eq_false_iff_ne, bne_iff_ne, ne_eq, bne_eq_false_iff_eq, List.isEmpty_iff, List.isEmpty_eq_false_iff] at hg) <;> (try simp [hg0, hg]) <;> clear hg0) <;> (try (revert hg; intro _))) | (refine guardK_false ?_ ?_ <;> intro hg <;> ((have hg0 := hg); (try simp only [decide_eq_true_eq, decide_eq_false_iff_not, Bool.not_eq_true', Bool.not_eq_false', beq_iff_eq, beq_eq_false_iff_ne, bne_iff_ne, ne_eq, bne_eq_false_iff_eq, List.isEmpty_iff, List.isEmpty_eq_false_iff] at hg) <;> (try simp [hg0, hg]) <;> clear hg0) <;> (try (revert hg; intro _))) | (refine boolK_by ?_ ?_ <;> intro hg <;> ((have hg0 := hg); (try simp only [decide_eq_true_eq, decide_eq_false_iff_not, Bool.not_eq_true', Bool.not_eq_false', beq_iff_eq, beq_eq_false_iff_ne, bne_iff_ne, ne_eq, bne_eq_false_iff_eq, List.isEmpty_iff, List.isEmpty_eq_false_iff] at hg) <;> (try simp [hg0, hg]) <;> clear hg0) <;> (try (revert hg; intro _))))
    · omega
    refine wp_loop (fun n s => ∃ i : Nat, n = a.l.length - i ∧ i ≤ a.l.length ∧ i ≤ b.l.length ∧ cmpL (cmpR d) a.l b.l = cmpL (cmpR d) (a.l.drop i) (b.l.drop i) ∧
      s = ⟨[(52, .int .i64 i), (51, .int .i64 a.l.length), (50, .sl (a.l.map Tm.cells)), (3, .ptr 0 0), (4, .ptr 1 0), (2, .int .i64 (d + 1))], ⟨[[.int .i64 a.kind, .int .i64 a.n, .str (bs a.s), .sl (a.l.map Tm.cells)], [.int .i64 b.kind, .int .i64 b.n, .str (bs b.s), .sl (b.l.map Tm.cells)]], [], [], []⟩⟩)
      { env := [52, 51, 50, 3, 4, 2] } a.l.length ⟨0, by simp, by simp, by simp, by simp, by simp [*]⟩ ?_
    rintro n s ⟨i, rfl, hi, hib, hc, rfl⟩
    simp
    (first | (refine guardK_true ?_ ?_ <;> intro hg <;> ((have hg0 := hg); (try simp only [decide_eq_true_eq, decide_eq_false_iff_not, Bool.not_eq_true', Bool.not_eq_false', beq_iff_eq, beq_eq_false_iff_ne, bne_iff_ne, ne_eq, bne_eq_false_iff_eq, List.isEmpty_iff, List.isEmpty_eq_false_iff] at hg) <;> (try simp [hg0, hg]) <;> clear hg0) <;> (try (revert hg; intro _))) | (refine guardK_false ?_ ?_ <;> intro hg <;> ((have hg0 := hg); (try simp only [decide_eq_true_eq, decide_eq_false_iff_not, Bool.not_eq_true', Bool.not_eq_false', beq_iff_eq, beq_eq_false_iff_ne, bne_iff_ne, ne_eq, bne_eq_false_iff_eq, List.isEmpty_iff, List.isEmpty_eq_false_iff] at hg) <;> (try simp [hg0, hg]) <;> clear hg0) <;> (try (revert hg; intro _))) | (refine boolK_by ?_ ?_ <;> intro hg <;> ((have hg0 := hg); (try simp only [decide_eq_true_eq, decide_eq_false_iff_not, Bool.not_eq_true', Bool.not_eq_false', beq_iff_eq, beq_eq_false_iff_ne, bne_iff_ne, ne_eq, bne_eq_false_iff_eq, List.isEmpty_iff, List.isEmpty_eq_false_iff] at hg) <;> (try simp [hg0, hg]) <;> clear hg0) <;> (try (revert hg; intro _))))
    · simp [Tm.cells_eq]
      (first | (refine guardK_true ?_ ?_ <;> intro hg <;> ((have hg0 := hg); (try simp only [decide_eq_true_eq, decide_eq_false_iff_not, Bool.not_eq_true', Bool.not_eq_false', beq_iff_eq, beq_eq_false_iff_ne, bne_iff_ne, ne_eq, bne_eq_false_iff_eq, List.isEmpty_iff, List.isEmpty_eq_false_iff] at hg) <;> (try simp [hg0, hg]) <;> clear hg0) <;> (try (revert hg; intro _))) | (refine guardK_false ?_ ?_ <;> intro hg <;> ((have hg0 := hg); (try simp only [decide_eq_true_eq, decide_eq_false_iff_not, Bool.not_eq_true', Bool.not_eq_false', beq_iff_eq, beq_eq_false_iff_ne, bne_iff_ne, ne_eq, bne_eq_false_iff_eq, List.isEmpty_iff, List.isEmpty_eq_false_iff] at hg) <;> (try simp [hg0, hg]) <;> clear hg0) <;> (try (revert hg; intro _))) | (refine boolK_by ?_ ?_ <;> intro hg <;> ((have hg0 := hg); (try simp only [decide_eq_true_eq, decide_eq_false_iff_not, Bool.not_eq_true', Bool.not_eq_false', beq_iff_eq, beq_eq_false_iff_ne, bne_iff_ne, ne_eq, bne_eq_false_iff_eq, List.isEmpty_iff, List.isEmpty_eq_false_iff] at hg) <;> (try simp [hg0, hg]) <;> clear hg0) <;> (try (revert hg; intro _))))
      · rename_i h1 h2
        have e1 : b.l.drop i = [] := List.drop_eq_nil_of_le h2
        have e2 : cmpL (cmpR d) a.l b.l = 1 := by rw [hc, e1, List.drop_eq_getElem_cons h1]; rfl
        simp [cmpR, ‹a.kind = b.kind›, ‹a.n = b.n›, ‹a.s = b.s›, e2]
      · have hib' : i < b.l.length := by omega
        have hia' : i < a.l.length := by omega
        rw [cmpL_drop _ hia' hib'] at hc
        simp [hib', Tm.cells_eq, wrap64_id (n := (d : Int)) (by omega) (by omega)]
        refine runK_of (by simpa [Tm.cells_eq] using ih a.l[i] b.l[i] (by omega) (hsm.2.2 _ (List.getElem_mem _))) ?_
        simp
        refine ⟨by kernel_rfl, ?_⟩
        (first | (refine guardK_true ?_ ?_ <;> intro hg <;> ((have hg0 := hg); (try simp only [decide_eq_true_eq, decide_eq_false_iff_not, Bool.not_eq_true', Bool.not_eq_false', beq_iff_eq, beq_eq_false_iff_ne, bne_iff_ne, ne_eq, bne_eq_false_iff_eq, List.isEmpty_iff, List.isEmpty_eq_false_iff] at hg) <;> (try simp [hg0, hg]) <;> clear hg0) <;> (try (revert hg; intro _))) | (refine guardK_false ?_ ?_ <;> intro hg <;> ((have hg0 := hg); (try simp only [decide_eq_true_eq, decide_eq_false_iff_not, Bool.not_eq_true', Bool.not_eq_false', beq_iff_eq, beq_eq_false_iff_ne, bne_iff_ne, ne_eq, bne_eq_false_iff_eq, List.isEmpty_iff, List.isEmpty_eq_false_iff] at hg) <;> (try simp [hg0, hg]) <;> clear hg0) <;> (try (revert hg; intro _))) | (refine boolK_by ?_ ?_ <;> intro hg <;> ((have hg0 := hg); (try simp only [decide_eq_true_eq, decide_eq_false_iff_not, Bool.not_eq_true', Bool.not_eq_false', beq_iff_eq, beq_eq_false_iff_ne, bne_iff_ne, ne_eq, bne_eq_false_iff_eq, List.isEmpty_iff, List.isEmpty_eq_false_iff] at hg) <;> (try simp [hg0, hg]) <;> clear hg0) <;> (try (revert hg; intro _))))
        · rename_i h3
          simp [cmpR, *]
        · rename_i h3
          refine loopK_back { env := [52, 51, 50, 3, 4, 2] } (a.l.length - (i + 1)) (by omega) ⟨i + 1, rfl, by omega, by omega, by rw [hc]; simp [h3], ?_⟩
          simp [wrap64_id (n := (i : Int) + 1) (by omega) (by omega), *]
    · rename_i h1
      have hi' : i = a.l.length := by omega
      subst hi'
      rw [List.drop_length] at hc
      (first | (refine guardK_true ?_ ?_ <;> intro hg <;> ((have hg0 := hg); (try simp only [decide_eq_true_eq, decide_eq_false_iff_not, Bool.not_eq_true', Bool.not_eq_false', beq_iff_eq, beq_eq_false_iff_ne, bne_iff_ne, ne_eq, bne_eq_false_iff_eq, List.isEmpty_iff, List.isEmpty_eq_false_iff] at hg) <;> (try simp [hg0, hg]) <;> clear hg0) <;> (try (revert hg; intro _))) | (refine guardK_false ?_ ?_ <;> intro hg <;> ((have hg0 := hg); (try simp only [decide_eq_true_eq, decide_eq_false_iff_not, Bool.not_eq_true', Bool.not_eq_false', beq_iff_eq, beq_eq_false_iff_ne, bne_iff_ne, ne_eq, bne_eq_false_iff_eq, List.isEmpty_iff, List.isEmpty_eq_false_iff] at hg) <;> (try simp [hg0, hg]) <;> clear hg0) <;> (try (revert hg; intro _))) | (refine boolK_by ?_ ?_ <;> intro hg <;> ((have hg0 := hg); (try simp only [decide_eq_true_eq, decide_eq_false_iff_not, Bool.not_eq_true', Bool.not_eq_false', beq_iff_eq, beq_eq_false_iff_ne, bne_iff_ne, ne_eq, bne_eq_false_iff_eq, List.isEmpty_iff, List.isEmpty_eq_false_iff] at hg) <;> (try simp [hg0, hg]) <;> clear hg0) <;> (try (revert hg; intro _))))
      · rename_i h2
        obtain ⟨y, q, hy⟩ : ∃ y q, b.l.drop a.l.length = y :: q := ⟨_, _, List.drop_eq_getElem_cons h2⟩
        have e2 : cmpL (cmpR d) a.l b.l = -1 := by rw [hc, hy]; rfl
        simp [cmpR, ‹a.kind = b.kind›, ‹a.n = b.n›, ‹a.s = b.s›, e2]
      · rename_i h2
        have e2 : cmpL (cmpR d) a.l b.l = 0 := by rw [hc, List.drop_eq_nil_of_le (by omega)]; rfl
        simp [cmpR, ‹a.kind = b.kind›, ‹a.n = b.n›, ‹a.s = b.s›, e2]
theorem f63 (X : CallRel) (a b : Tm) (h : a.small) : Run cfg X 63 [.agg a.cells, .agg b.cells] m0 (.int .i64 (cmpR 3 a b)) m0 := by
  refine Run.fn [.tmp 4] [3] Tryz.func63 rfl (by simp [Tryz.ntmps63]) rfl rfl (by kernel_rfl) ?_
  simp [Tm.cells_eq]
  refine runK_of (by simpa [Tm.cells_eq] using f120 X 3 a b (by omega) h) ?_
  simp
theorem f24 (X : CallRel) (a b : Tm) (h : a.small) : Run cfg X 24 [.agg a.cells, .agg b.cells] m0 (.bool (cmpR 3 a b == 0)) m0 := by
  refine Run.fn [.tmp 4] [4] Tryz.func24 rfl (by simp [Tryz.ntmps24]) rfl rfl (by kernel_rfl) ?_
  simp [Tm.cells_eq]
  refine runK_of (by simpa [Tm.cells_eq] using f63 X a b h) ?_
  simp
end Go.Vm

namespace Go.Vm
open Go Go.Proofs
def byteI (l : S) (i : Nat) : Int := ((l.getD i 0).toNat : Int)
def nameR (l : S) : Bool := if (l.length : Int) < 1 then false else if 32 < (l.length : Int) then false else if letterB ((l[0]?.getD 0).toNat : Int) = false then false else
  if 4 ≤ (l.length : Int) ∧ l.take 4 = [104, 101, 120, 58] then false else l.all fun c => innerB (c.toNat : Int)
theorem all_drop {α : Type} (p : α → Bool) {l : List α} {i : Nat} (h : i < l.length) : (l.drop i).all p = (p l[i] && (l.drop (i + 1)).all p) := by
  rw [List.drop_eq_getElem_cons h]
  rfl
theorem f61 (X : CallRel) (l : S) : Run cfg X 61 [.str (bs l)] m0 (.bool (nameR l)) m0 := by
  refine Run.fn [.tmp 2] [4] Tryz.func61 rfl (by simp [Tryz.ntmps61]) rfl rfl (by kernel_rfl) ?_
  simp
  (first | (refine guardK_true ?_ ?_ <;> intro hg <;> ((have hg0 := hg); (try simp only [decide_eq_true_eq, decide_eq_false_iff_not, Bool.not_eq_true', Bool.not_eq_false', beq_iff_eq, beq_eq_false_iff_ne, bne_iff_ne, ne_eq, bne_eq_false_iff_eq, List.isEmpty_iff, List.isEmpty_eq_false_iff] at hg) <;> (try simp [hg0, hg]) <;> clear hg0) <;> (try (revert hg; intro _))) | (refine guardK_false ?_ ?_ <;> intro hg <;> ((have hg0 := hg); (try simp only [decide_eq_true_eq, decide_eq_false_iff_not, Bool.not_eq_true', Bool.not_eq_false', beq_iff_eq, beq_eq_false_iff_ne, bne_iff_ne, ne_eq, bne_eq_false_iff_eq, List.isEmpty_iff, List.isEmpty_eq_false_iff] at hg) <;> (try simp [hg0, hg]) <;> clear hg0) <;> (try (revert hg; intro _))) | (refine boolK_by ?_ ?_ <;> intro hg <;> ((have hg0 := hg); (try simp only [decide_eq_true_eq, decide_eq_false_iff_not, Bool.not_eq_true', Bool.not_eq_false', beq_iff_eq, beq_eq_false_iff_ne, bne_iff_ne, ne_eq, bne_eq_false_iff_eq, List.isEmpty_iff, List.isEmpty_eq_false_iff] at hg) <;> (try simp [hg0, hg]) <;> clear hg0) <;> (try (revert hg; intro _))))
  · simp [nameR, *]
  (first | (refine guardK_true ?_ ?_ <;> intro hg <;> ((have hg0 := hg); (try simp only [decide_eq_true_eq, decide_eq_false_iff_not, Bool.not_eq_true', Bool.not_eq_false', beq_iff_eq, beq_eq_false_iff_ne, bne_iff_ne, ne_eq, bne_eq_false_iff_eq, List.isEmpty_iff, List.isEmpty_eq_false_iff] at hg) <;> (try simp [hg0, hg]) <;> clear hg0) <;> (try (revert hg; intro _))) | (refine guardK_false ?_ ?_ <;> intro hg <;> ((have hg0 := hg); (try simp only [decide_eq_true_eq, decide_eq_false_iff_not, Bool.not_eq_true', Bool.not_eq_false', beq_iff_eq, beq_eq_false_iff_ne, bne_iff_ne, ne_eq, bne_eq_false_iff_eq, List.isEmpty_iff, List.isEmpty_eq_false_iff] at hg) <;> (try simp [hg0, hg]) <;> clear hg0) <;> (try (revert hg; intro _))) | (refine boolK_by ?_ ?_ <;> intro hg <;> ((have hg0 := hg); (try simp only [decide_eq_true_eq, decide_eq_false_iff_not, Bool.not_eq_true', Bool.not_eq_false', beq_iff_eq, beq_eq_false_iff_ne, bne_iff_ne, ne_eq, bne_eq_false_iff_eq, List.isEmpty_iff, List.isEmpty_eq_false_iff] at hg) <;> (try simp [hg0, hg]) <;> clear hg0) <;> (try (revert hg; intro _))))
  · simp [nameR, *]
  refine ⟨by omega, ?_⟩
  refine runK_of (f118 X _) ?_
  simp
  (first | (refine guardK_true ?_ ?_ <;> intro hg <;> ((have hg0 := hg); (try simp only [decide_eq_true_eq, decide_eq_false_iff_not, Bool.not_eq_true', Bool.not_eq_false', beq_iff_eq, beq_eq_false_iff_ne, bne_iff_ne, ne_eq, bne_eq_false_iff_eq, List.isEmpty_iff, List.isEmpty_eq_false_iff] at hg) <;> (try simp [hg0, hg]) <;> clear hg0) <;> (try (revert hg; intro _))) | (refine guardK_false ?_ ?_ <;> intro hg <;> ((have hg0 := hg); (try simp only [decide_eq_true_eq, decide_eq_false_iff_not, Bool.not_eq_true', Bool.not_eq_false', beq_iff_eq, beq_eq_false_iff_ne, bne_iff_ne, ne_eq, bne_eq_false_iff_eq, List.isEmpty_iff, List.isEmpty_eq_false_iff] at hg) <;> (try simp [hg0, hg]) <;> clear hg0) <;> (try (revert hg; intro _))) | (refine boolK_by ?_ ?_ <;> intro hg <;> ((have hg0 := hg); (try simp only [decide_eq_true_eq, decide_eq_false_iff_not, Bool.not_eq_true', Bool.not_eq_false', beq_iff_eq, beq_eq_false_iff_ne, bne_iff_ne, ne_eq, bne_eq_false_iff_eq, List.isEmpty_iff, List.isEmpty_eq_false_iff] at hg) <;> (try simp [hg0, hg]) <;> clear hg0) <;> (try (revert hg; intro _))))
  · simp [nameR, *]
  (first | (refine guardK_true ?_ ?_ <;> intro hg <;> ((have hg0 := hg); (try simp only [decide_eq_true_eq, decide_eq_false_iff_not, Bool.not_eq_true', Bool.not_eq_false', beq_iff_eq, beq_eq_false_iff_ne, bne_iff_ne, ne_eq, bne_eq_false_iff_eq, List.isEmpty_iff, List.isEmpty_eq_false_iff] at hg) <;> (try simp [hg0, hg]) <;> clear hg0) <;> (try (revert hg; intro _))) | (refine guardK_false ?_ ?_ <;> intro hg <;> ((have hg0 := hg); (try simp only [decide_eq_true_eq, decide_eq_false_iff_not, Bool.not_eq_true', Bool.not_eq_false', beq_iff_eq, beq_eq_false_iff_ne, bne_iff_ne, ne_eq, bne_eq_false_iff_eq, List.isEmpty_iff, List.isEmpty_eq_false_iff] at hg) <;> (try simp [hg0, hg]) <;> clear hg0) <;> (try (revert hg; intro _))) | (refine boolK_by ?_ ?_ <;> intro hg <;> ((have hg0 := hg); (try simp only [decide_eq_true_eq, decide_eq_false_iff_not, Bool.not_eq_true', Bool.not_eq_false', beq_iff_eq, beq_eq_false_iff_ne, bne_iff_ne, ne_eq, bne_eq_false_iff_eq, List.isEmpty_iff, List.isEmpty_eq_false_iff] at hg) <;> (try simp [hg0, hg]) <;> clear hg0) <;> (try (revert hg; intro _))))
  any_goals (first | (refine guardK_true ?_ ?_ <;> intro hg <;> ((have hg0 := hg); (try simp only [decide_eq_true_eq, decide_eq_false_iff_not, Bool.not_eq_true', Bool.not_eq_false', beq_iff_eq, beq_eq_false_iff_ne, bne_iff_ne, ne_eq, bne_eq_false_iff_eq, List.isEmpty_iff, List.isEmpty_eq_false_iff] at hg) <;> (try simp [hg0, hg]) <;> clear hg0) <;> (try (revert hg; intro _))) | (refine guardK_false ?_ ?_ <;> intro hg <;> ((have hg0 := hg); (try simp only [decide_eq_true_eq, decide_eq_false_iff_not, Bool.not_eq_true', Bool.not_eq_false', beq_iff_eq, beq_eq_false_iff_ne, bne_iff_ne, ne_eq, bne_eq_false_iff_eq, List.isEmpty_iff, List.isEmpty_eq_false_iff] at hg) <;> (try simp [hg0, hg]) <;> clear hg0) <;> (try (revert hg; intro _))) | (refine boolK_by ?_ ?_ <;> intro hg <;> ((have hg0 := hg); (try simp only [decide_eq_true_eq, decide_eq_false_iff_not, Bool.not_eq_true', Bool.not_eq_false', beq_iff_eq, beq_eq_false_iff_ne, bne_iff_ne, ne_eq, bne_eq_false_iff_eq, List.isEmpty_iff, List.isEmpty_eq_false_iff] at hg) <;> (try simp [hg0, hg]) <;> clear hg0) <;> (try (revert hg; intro _))))
  any_goals (simp [nameR, *]; done)
  all_goals
    have hspec : nameR l = l.all fun c => innerB (c.toNat : Int) := by simp [nameR, *]
    refine wp_loop (fun n s => ∃ i : Nat, n = l.length - i ∧ i ≤ l.length ∧ (l.all fun c => innerB (c.toNat : Int)) = ((l.drop i).all fun c => innerB (c.toNat : Int)) ∧ s = ⟨[(30, .int .i64 i), (29, .int .i64 l.length), (2, .bool false), (0, .str (bs l))], m0⟩)
      { env := [30, 29, 2, 0] } l.length ⟨0, by simp, by simp, by simp, by simp⟩ ?_
    rintro n s ⟨i, rfl, hi, hall, rfl⟩
    simp
    (first | (refine guardK_true ?_ ?_ <;> intro hg <;> ((have hg0 := hg); (try simp only [decide_eq_true_eq, decide_eq_false_iff_not, Bool.not_eq_true', Bool.not_eq_false', beq_iff_eq, beq_eq_false_iff_ne, bne_iff_ne, ne_eq, bne_eq_false_iff_eq, List.isEmpty_iff, List.isEmpty_eq_false_iff] at hg) <;> (try simp [hg0, hg]) <;> clear hg0) <;> (try (revert hg; intro _))) | (refine guardK_false ?_ ?_ <;> intro hg <;> ((have hg0 := hg); (try simp only [decide_eq_true_eq, decide_eq_false_iff_not, Bool.not_eq_true', Bool.not_eq_false', beq_iff_eq, beq_eq_false_iff_ne, bne_iff_ne, ne_eq, bne_eq_false_iff_eq, List.isEmpty_iff, List.isEmpty_eq_false_iff] at hg) <;> (try simp [hg0, hg]) <;> clear hg0) <;> (try (revert hg; intro _))) | (refine boolK_by ?_ ?_ <;> intro hg <;> ((have hg0 := hg); (try simp only [decide_eq_true_eq, decide_eq_false_iff_not, Bool.not_eq_true', Bool.not_eq_false', beq_iff_eq, beq_eq_false_iff_ne, bne_iff_ne, ne_eq, bne_eq_false_iff_eq, List.isEmpty_iff, List.isEmpty_eq_false_iff] at hg) <;> (try simp [hg0, hg]) <;> clear hg0) <;> (try (revert hg; intro _))))
    · rename_i hlt
      rw [all_drop _ hlt] at hall
      refine runK_of (by simpa using f119 X _) ?_
      simp
      (first | (refine guardK_true ?_ ?_ <;> intro hg <;> ((have hg0 := hg); (try simp only [decide_eq_true_eq, decide_eq_false_iff_not, Bool.not_eq_true', Bool.not_eq_false', beq_iff_eq, beq_eq_false_iff_ne, bne_iff_ne, ne_eq, bne_eq_false_iff_eq, List.isEmpty_iff, List.isEmpty_eq_false_iff] at hg) <;> (try simp [hg0, hg]) <;> clear hg0) <;> (try (revert hg; intro _))) | (refine guardK_false ?_ ?_ <;> intro hg <;> ((have hg0 := hg); (try simp only [decide_eq_true_eq, decide_eq_false_iff_not, Bool.not_eq_true', Bool.not_eq_false', beq_iff_eq, beq_eq_false_iff_ne, bne_iff_ne, ne_eq, bne_eq_false_iff_eq, List.isEmpty_iff, List.isEmpty_eq_false_iff] at hg) <;> (try simp [hg0, hg]) <;> clear hg0) <;> (try (revert hg; intro _))) | (refine boolK_by ?_ ?_ <;> intro hg <;> ((have hg0 := hg); (try simp only [decide_eq_true_eq, decide_eq_false_iff_not, Bool.not_eq_true', Bool.not_eq_false', beq_iff_eq, beq_eq_false_iff_ne, bne_iff_ne, ne_eq, bne_eq_false_iff_eq, List.isEmpty_iff, List.isEmpty_eq_false_iff] at hg) <;> (try simp [hg0, hg]) <;> clear hg0) <;> (try (revert hg; intro _))))
      · simp [hspec, hall, *]
      · refine loopK_back { env := [30, 29, 2, 0] } (l.length - (i + 1)) (by omega) ⟨i + 1, rfl, by omega, by simp [hall, *], ?_⟩
        simp [wrap64_id (n := (i : Int) + 1) (by omega) (by omega)]
    · obtain rfl : i = l.length := by omega
      rw [hspec, hall, List.drop_length]
      rfl
end Go.Vm

namespace Go.Vm
open Go Go.Proofs
def mayFlat (t : Tm) : Bool :=
  if t.kind = 1 then (if nameR t.s = true then if t.n = 0 then ((t.l.length : Int) == 0) else false else false)
  else if t.kind = 2 then (if t.s = [] then ((t.l.length : Int) == 0) else false)
  else if t.kind = 3 ∨ t.kind = 5 then (if (t.s.length : Int) ≤ 256 then if t.n = 0 then ((t.l.length : Int) == 0) else false else false)
  else if t.kind = 4 then (if 0 ≤ t.n then if t.n ≤ 253402300799 then if t.s = [] then ((t.l.length : Int) == 0) else false else false else false)
  else if t.kind = 6 then (if t.n = 0 ∨ t.n = 1 then if t.s = [] then ((t.l.length : Int) == 0) else false else false)
  else false
def setOk (k : Int) : Option Tm → List Tm → Bool
  | _, [] => true
  | p, x :: r => if x.kind = 1 then false else if x.kind = 7 then false else if mayFlat x = false then false else
    match p with
    | none => setOk k (some x) r
    | some y => if x.kind ≠ k then false else if 0 ≤ cmpR 3 y x then false else setOk k (some x) r
def maySetR (t : Tm) : Bool := if t.n ≠ 0 then false else if t.s ≠ [] then false else if 16 < (t.l.length : Int) then false else setOk ((t.l[0]?.map Tm.kind).getD 0) none t.l
def mayR (t : Tm) : Bool := if t.kind = 7 then maySetR t else mayFlat t
theorem f23' (X : CallRel) (t : Tm) (h : t.kind = 7 → Run cfg X 62 [.agg t.cells] m0 (.bool (maySetR t)) m0) : Run cfg X 23 [.agg t.cells] m0 (.bool (mayR t)) m0 := by
  refine Run.fn [.tmp 2] [4] Tryz.func23 rfl (by simp [Tryz.ntmps23]) rfl rfl (by kernel_rfl) ?_
  simp [Tm.cells_eq]
  (first | (refine guardK_true ?_ ?_ <;> intro hg <;> ((have hg0 := hg); (try simp only [decide_eq_true_eq, decide_eq_false_iff_not, Bool.not_eq_true', Bool.not_eq_false', beq_iff_eq, beq_eq_false_iff_ne, bne_iff_ne, ne_eq, bne_eq_false_iff_eq, List.isEmpty_iff, List.isEmpty_eq_false_iff] at hg) <;> (try simp [hg0, hg]) <;> clear hg0) <;> (try (revert hg; intro _))) | (refine guardK_false ?_ ?_ <;> intro hg <;> ((have hg0 := hg); (try simp only [decide_eq_true_eq, decide_eq_false_iff_not, Bool.not_eq_true', Bool.not_eq_false', beq_iff_eq, beq_eq_false_iff_ne, bne_iff_ne, ne_eq, bne_eq_false_iff_eq, List.isEmpty_iff, List.isEmpty_eq_false_iff] at hg) <;> (try simp [hg0, hg]) <;> clear hg0) <;> (try (revert hg; intro _))) | (refine boolK_by ?_ ?_ <;> intro hg <;> ((have hg0 := hg); (try simp only [decide_eq_true_eq, decide_eq_false_iff_not, Bool.not_eq_true', Bool.not_eq_false', beq_iff_eq, beq_eq_false_iff_ne, bne_iff_ne, ne_eq, bne_eq_false_iff_eq, List.isEmpty_iff, List.isEmpty_eq_false_iff] at hg) <;> (try simp [hg0, hg]) <;> clear hg0) <;> (try (revert hg; intro _))))
  · refine runK_of (f61 X _) ?_
    simp
    (repeat' (first | (first | (refine guardK_true ?_ ?_ <;> intro hg <;> ((have hg0 := hg); (try simp only [decide_eq_true_eq, decide_eq_false_iff_not, Bool.not_eq_true', Bool.not_eq_false', beq_iff_eq, beq_eq_false_iff_ne, bne_iff_ne, ne_eq, bne_eq_false_iff_eq, List.isEmpty_iff, List.isEmpty_eq_false_iff] at hg) <;> (try simp [hg0, hg]) <;> clear hg0) <;> (try (revert hg; intro _))) | (refine guardK_false ?_ ?_ <;> intro hg <;> ((have hg0 := hg); (try simp only [decide_eq_true_eq, decide_eq_false_iff_not, Bool.not_eq_true', Bool.not_eq_false', beq_iff_eq, beq_eq_false_iff_ne, bne_iff_ne, ne_eq, bne_eq_false_iff_eq, List.isEmpty_iff, List.isEmpty_eq_false_iff] at hg) <;> (try simp [hg0, hg]) <;> clear hg0) <;> (try (revert hg; intro _))) | (refine boolK_by ?_ ?_ <;> intro hg <;> ((have hg0 := hg); (try simp only [decide_eq_true_eq, decide_eq_false_iff_not, Bool.not_eq_true', Bool.not_eq_false', beq_iff_eq, beq_eq_false_iff_ne, bne_iff_ne, ne_eq, bne_eq_false_iff_eq, List.isEmpty_iff, List.isEmpty_eq_false_iff] at hg) <;> (try simp [hg0, hg]) <;> clear hg0) <;> (try (revert hg; intro _)))) | (refine And.intro ?_ ?_; (first | assumption | omega | kernel_rfl); try simp)))
    all_goals (simp [mayR, mayFlat, *]; done)
  (repeat' (first | (first | (refine guardK_true ?_ ?_ <;> intro hg <;> ((have hg0 := hg); (try simp only [decide_eq_true_eq, decide_eq_false_iff_not, Bool.not_eq_true', Bool.not_eq_false', beq_iff_eq, beq_eq_false_iff_ne, bne_iff_ne, ne_eq, bne_eq_false_iff_eq, List.isEmpty_iff, List.isEmpty_eq_false_iff] at hg) <;> (try simp [hg0, hg]) <;> clear hg0) <;> (try (revert hg; intro _))) | (refine guardK_false ?_ ?_ <;> intro hg <;> ((have hg0 := hg); (try simp only [decide_eq_true_eq, decide_eq_false_iff_not, Bool.not_eq_true', Bool.not_eq_false', beq_iff_eq, beq_eq_false_iff_ne, bne_iff_ne, ne_eq, bne_eq_false_iff_eq, List.isEmpty_iff, List.isEmpty_eq_false_iff] at hg) <;> (try simp [hg0, hg]) <;> clear hg0) <;> (try (revert hg; intro _))) | (refine boolK_by ?_ ?_ <;> intro hg <;> ((have hg0 := hg); (try simp only [decide_eq_true_eq, decide_eq_false_iff_not, Bool.not_eq_true', Bool.not_eq_false', beq_iff_eq, beq_eq_false_iff_ne, bne_iff_ne, ne_eq, bne_eq_false_iff_eq, List.isEmpty_iff, List.isEmpty_eq_false_iff] at hg) <;> (try simp [hg0, hg]) <;> clear hg0) <;> (try (revert hg; intro _)))) | (refine And.intro ?_ ?_; (first | assumption | omega | kernel_rfl); try simp)))
  all_goals first
    | (simp [mayR, mayFlat, *]; done)
    | skip
  have h7 : t.kind = 7 := by assumption
  refine runK_of (by simpa [Tm.cells_eq, h7] using h h7) ?_
  simp [mayR, *]
def prevOf (l : List Tm) (i : Nat) : Option Tm := if i = 0 then none else l[i - 1]?
theorem setOk_drop (k : Int) {l : List Tm} {i : Nat} (h : i < l.length) : setOk k (prevOf l i) (l.drop i) = (if l[i].kind = 1 then false else if l[i].kind = 7 then false else if mayFlat l[i] = false then false else
    if 0 < (i : Int) then if l[i].kind ≠ k then false else if 0 ≤ cmpR 3 (l[i - 1]'(by omega)) l[i] then false else setOk k (prevOf l (i + 1)) (l.drop (i + 1)) else setOk k (prevOf l (i + 1)) (l.drop (i + 1))) := by
  have e : prevOf l (i + 1) = some l[i] := by simp [prevOf, h]
  rw [List.drop_eq_getElem_cons h, e]
  cases i with
  | zero => simp [prevOf, setOk]
  | succ j =>
    have e2 : prevOf l (j + 1) = some l[j] := by simp [prevOf, show j < l.length by omega]
    rw [e2]
    have : (0 : Int) < ((j + 1 : Nat) : Int) := by omega
    simp [setOk]
theorem f62 (X : CallRel) (t : Tm) (hsm0 : t.small) : Run cfg X 62 [.agg t.cells] m0 (.bool (maySetR t)) m0 := by
  have hsm := Tm.small_iff.1 hsm0
  refine Run.fn [.tmp 2] [4] Tryz.func62 rfl (by simp [Tryz.ntmps62]) rfl rfl (by kernel_rfl) ?_
  simp [Tm.cells_eq]
  (repeat' (first | (first | (refine guardK_true ?_ ?_ <;> intro hg <;> ((have hg0 := hg); (try simp only [decide_eq_true_eq, decide_eq_false_iff_not, Bool.not_eq_true', Bool.not_eq_false', beq_iff_eq, beq_eq_false_iff_ne, bne_iff_ne, ne_eq, bne_eq_false_iff_eq, List.isEmpty_iff, List.isEmpty_eq_false_iff] at hg) <;> (try simp [hg0, hg]) <;> clear hg0) <;> (try (revert hg; intro _))) | (refine guardK_false ?_ ?_ <;> intro hg <;> ((have hg0 := hg); (try simp only [decide_eq_true_eq, decide_eq_false_iff_not, Bool.not_eq_true', Bool.not_eq_false', beq_iff_eq, beq_eq_false_iff_ne, bne_iff_ne, ne_eq, bne_eq_false_iff_eq, List.isEmpty_iff, List.isEmpty_eq_false_iff] at hg) <;> (try simp [hg0, hg]) <;> clear hg0) <;> (try (revert hg; intro _))) | (refine boolK_by ?_ ?_ <;> intro hg <;> ((have hg0 := hg); (try simp only [decide_eq_true_eq, decide_eq_false_iff_not, Bool.not_eq_true', Bool.not_eq_false', beq_iff_eq, beq_eq_false_iff_ne, bne_iff_ne, ne_eq, bne_eq_false_iff_eq, List.isEmpty_iff, List.isEmpty_eq_false_iff] at hg) <;> (try simp [hg0, hg]) <;> clear hg0) <;> (try (revert hg; intro _)))) | (refine And.intro ?_ ?_; (first | assumption | omega | kernel_rfl); try simp)))
  any_goals (simp [maySetR, *]; done)
  have hspec : maySetR t = setOk ((t.l[0]?.map Tm.kind).getD 0) none t.l := by simp [maySetR, *]
  refine wp_loop (fun n s => ∃ i : Nat, n = t.l.length - i ∧ i ≤ t.l.length ∧ maySetR t = setOk ((t.l[0]?.map Tm.kind).getD 0) (prevOf t.l i) (t.l.drop i) ∧
      s = ⟨[(22, .int .i64 i), (21, .int .i64 t.l.length), (20, .sl (t.l.map Tm.cells)), (2, .bool false), (1, .ptr 0 0)], ⟨[[.int .i64 t.kind, .int .i64 t.n, .str (bs t.s), .sl (t.l.map Tm.cells)]], [], [], []⟩⟩)
    { env := [22, 21, 20, 2, 1] } t.l.length ⟨0, by simp, by simp, by simpa [prevOf] using hspec, by simp [*]⟩ ?_
  rintro n s ⟨i, rfl, hi, hc, rfl⟩
  simp
  (first | (refine guardK_true ?_ ?_ <;> intro hg <;> ((have hg0 := hg); (try simp only [decide_eq_true_eq, decide_eq_false_iff_not, Bool.not_eq_true', Bool.not_eq_false', beq_iff_eq, beq_eq_false_iff_ne, bne_iff_ne, ne_eq, bne_eq_false_iff_eq, List.isEmpty_iff, List.isEmpty_eq_false_iff] at hg) <;> (try simp [hg0, hg]) <;> clear hg0) <;> (try (revert hg; intro _))) | (refine guardK_false ?_ ?_ <;> intro hg <;> ((have hg0 := hg); (try simp only [decide_eq_true_eq, decide_eq_false_iff_not, Bool.not_eq_true', Bool.not_eq_false', beq_iff_eq, beq_eq_false_iff_ne, bne_iff_ne, ne_eq, bne_eq_false_iff_eq, List.isEmpty_iff, List.isEmpty_eq_false_iff] at hg) <;> (try simp [hg0, hg]) <;> clear hg0) <;> (try (revert hg; intro _))) | (refine boolK_by ?_ ?_ <;> intro hg <;> ((have hg0 := hg); (try simp only [decide_eq_true_eq, decide_eq_false_iff_not, Bool.not_eq_true', Bool.not_eq_false', beq_iff_eq, beq_eq_false_iff_ne, bne_iff_ne, ne_eq, bne_eq_false_iff_eq, List.isEmpty_iff, List.isEmpty_eq_false_iff] at hg) <;> (try simp [hg0, hg]) <;> clear hg0) <;> (try (revert hg; intro _))))
  · rename_i hlt
    rw [setOk_drop _ hlt] at hc
    have h0 : 0 < t.l.length := by omega
    clear hspec
    simp [Tm.cells_eq]
    (repeat' (first | (first | (refine guardK_true ?_ ?_ <;> intro hg <;> ((have hg0 := hg); (try simp only [decide_eq_true_eq, decide_eq_false_iff_not, Bool.not_eq_true', Bool.not_eq_false', beq_iff_eq, beq_eq_false_iff_ne, bne_iff_ne, ne_eq, bne_eq_false_iff_eq, List.isEmpty_iff, List.isEmpty_eq_false_iff] at hg) <;> (try simp [hg0, hg]) <;> clear hg0) <;> (try (revert hg; intro _))) | (refine guardK_false ?_ ?_ <;> intro hg <;> ((have hg0 := hg); (try simp only [decide_eq_true_eq, decide_eq_false_iff_not, Bool.not_eq_true', Bool.not_eq_false', beq_iff_eq, beq_eq_false_iff_ne, bne_iff_ne, ne_eq, bne_eq_false_iff_eq, List.isEmpty_iff, List.isEmpty_eq_false_iff] at hg) <;> (try simp [hg0, hg]) <;> clear hg0) <;> (try (revert hg; intro _))) | (refine boolK_by ?_ ?_ <;> intro hg <;> ((have hg0 := hg); (try simp only [decide_eq_true_eq, decide_eq_false_iff_not, Bool.not_eq_true', Bool.not_eq_false', beq_iff_eq, beq_eq_false_iff_ne, bne_iff_ne, ne_eq, bne_eq_false_iff_eq, List.isEmpty_iff, List.isEmpty_eq_false_iff] at hg) <;> (try simp [hg0, hg]) <;> clear hg0) <;> (try (revert hg; intro _)))) | (refine And.intro ?_ ?_; (first | assumption | omega | kernel_rfl); try simp)))
    any_goals (rw [hc]; simp [*]; done)
    have hm : mayR t.l[i] = mayFlat t.l[i] := by simp [mayR, *]
    refine runK_of (by simpa [Tm.cells_eq, hm] using f23' X t.l[i] (fun h => absurd h (by assumption))) ?_
    simp
    (first | (refine guardK_true ?_ ?_ <;> intro hg <;> ((have hg0 := hg); (try simp only [decide_eq_true_eq, decide_eq_false_iff_not, Bool.not_eq_true', Bool.not_eq_false', beq_iff_eq, beq_eq_false_iff_ne, bne_iff_ne, ne_eq, bne_eq_false_iff_eq, List.isEmpty_iff, List.isEmpty_eq_false_iff] at hg) <;> (try simp [hg0, hg]) <;> clear hg0) <;> (try (revert hg; intro _))) | (refine guardK_false ?_ ?_ <;> intro hg <;> ((have hg0 := hg); (try simp only [decide_eq_true_eq, decide_eq_false_iff_not, Bool.not_eq_true', Bool.not_eq_false', beq_iff_eq, beq_eq_false_iff_ne, bne_iff_ne, ne_eq, bne_eq_false_iff_eq, List.isEmpty_iff, List.isEmpty_eq_false_iff] at hg) <;> (try simp [hg0, hg]) <;> clear hg0) <;> (try (revert hg; intro _))) | (refine boolK_by ?_ ?_ <;> intro hg <;> ((have hg0 := hg); (try simp only [decide_eq_true_eq, decide_eq_false_iff_not, Bool.not_eq_true', Bool.not_eq_false', beq_iff_eq, beq_eq_false_iff_ne, bne_iff_ne, ne_eq, bne_eq_false_iff_eq, List.isEmpty_iff, List.isEmpty_eq_false_iff] at hg) <;> (try simp [hg0, hg]) <;> clear hg0) <;> (try (revert hg; intro _))))
    · (repeat' (first | (first | (refine guardK_true ?_ ?_ <;> intro hg <;> ((have hg0 := hg); (try simp only [decide_eq_true_eq, decide_eq_false_iff_not, Bool.not_eq_true', Bool.not_eq_false', beq_iff_eq, beq_eq_false_iff_ne, bne_iff_ne, ne_eq, bne_eq_false_iff_eq, List.isEmpty_iff, List.isEmpty_eq_false_iff] at hg) <;> (try simp [hg0, hg]) <;> clear hg0) <;> (try (revert hg; intro _))) | (refine guardK_false ?_ ?_ <;> intro hg <;> ((have hg0 := hg); (try simp only [decide_eq_true_eq, decide_eq_false_iff_not, Bool.not_eq_true', Bool.not_eq_false', beq_iff_eq, beq_eq_false_iff_ne, bne_iff_ne, ne_eq, bne_eq_false_iff_eq, List.isEmpty_iff, List.isEmpty_eq_false_iff] at hg) <;> (try simp [hg0, hg]) <;> clear hg0) <;> (try (revert hg; intro _))) | (refine boolK_by ?_ ?_ <;> intro hg <;> ((have hg0 := hg); (try simp only [decide_eq_true_eq, decide_eq_false_iff_not, Bool.not_eq_true', Bool.not_eq_false', beq_iff_eq, beq_eq_false_iff_ne, bne_iff_ne, ne_eq, bne_eq_false_iff_eq, List.isEmpty_iff, List.isEmpty_eq_false_iff] at hg) <;> (try simp [hg0, hg]) <;> clear hg0) <;> (try (revert hg; intro _)))) | (refine And.intro ?_ ?_; (first | assumption | omega | kernel_rfl); try simp)))
      rw [hc]; simp [*]
    have hback : IntKind.i64.wrap ((i : Int) + 1) = (i : Int) + 1 := wrap64_id (by omega) (by omega)
    (first | (refine guardK_true ?_ ?_ <;> intro hg <;> ((have hg0 := hg); (try simp only [decide_eq_true_eq, decide_eq_false_iff_not, Bool.not_eq_true', Bool.not_eq_false', beq_iff_eq, beq_eq_false_iff_ne, bne_iff_ne, ne_eq, bne_eq_false_iff_eq, List.isEmpty_iff, List.isEmpty_eq_false_iff] at hg) <;> (try simp [hg0, hg]) <;> clear hg0) <;> (try (revert hg; intro _))) | (refine guardK_false ?_ ?_ <;> intro hg <;> ((have hg0 := hg); (try simp only [decide_eq_true_eq, decide_eq_false_iff_not, Bool.not_eq_true', Bool.not_eq_false', beq_iff_eq, beq_eq_false_iff_ne, bne_iff_ne, ne_eq, bne_eq_false_iff_eq, List.isEmpty_iff, List.isEmpty_eq_false_iff] at hg) <;> (try simp [hg0, hg]) <;> clear hg0) <;> (try (revert hg; intro _))) | (refine boolK_by ?_ ?_ <;> intro hg <;> ((have hg0 := hg); (try simp only [decide_eq_true_eq, decide_eq_false_iff_not, Bool.not_eq_true', Bool.not_eq_false', beq_iff_eq, beq_eq_false_iff_ne, bne_iff_ne, ne_eq, bne_eq_false_iff_eq, List.isEmpty_iff, List.isEmpty_eq_false_iff] at hg) <;> (try simp [hg0, hg]) <;> clear hg0) <;> (try (revert hg; intro _))))
    · have hp : i - 1 < t.l.length := by omega
      have hi1 : ((i : Int) - 1).toNat = i - 1 := by omega
      have hw : IntKind.i64.wrap ((i : Int) - 1) = (i : Int) - 1 := wrap64_id (by omega) (by omega)
      simp [h0, Tm.cells_eq]
      (repeat' (first | (first | (refine guardK_true ?_ ?_ <;> intro hg <;> ((have hg0 := hg); (try simp only [decide_eq_true_eq, decide_eq_false_iff_not, Bool.not_eq_true', Bool.not_eq_false', beq_iff_eq, beq_eq_false_iff_ne, bne_iff_ne, ne_eq, bne_eq_false_iff_eq, List.isEmpty_iff, List.isEmpty_eq_false_iff] at hg) <;> (try simp [hg0, hg]) <;> clear hg0) <;> (try (revert hg; intro _))) | (refine guardK_false ?_ ?_ <;> intro hg <;> ((have hg0 := hg); (try simp only [decide_eq_true_eq, decide_eq_false_iff_not, Bool.not_eq_true', Bool.not_eq_false', beq_iff_eq, beq_eq_false_iff_ne, bne_iff_ne, ne_eq, bne_eq_false_iff_eq, List.isEmpty_iff, List.isEmpty_eq_false_iff] at hg) <;> (try simp [hg0, hg]) <;> clear hg0) <;> (try (revert hg; intro _))) | (refine boolK_by ?_ ?_ <;> intro hg <;> ((have hg0 := hg); (try simp only [decide_eq_true_eq, decide_eq_false_iff_not, Bool.not_eq_true', Bool.not_eq_false', beq_iff_eq, beq_eq_false_iff_ne, bne_iff_ne, ne_eq, bne_eq_false_iff_eq, List.isEmpty_iff, List.isEmpty_eq_false_iff] at hg) <;> (try simp [hg0, hg]) <;> clear hg0) <;> (try (revert hg; intro _)))) | (refine And.intro ?_ ?_; (first | assumption | omega | kernel_rfl); try simp)))
      any_goals (rw [hc]; simp [*]; done)
      simp [hw, hi1, hp, Tm.cells_eq]
      refine ⟨⟨by omega, by omega⟩, ?_⟩
      have hk0 : t.l[i].kind = t.l[0].kind := by assumption
      have q1 : ¬ t.l[0].kind = 1 := by rw [← hk0]; assumption
      have q7 : ¬ t.l[0].kind = 7 := by rw [← hk0]; assumption
      refine runK_of (by simpa [Tm.cells_eq, hk0] using f63 X t.l[i - 1] t.l[i] (hsm.2.2 _ (List.getElem_mem _))) ?_
      simp
      (repeat' (first | (first | (refine guardK_true ?_ ?_ <;> intro hg <;> ((have hg0 := hg); (try simp only [decide_eq_true_eq, decide_eq_false_iff_not, Bool.not_eq_true', Bool.not_eq_false', beq_iff_eq, beq_eq_false_iff_ne, bne_iff_ne, ne_eq, bne_eq_false_iff_eq, List.isEmpty_iff, List.isEmpty_eq_false_iff] at hg) <;> (try simp [hg0, hg]) <;> clear hg0) <;> (try (revert hg; intro _))) | (refine guardK_false ?_ ?_ <;> intro hg <;> ((have hg0 := hg); (try simp only [decide_eq_true_eq, decide_eq_false_iff_not, Bool.not_eq_true', Bool.not_eq_false', beq_iff_eq, beq_eq_false_iff_ne, bne_iff_ne, ne_eq, bne_eq_false_iff_eq, List.isEmpty_iff, List.isEmpty_eq_false_iff] at hg) <;> (try simp [hg0, hg]) <;> clear hg0) <;> (try (revert hg; intro _))) | (refine boolK_by ?_ ?_ <;> intro hg <;> ((have hg0 := hg); (try simp only [decide_eq_true_eq, decide_eq_false_iff_not, Bool.not_eq_true', Bool.not_eq_false', beq_iff_eq, beq_eq_false_iff_ne, bne_iff_ne, ne_eq, bne_eq_false_iff_eq, List.isEmpty_iff, List.isEmpty_eq_false_iff] at hg) <;> (try simp [hg0, hg]) <;> clear hg0) <;> (try (revert hg; intro _)))) | (refine And.intro ?_ ?_; (first | assumption | omega | kernel_rfl); try simp)))
      any_goals (rw [hc]; simp [*]; done)
      refine loopK_back { env := [22, 21, 20, 2, 1] } (t.l.length - (i + 1)) (by omega) ⟨i + 1, rfl, by omega, by rw [hc]; simp [*], ?_⟩
      simp [*]
    · (repeat' (first | (first | (refine guardK_true ?_ ?_ <;> intro hg <;> ((have hg0 := hg); (try simp only [decide_eq_true_eq, decide_eq_false_iff_not, Bool.not_eq_true', Bool.not_eq_false', beq_iff_eq, beq_eq_false_iff_ne, bne_iff_ne, ne_eq, bne_eq_false_iff_eq, List.isEmpty_iff, List.isEmpty_eq_false_iff] at hg) <;> (try simp [hg0, hg]) <;> clear hg0) <;> (try (revert hg; intro _))) | (refine guardK_false ?_ ?_ <;> intro hg <;> ((have hg0 := hg); (try simp only [decide_eq_true_eq, decide_eq_false_iff_not, Bool.not_eq_true', Bool.not_eq_false', beq_iff_eq, beq_eq_false_iff_ne, bne_iff_ne, ne_eq, bne_eq_false_iff_eq, List.isEmpty_iff, List.isEmpty_eq_false_iff] at hg) <;> (try simp [hg0, hg]) <;> clear hg0) <;> (try (revert hg; intro _))) | (refine boolK_by ?_ ?_ <;> intro hg <;> ((have hg0 := hg); (try simp only [decide_eq_true_eq, decide_eq_false_iff_not, Bool.not_eq_true', Bool.not_eq_false', beq_iff_eq, beq_eq_false_iff_ne, bne_iff_ne, ne_eq, bne_eq_false_iff_eq, List.isEmpty_iff, List.isEmpty_eq_false_iff] at hg) <;> (try simp [hg0, hg]) <;> clear hg0) <;> (try (revert hg; intro _)))) | (refine And.intro ?_ ?_; (first | assumption | omega | kernel_rfl); try simp)))
      refine loopK_back { env := [22, 21, 20, 2, 1] } (t.l.length - (i + 1)) (by omega) ⟨i + 1, rfl, by omega, by rw [hc]; simp [*], ?_⟩
      simp [*]
  · obtain rfl : i = t.l.length := by omega
    rw [List.drop_length] at hc
    simp [hc, setOk]
theorem f23 (X : CallRel) (t : Tm) (h : t.small) : Run cfg X 23 [.agg t.cells] m0 (.bool (mayR t)) m0 := f23' X t fun _ => f62 X t h
end Go.Vm

namespace Go.Vm
open Go Go.Proofs
def sizeStep (f : List Tm → Int → Int) (d : Int) : List Tm → Int → Int
  | [], n => n
  | t :: r, n =>
    let n1 := n + (1 + (t.s.length : Int) / 1000)
    let n2 := if n1 < 100 then if 0 < d then f t.l n1 else n1 else n1
    if 100 ≤ n2 then 100 else if d = 0 then (if 0 < (t.l.length : Int) then 100 else sizeStep f d r n2) else sizeStep f d r n2
def sizeL : Nat → List Tm → Int → Int
  | 0 => sizeStep (fun _ n => n) 0
  | d + 1 => sizeStep (sizeL d) (d + 1)
theorem sizeStep_nonneg {f : List Tm → Int → Int} (hf : ∀ l n, 0 ≤ n → 0 ≤ f l n) (d : Int) : ∀ l n, 0 ≤ n → 0 ≤ sizeStep f d l n := by
  intro l
  induction l with
  | nil => exact fun n h => h
  | cons t r ih =>
    intro n h
    have h1 : 0 ≤ n + (1 + (t.s.length : Int) / 1000) := by omega
    simp only [sizeStep]
    have h2 : 0 ≤ (if n + (1 + (t.s.length : Int) / 1000) < 100 then if 0 < d then f t.l (n + (1 + (t.s.length : Int) / 1000)) else n + (1 + (t.s.length : Int) / 1000) else n + (1 + (t.s.length : Int) / 1000)) := by
      split
      · split
        · exact hf _ _ h1
        · exact h1
      · exact h1
    generalize (if n + (1 + (t.s.length : Int) / 1000) < 100 then if 0 < d then f t.l (n + (1 + (t.s.length : Int) / 1000)) else n + (1 + (t.s.length : Int) / 1000) else n + (1 + (t.s.length : Int) / 1000)) = n2 at h2 ⊢
    split
    · omega
    · split
      · split
        · omega
        · exact ih _ h2
      · exact ih _ h2
theorem sizeL_nonneg : ∀ d l n, 0 ≤ n → 0 ≤ sizeL d l n := by
  intro d
  induction d with
  | zero => exact fun l n h => sizeStep_nonneg (fun _ _ h => h) _ l n h
  | succ d ih => exact fun l n h => sizeStep_nonneg ih _ l n h
theorem sizeStep_drop (f : List Tm → Int → Int) (d : Int) {l : List Tm} {i : Nat} (h : i < l.length) (n : Int) : sizeStep f d (l.drop i) n = sizeStep f d (l[i] :: l.drop (i + 1)) n := by
  rw [List.drop_eq_getElem_cons h]
theorem f55 (X : CallRel) : ∀ (d : Nat) (l : List Tm) (n : Int), d ≤ 6 → smallL l → l.length ≤ 9223372036854775807 → 0 ≤ n → n < 100 → Run cfg X 55 [.sl (l.map Tm.cells), .int .i64 n, .int .i64 d] m0 (.int .i64 (sizeL d l n)) m0 := by
  intro d
  induction d with
  | zero =>
    intro l n0 hd hsm hlen hn0 hn1
    have hsm' := smallL_iff.1 hsm
    refine Run.fn [.tmp 6] [3] Tryz.func55 rfl (by simp [Tryz.ntmps55]) rfl rfl (by kernel_rfl) ?_
    simp
    refine wp_loop (fun k s => ∃ i : Nat, k = l.length - i ∧ i ≤ l.length ∧ ∃ n : Int, 0 ≤ n ∧ n < 100 ∧ sizeL 0 l n0 = sizeStep (fun _ n => n) 0 (l.drop i) n ∧
        s = ⟨[(11, .int .i64 i), (10, .int .i64 l.length), (9, .sl (l.map Tm.cells)), (1, .int .i64 n), (2, .int .i64 0)], m0⟩)
      { env := [11, 10, 9, 1, 2] } l.length ⟨0, by simp, by simp, n0, hn0, hn1, by simp [sizeL], by simp⟩ ?_
    rintro k s ⟨i, rfl, hi, n, h0, h1, hc, rfl⟩
    simp
    (first | (refine guardK_true ?_ ?_ <;> intro hg <;> ((have hg0 := hg); (try simp only [decide_eq_true_eq, decide_eq_false_iff_not, Bool.not_eq_true', Bool.not_eq_false', beq_iff_eq, beq_eq_false_iff_ne, bne_iff_ne, ne_eq, bne_eq_false_iff_eq, List.isEmpty_iff, List.isEmpty_eq_false_iff] at hg) <;> (try simp [hg0, hg]) <;> clear hg0) <;> (try (revert hg; intro _))) | (refine guardK_false ?_ ?_ <;> intro hg <;> ((have hg0 := hg); (try simp only [decide_eq_true_eq, decide_eq_false_iff_not, Bool.not_eq_true', Bool.not_eq_false', beq_iff_eq, beq_eq_false_iff_ne, bne_iff_ne, ne_eq, bne_eq_false_iff_eq, List.isEmpty_iff, List.isEmpty_eq_false_iff] at hg) <;> (try simp [hg0, hg]) <;> clear hg0) <;> (try (revert hg; intro _))) | (refine boolK_by ?_ ?_ <;> intro hg <;> ((have hg0 := hg); (try simp only [decide_eq_true_eq, decide_eq_false_iff_not, Bool.not_eq_true', Bool.not_eq_false', beq_iff_eq, beq_eq_false_iff_ne, bne_iff_ne, ne_eq, bne_eq_false_iff_eq, List.isEmpty_iff, List.isEmpty_eq_false_iff] at hg) <;> (try simp [hg0, hg]) <;> clear hg0) <;> (try (revert hg; intro _))))
    · rename_i hlt
      rw [sizeStep_drop _ _ hlt] at hc
      obtain ⟨b1, b2, b3⟩ := Tm.small_iff.1 (hsm' _ (List.getElem_mem hlt))
      have hq : IntKind.i64.wrap ((l[i].s.length : Int) / 1000) = (l[i].s.length : Int) / 1000 := wrap64_id (by omega) (by omega)
      have hq1 : IntKind.i64.wrap (1 + (l[i].s.length : Int) / 1000) = 1 + (l[i].s.length : Int) / 1000 := wrap64_id (by omega) (by omega)
      have hq2 : IntKind.i64.wrap (n + (1 + (l[i].s.length : Int) / 1000)) = n + (1 + (l[i].s.length : Int) / 1000) := wrap64_id (by omega) (by omega)
      simp [Tm.cells_eq, hq, hq1, hq2]
      have hb : IntKind.i64.wrap ((i : Int) + 1) = (i : Int) + 1 := wrap64_id (by omega) (by omega)
      have hpos : 0 ≤ (l[i].s.length : Int) / 1000 := by omega
      (repeat' (first | (first | (refine guardK_true ?_ ?_ <;> intro hg <;> ((have hg0 := hg); (try simp only [decide_eq_true_eq, decide_eq_false_iff_not, Bool.not_eq_true', Bool.not_eq_false', beq_iff_eq, beq_eq_false_iff_ne, bne_iff_ne, ne_eq, bne_eq_false_iff_eq, List.isEmpty_iff, List.isEmpty_eq_false_iff] at hg) <;> (try simp [hg0, hg]) <;> clear hg0) <;> (try (revert hg; intro _))) | (refine guardK_false ?_ ?_ <;> intro hg <;> ((have hg0 := hg); (try simp only [decide_eq_true_eq, decide_eq_false_iff_not, Bool.not_eq_true', Bool.not_eq_false', beq_iff_eq, beq_eq_false_iff_ne, bne_iff_ne, ne_eq, bne_eq_false_iff_eq, List.isEmpty_iff, List.isEmpty_eq_false_iff] at hg) <;> (try simp [hg0, hg]) <;> clear hg0) <;> (try (revert hg; intro _))) | (refine boolK_by ?_ ?_ <;> intro hg <;> ((have hg0 := hg); (try simp only [decide_eq_true_eq, decide_eq_false_iff_not, Bool.not_eq_true', Bool.not_eq_false', beq_iff_eq, beq_eq_false_iff_ne, bne_iff_ne, ne_eq, bne_eq_false_iff_eq, List.isEmpty_iff, List.isEmpty_eq_false_iff] at hg) <;> (try simp [hg0, hg]) <;> clear hg0) <;> (try (revert hg; intro _)))) | (refine And.intro ?_ ?_; (first | assumption | omega | kernel_rfl); try simp)))
      any_goals (exfalso; omega)
      any_goals (rw [hc]; simp [sizeStep, *]; done)
      all_goals
        refine loopK_back { env := [11, 10, 9, 1, 2] } (l.length - (i + 1)) (by omega) ⟨i + 1, rfl, by omega, n + (1 + (l[i].s.length : Int) / 1000), by omega, by omega, by rw [hc]; simp [sizeStep, *], ?_⟩
        simp [hb]
    · obtain rfl : i = l.length := by omega
      rw [List.drop_length] at hc
      simp [hc, sizeStep]
  | succ d ih =>
    intro l n0 hd hsm hlen hn0 hn1
    have hsm' := smallL_iff.1 hsm
    have hd0 : (0 : Int) < (d : Int) + 1 := by omega
    have hd1 : ¬ ((d : Int) + 1 = 0) := by omega
    have hdw : IntKind.i64.wrap (d : Int) = d := wrap64_id (by omega) (by omega)
    refine Run.fn [.tmp 6] [3] Tryz.func55 rfl (by simp [Tryz.ntmps55]) rfl rfl (by kernel_rfl) ?_
    simp
    refine wp_loop (fun k s => ∃ i : Nat, k = l.length - i ∧ i ≤ l.length ∧ ∃ n : Int, 0 ≤ n ∧ n < 100 ∧ sizeL (d + 1) l n0 = sizeStep (sizeL d) (d + 1) (l.drop i) n ∧
        s = ⟨[(11, .int .i64 i), (10, .int .i64 l.length), (9, .sl (l.map Tm.cells)), (1, .int .i64 n), (2, .int .i64 (d + 1))], m0⟩)
      { env := [11, 10, 9, 1, 2] } l.length ⟨0, by simp, by simp, n0, hn0, hn1, by simp [sizeL], by simp⟩ ?_
    rintro k s ⟨i, rfl, hi, n, h0, h1, hc, rfl⟩
    simp
    (first | (refine guardK_true ?_ ?_ <;> intro hg <;> ((have hg0 := hg); (try simp only [decide_eq_true_eq, decide_eq_false_iff_not, Bool.not_eq_true', Bool.not_eq_false', beq_iff_eq, beq_eq_false_iff_ne, bne_iff_ne, ne_eq, bne_eq_false_iff_eq, List.isEmpty_iff, List.isEmpty_eq_false_iff] at hg) <;> (try simp [hg0, hg]) <;> clear hg0) <;> (try (revert hg; intro _))) | (refine guardK_false ?_ ?_ <;> intro hg <;> ((have hg0 := hg); (try simp only [decide_eq_true_eq, decide_eq_false_iff_not, Bool.not_eq_true', Bool.not_eq_false', beq_iff_eq, beq_eq_false_iff_ne, bne_iff_ne, ne_eq, bne_eq_false_iff_eq, List.isEmpty_iff, List.isEmpty_eq_false_iff] at hg) <;> (try simp [hg0, hg]) <;> clear hg0) <;> (try (revert hg; intro _))) | (refine boolK_by ?_ ?_ <;> intro hg <;> ((have hg0 := hg); (try simp only [decide_eq_true_eq, decide_eq_false_iff_not, Bool.not_eq_true', Bool.not_eq_false', beq_iff_eq, beq_eq_false_iff_ne, bne_iff_ne, ne_eq, bne_eq_false_iff_eq, List.isEmpty_iff, List.isEmpty_eq_false_iff] at hg) <;> (try simp [hg0, hg]) <;> clear hg0) <;> (try (revert hg; intro _))))
    · rename_i hlt
      rw [sizeStep_drop _ _ hlt] at hc
      obtain ⟨b1, b2, b3⟩ := Tm.small_iff.1 (hsm' _ (List.getElem_mem hlt))
      have hq : IntKind.i64.wrap ((l[i].s.length : Int) / 1000) = (l[i].s.length : Int) / 1000 := wrap64_id (by omega) (by omega)
      have hq1 : IntKind.i64.wrap (1 + (l[i].s.length : Int) / 1000) = 1 + (l[i].s.length : Int) / 1000 := wrap64_id (by omega) (by omega)
      have hq2 : IntKind.i64.wrap (n + (1 + (l[i].s.length : Int) / 1000)) = n + (1 + (l[i].s.length : Int) / 1000) := wrap64_id (by omega) (by omega)
      have hb : IntKind.i64.wrap ((i : Int) + 1) = (i : Int) + 1 := wrap64_id (by omega) (by omega)
      have hpos : 0 ≤ (l[i].s.length : Int) / 1000 := by omega
      simp [Tm.cells_eq, hq, hq1, hq2]
      (first | (refine guardK_true ?_ ?_ <;> intro hg <;> ((have hg0 := hg); (try simp only [decide_eq_true_eq, decide_eq_false_iff_not, Bool.not_eq_true', Bool.not_eq_false', beq_iff_eq, beq_eq_false_iff_ne, bne_iff_ne, ne_eq, bne_eq_false_iff_eq, List.isEmpty_iff, List.isEmpty_eq_false_iff] at hg) <;> (try simp [hg0, hg]) <;> clear hg0) <;> (try (revert hg; intro _))) | (refine guardK_false ?_ ?_ <;> intro hg <;> ((have hg0 := hg); (try simp only [decide_eq_true_eq, decide_eq_false_iff_not, Bool.not_eq_true', Bool.not_eq_false', beq_iff_eq, beq_eq_false_iff_ne, bne_iff_ne, ne_eq, bne_eq_false_iff_eq, List.isEmpty_iff, List.isEmpty_eq_false_iff] at hg) <;> (try simp [hg0, hg]) <;> clear hg0) <;> (try (revert hg; intro _))) | (refine boolK_by ?_ ?_ <;> intro hg <;> ((have hg0 := hg); (try simp only [decide_eq_true_eq, decide_eq_false_iff_not, Bool.not_eq_true', Bool.not_eq_false', beq_iff_eq, beq_eq_false_iff_ne, bne_iff_ne, ne_eq, bne_eq_false_iff_eq, List.isEmpty_iff, List.isEmpty_eq_false_iff] at hg) <;> (try simp [hg0, hg]) <;> clear hg0) <;> (try (revert hg; intro _))))
      · simp [hd0, hdw]
        refine runK_of (by simpa using ih l[i].l (n + (1 + (l[i].s.length : Int) / 1000)) (by omega) (smallL_iff.2 b3) b2 (by omega) (by omega)) ?_
        have hnn := sizeL_nonneg d l[i].l (n + (1 + (l[i].s.length : Int) / 1000)) (by omega)
        simp
        (repeat' (first | (first | (refine guardK_true ?_ ?_ <;> intro hg <;> ((have hg0 := hg); (try simp only [decide_eq_true_eq, decide_eq_false_iff_not, Bool.not_eq_true', Bool.not_eq_false', beq_iff_eq, beq_eq_false_iff_ne, bne_iff_ne, ne_eq, bne_eq_false_iff_eq, List.isEmpty_iff, List.isEmpty_eq_false_iff] at hg) <;> (try simp [hg0, hg]) <;> clear hg0) <;> (try (revert hg; intro _))) | (refine guardK_false ?_ ?_ <;> intro hg <;> ((have hg0 := hg); (try simp only [decide_eq_true_eq, decide_eq_false_iff_not, Bool.not_eq_true', Bool.not_eq_false', beq_iff_eq, beq_eq_false_iff_ne, bne_iff_ne, ne_eq, bne_eq_false_iff_eq, List.isEmpty_iff, List.isEmpty_eq_false_iff] at hg) <;> (try simp [hg0, hg]) <;> clear hg0) <;> (try (revert hg; intro _))) | (refine boolK_by ?_ ?_ <;> intro hg <;> ((have hg0 := hg); (try simp only [decide_eq_true_eq, decide_eq_false_iff_not, Bool.not_eq_true', Bool.not_eq_false', beq_iff_eq, beq_eq_false_iff_ne, bne_iff_ne, ne_eq, bne_eq_false_iff_eq, List.isEmpty_iff, List.isEmpty_eq_false_iff] at hg) <;> (try simp [hg0, hg]) <;> clear hg0) <;> (try (revert hg; intro _)))) | (refine And.intro ?_ ?_; (first | assumption | omega | kernel_rfl); try simp)))
        any_goals (exfalso; omega)
        any_goals (rw [hc]; simp [sizeStep, *]; done)
        all_goals
          refine loopK_back { env := [11, 10, 9, 1, 2] } (l.length - (i + 1)) (by omega) ⟨i + 1, rfl, by omega, sizeL d l[i].l (n + (1 + (l[i].s.length : Int) / 1000)), by omega, by omega, by rw [hc]; simp [sizeStep, *], ?_⟩
          simp [hb]
      · (repeat' (first | (first | (refine guardK_true ?_ ?_ <;> intro hg <;> ((have hg0 := hg); (try simp only [decide_eq_true_eq, decide_eq_false_iff_not, Bool.not_eq_true', Bool.not_eq_false', beq_iff_eq, beq_eq_false_iff_ne, bne_iff_ne, ne_eq, bne_eq_false_iff_eq, List.isEmpty_iff, List.isEmpty_eq_false_iff] at hg) <;> (try simp [hg0, hg]) <;> clear hg0) <;> (try (revert hg; intro _))) | (refine guardK_false ?_ ?_ <;> intro hg <;> ((have hg0 := hg); (try simp only [decide_eq_true_eq, decide_eq_false_iff_not, Bool.not_eq_true', Bool.not_eq_false', beq_iff_eq, beq_eq_false_iff_ne, bne_iff_ne, ne_eq, bne_eq_false_iff_eq, List.isEmpty_iff, List.isEmpty_eq_false_iff] at hg) <;> (try simp [hg0, hg]) <;> clear hg0) <;> (try (revert hg; intro _))) | (refine boolK_by ?_ ?_ <;> intro hg <;> ((have hg0 := hg); (try simp only [decide_eq_true_eq, decide_eq_false_iff_not, Bool.not_eq_true', Bool.not_eq_false', beq_iff_eq, beq_eq_false_iff_ne, bne_iff_ne, ne_eq, bne_eq_false_iff_eq, List.isEmpty_iff, List.isEmpty_eq_false_iff] at hg) <;> (try simp [hg0, hg]) <;> clear hg0) <;> (try (revert hg; intro _)))) | (refine And.intro ?_ ?_; (first | assumption | omega | kernel_rfl); try simp)))
        any_goals (exfalso; omega)
        any_goals (rw [hc]; simp [sizeStep, *]; done)
    · obtain rfl : i = l.length := by omega
      rw [List.drop_length] at hc
      simp [hc, sizeStep]
def sizeR (t : Tm) : Int := sizeL 6 [t] 0
theorem f19 (X : CallRel) (t : Tm) (h : t.small) : Run cfg X 19 [.agg t.cells] m0 (.int .i64 (sizeR t)) m0 := by
  refine Run.fn [.tmp 2] [3] Tryz.func19 rfl (by simp [Tryz.ntmps19]) rfl rfl (by kernel_rfl) ?_
  simp [Tm.cells_eq]
  refine runK_of (by simpa [Tm.cells_eq] using f55 X 6 [t] 0 (by omega) (smallL_iff.2 (by simpa using h)) (by simp) (by omega) (by omega)) ?_
  simp [sizeR]
/-- An operation of an expression. -/
structure OpT where
  kind : Int
  term : Tm
  code : Int
  skip : Int
def OpT.cells (o : OpT) : List V := [.int .i64 o.kind, .int .i64 o.term.kind, .int .i64 o.term.n, .str (bs o.term.s), .sl (o.term.l.map Tm.cells), .int .i64 o.code, .int .i64 o.skip]
def lightR (l : List OpT) : Bool := if 100 < (l.length : Int) then false else l.all fun o => !decide (100 ≤ sizeR o.term)
theorem f36 (X : CallRel) (l : List OpT) (h : ∀ o ∈ l, o.term.small) : Run cfg X 36 [.agg [.sl (l.map OpT.cells)]] m0 (.bool (lightR l)) m0 := by
  refine Run.fn [.tmp 2] [4] Tryz.func36 rfl (by simp [Tryz.ntmps36]) rfl rfl (by kernel_rfl) ?_
  simp
  (repeat' (first | (first | (refine guardK_true ?_ ?_ <;> intro hg <;> ((have hg0 := hg); (try simp only [decide_eq_true_eq, decide_eq_false_iff_not, Bool.not_eq_true', Bool.not_eq_false', beq_iff_eq, beq_eq_false_iff_ne, bne_iff_ne, ne_eq, bne_eq_false_iff_eq, List.isEmpty_iff, List.isEmpty_eq_false_iff] at hg) <;> (try simp [hg0, hg]) <;> clear hg0) <;> (try (revert hg; intro _))) | (refine guardK_false ?_ ?_ <;> intro hg <;> ((have hg0 := hg); (try simp only [decide_eq_true_eq, decide_eq_false_iff_not, Bool.not_eq_true', Bool.not_eq_false', beq_iff_eq, beq_eq_false_iff_ne, bne_iff_ne, ne_eq, bne_eq_false_iff_eq, List.isEmpty_iff, List.isEmpty_eq_false_iff] at hg) <;> (try simp [hg0, hg]) <;> clear hg0) <;> (try (revert hg; intro _))) | (refine boolK_by ?_ ?_ <;> intro hg <;> ((have hg0 := hg); (try simp only [decide_eq_true_eq, decide_eq_false_iff_not, Bool.not_eq_true', Bool.not_eq_false', beq_iff_eq, beq_eq_false_iff_ne, bne_iff_ne, ne_eq, bne_eq_false_iff_eq, List.isEmpty_iff, List.isEmpty_eq_false_iff] at hg) <;> (try simp [hg0, hg]) <;> clear hg0) <;> (try (revert hg; intro _)))) | (refine And.intro ?_ ?_; (first | assumption | omega | kernel_rfl); try simp)))
  any_goals (simp [lightR, *]; done)
  have hspec : lightR l = l.all fun o => !decide (100 ≤ sizeR o.term) := by simp only [lightR, if_neg ‹¬ _›]
  refine wp_loop (fun k s => ∃ i : Nat, k = l.length - i ∧ i ≤ l.length ∧ lightR l = ((l.drop i).all fun o => !decide (100 ≤ sizeR o.term)) ∧
      s = ⟨[(12, .int .i64 i), (11, .int .i64 l.length), (10, .sl (l.map OpT.cells)), (2, .bool false)], m0⟩)
    { env := [12, 11, 10, 2] } l.length ⟨0, by simp, by simp, by simpa using hspec, by simp⟩ ?_
  clear hspec
  rintro k s ⟨i, rfl, hi, hc, rfl⟩
  simp
  (first | (refine guardK_true ?_ ?_ <;> intro hg <;> ((have hg0 := hg); (try simp only [decide_eq_true_eq, decide_eq_false_iff_not, Bool.not_eq_true', Bool.not_eq_false', beq_iff_eq, beq_eq_false_iff_ne, bne_iff_ne, ne_eq, bne_eq_false_iff_eq, List.isEmpty_iff, List.isEmpty_eq_false_iff] at hg) <;> (try simp [hg0, hg]) <;> clear hg0) <;> (try (revert hg; intro _))) | (refine guardK_false ?_ ?_ <;> intro hg <;> ((have hg0 := hg); (try simp only [decide_eq_true_eq, decide_eq_false_iff_not, Bool.not_eq_true', Bool.not_eq_false', beq_iff_eq, beq_eq_false_iff_ne, bne_iff_ne, ne_eq, bne_eq_false_iff_eq, List.isEmpty_iff, List.isEmpty_eq_false_iff] at hg) <;> (try simp [hg0, hg]) <;> clear hg0) <;> (try (revert hg; intro _))) | (refine boolK_by ?_ ?_ <;> intro hg <;> ((have hg0 := hg); (try simp only [decide_eq_true_eq, decide_eq_false_iff_not, Bool.not_eq_true', Bool.not_eq_false', beq_iff_eq, beq_eq_false_iff_ne, bne_iff_ne, ne_eq, bne_eq_false_iff_eq, List.isEmpty_iff, List.isEmpty_eq_false_iff] at hg) <;> (try simp [hg0, hg]) <;> clear hg0) <;> (try (revert hg; intro _))))
  · rename_i hlt
    rw [all_drop _ hlt] at hc
    simp [OpT.cells]
    refine runK_of (by simpa [Tm.cells_eq] using f19 X l[i].term (h _ (List.getElem_mem hlt))) ?_
    simp
    (repeat' (first | (first | (refine guardK_true ?_ ?_ <;> intro hg <;> ((have hg0 := hg); (try simp only [decide_eq_true_eq, decide_eq_false_iff_not, Bool.not_eq_true', Bool.not_eq_false', beq_iff_eq, beq_eq_false_iff_ne, bne_iff_ne, ne_eq, bne_eq_false_iff_eq, List.isEmpty_iff, List.isEmpty_eq_false_iff] at hg) <;> (try simp [hg0, hg]) <;> clear hg0) <;> (try (revert hg; intro _))) | (refine guardK_false ?_ ?_ <;> intro hg <;> ((have hg0 := hg); (try simp only [decide_eq_true_eq, decide_eq_false_iff_not, Bool.not_eq_true', Bool.not_eq_false', beq_iff_eq, beq_eq_false_iff_ne, bne_iff_ne, ne_eq, bne_eq_false_iff_eq, List.isEmpty_iff, List.isEmpty_eq_false_iff] at hg) <;> (try simp [hg0, hg]) <;> clear hg0) <;> (try (revert hg; intro _))) | (refine boolK_by ?_ ?_ <;> intro hg <;> ((have hg0 := hg); (try simp only [decide_eq_true_eq, decide_eq_false_iff_not, Bool.not_eq_true', Bool.not_eq_false', beq_iff_eq, beq_eq_false_iff_ne, bne_iff_ne, ne_eq, bne_eq_false_iff_eq, List.isEmpty_iff, List.isEmpty_eq_false_iff] at hg) <;> (try simp [hg0, hg]) <;> clear hg0) <;> (try (revert hg; intro _)))) | (refine And.intro ?_ ?_; (first | assumption | omega | kernel_rfl); try simp)))
    any_goals (rw [hc]; simp [*]; done)
    refine loopK_back { env := [12, 11, 10, 2] } (l.length - (i + 1)) (by omega) ⟨i + 1, rfl, by omega, by rw [hc]; simp [*], ?_⟩
    simp [wrap64_id (n := (i : Int) + 1) (by omega) (by omega)]
  · obtain rfl : i = l.length := by omega
    simpa using hc
theorem f8 (X : CallRel) (l : List OpT) (h : ∀ o ∈ l, o.term.small) : Run cfg X 8 [.agg [.sl (l.map OpT.cells)]] m0 (.int .i64 (if lightR l then 0 else 1)) m0 := by
  refine Run.fn [.tmp 2] [3] Tryz.func8 rfl (by simp [Tryz.ntmps8]) rfl rfl (by kernel_rfl) ?_
  simp
  refine runK_of (by simpa using f36 X l h) ?_
  simp
  (repeat' (first | (first | (refine guardK_true ?_ ?_ <;> intro hg <;> ((have hg0 := hg); (try simp only [decide_eq_true_eq, decide_eq_false_iff_not, Bool.not_eq_true', Bool.not_eq_false', beq_iff_eq, beq_eq_false_iff_ne, bne_iff_ne, ne_eq, bne_eq_false_iff_eq, List.isEmpty_iff, List.isEmpty_eq_false_iff] at hg) <;> (try simp [hg0, hg]) <;> clear hg0) <;> (try (revert hg; intro _))) | (refine guardK_false ?_ ?_ <;> intro hg <;> ((have hg0 := hg); (try simp only [decide_eq_true_eq, decide_eq_false_iff_not, Bool.not_eq_true', Bool.not_eq_false', beq_iff_eq, beq_eq_false_iff_ne, bne_iff_ne, ne_eq, bne_eq_false_iff_eq, List.isEmpty_iff, List.isEmpty_eq_false_iff] at hg) <;> (try simp [hg0, hg]) <;> clear hg0) <;> (try (revert hg; intro _))) | (refine boolK_by ?_ ?_ <;> intro hg <;> ((have hg0 := hg); (try simp only [decide_eq_true_eq, decide_eq_false_iff_not, Bool.not_eq_true', Bool.not_eq_false', beq_iff_eq, beq_eq_false_iff_ne, bne_iff_ne, ne_eq, bne_eq_false_iff_eq, List.isEmpty_iff, List.isEmpty_eq_false_iff] at hg) <;> (try simp [hg0, hg]) <;> clear hg0) <;> (try (revert hg; intro _)))) | (refine And.intro ?_ ?_; (first | assumption | omega | kernel_rfl); try simp)))
  all_goals simp [*]
end Go.Vm

namespace Go.Vm
open Go Go.Proofs
def zeroR (t : Tm) : Bool := if t.kind = 0 then if t.n = 0 then if t.s = [] then ((t.l.length : Int) == 0) else false else false else false
theorem f147 (X : CallRel) (t : Tm) : Run cfg X 147 [.agg t.cells] m0 (.bool (zeroR t)) m0 := by
  refine Run.fn [.tmp 2] [4] Tryz.func147 rfl (by simp [Tryz.ntmps147]) rfl rfl (by kernel_rfl) ?_
  simp [Tm.cells_eq]
  (repeat' (first | (first | (refine guardK_true ?_ ?_ <;> intro hg <;> ((have hg0 := hg); (try simp only [decide_eq_true_eq, decide_eq_false_iff_not, Bool.not_eq_true', Bool.not_eq_false', beq_iff_eq, beq_eq_false_iff_ne, bne_iff_ne, ne_eq, bne_eq_false_iff_eq, List.isEmpty_iff, List.isEmpty_eq_false_iff] at hg) <;> (try simp [hg0, hg]) <;> clear hg0) <;> (try (revert hg; intro _))) | (refine guardK_false ?_ ?_ <;> intro hg <;> ((have hg0 := hg); (try simp only [decide_eq_true_eq, decide_eq_false_iff_not, Bool.not_eq_true', Bool.not_eq_false', beq_iff_eq, beq_eq_false_iff_ne, bne_iff_ne, ne_eq, bne_eq_false_iff_eq, List.isEmpty_iff, List.isEmpty_eq_false_iff] at hg) <;> (try simp [hg0, hg]) <;> clear hg0) <;> (try (revert hg; intro _))) | (refine boolK_by ?_ ?_ <;> intro hg <;> ((have hg0 := hg); (try simp only [decide_eq_true_eq, decide_eq_false_iff_not, Bool.not_eq_true', Bool.not_eq_false', beq_iff_eq, beq_eq_false_iff_ne, bne_iff_ne, ne_eq, bne_eq_false_iff_eq, List.isEmpty_iff, List.isEmpty_eq_false_iff] at hg) <;> (try simp [hg0, hg]) <;> clear hg0) <;> (try (revert hg; intro _)))) | (refine And.intro ?_ ?_; (first | assumption | omega | kernel_rfl); try simp)))
  all_goals simp [zeroR, *]
def mayOpR (o : OpT) : Bool :=
  if o.kind = 1 then (if mayR o.term = true then if o.code = 0 then (o.skip == 0) else false else false)
  else if o.kind = 2 then (if 1 ≤ o.code then if o.code ≤ 3 then if zeroR o.term = true then (o.skip == 0) else false else false else false)
  else if o.kind = 3 then (if 1 ≤ o.code then if o.code ≤ 19 then if zeroR o.term = true then (o.skip == 0) else false else false else false)
  else if o.kind = 4 ∨ o.kind = 5 then (if o.code = 0 then if zeroR o.term = true then decide (1 ≤ o.skip) else false else false)
  else false
theorem f81 (X : CallRel) (o : OpT) (h : o.term.small) : Run cfg X 81 [.agg o.cells] m0 (.bool (mayOpR o)) m0 := by
  have hz := f147 X o.term
  have hm := f23 X o.term h
  rw [Tm.cells_eq] at hz hm
  refine Run.fn [.tmp 2] [4] Tryz.func81 rfl (by simp [Tryz.ntmps81]) rfl rfl (by kernel_rfl) ?_
  simp [OpT.cells]
  repeat' (first
    | (first | (refine guardK_true ?_ ?_ <;> intro hg <;> ((have hg0 := hg); (try simp only [decide_eq_true_eq, decide_eq_false_iff_not, Bool.not_eq_true', Bool.not_eq_false', beq_iff_eq, beq_eq_false_iff_ne, bne_iff_ne, ne_eq, bne_eq_false_iff_eq, List.isEmpty_iff, List.isEmpty_eq_false_iff] at hg) <;> (try simp [hg0, hg]) <;> clear hg0) <;> (try (revert hg; intro _))) | (refine guardK_false ?_ ?_ <;> intro hg <;> ((have hg0 := hg); (try simp only [decide_eq_true_eq, decide_eq_false_iff_not, Bool.not_eq_true', Bool.not_eq_false', beq_iff_eq, beq_eq_false_iff_ne, bne_iff_ne, ne_eq, bne_eq_false_iff_eq, List.isEmpty_iff, List.isEmpty_eq_false_iff] at hg) <;> (try simp [hg0, hg]) <;> clear hg0) <;> (try (revert hg; intro _))) | (refine boolK_by ?_ ?_ <;> intro hg <;> ((have hg0 := hg); (try simp only [decide_eq_true_eq, decide_eq_false_iff_not, Bool.not_eq_true', Bool.not_eq_false', beq_iff_eq, beq_eq_false_iff_ne, bne_iff_ne, ne_eq, bne_eq_false_iff_eq, List.isEmpty_iff, List.isEmpty_eq_false_iff] at hg) <;> (try simp [hg0, hg]) <;> clear hg0) <;> (try (revert hg; intro _))))
    | (refine runK_of hz ?_; simp)
    | (refine runK_of hm ?_; simp)
    | (refine And.intro ?_ ?_; (first | assumption | omega | kernel_rfl); try simp))
  all_goals (simp [mayOpR, *]; done)
/-- How many terms are left behind these operations. -/
def depthGo : List OpT → Int → Int
  | [], n => n
  | o :: r, n =>
    if mayOpR o = false then -1
    else if o.kind = 1 then depthGo r (n + 1)
    else if o.kind = 2 then (if n < 1 then -1 else depthGo r n)
    else if o.kind = 3 then (if n < 2 then -1 else depthGo r (n - 1))
    else if n < 1 then -1
    else if (r.length : Int) < o.skip then -1
    else if depthGo (r.take o.skip.toNat) 0 ≠ 1 then -1
    else depthGo (r.drop o.skip.toNat) n
termination_by l => l.length
decreasing_by all_goals simp_all <;> omega
set_option maxHeartbeats 4000000 in
theorem f37 (X : CallRel) : ∀ (N : Nat) (l : List OpT), l.length < N → l.length ≤ 1000 → (∀ o ∈ l, o.term.small) → Run cfg X 37 [.sl (l.map OpT.cells)] m0 (.int .i64 (depthGo l 0)) m0 := by
  intro N
  induction N with
  | zero => exact fun l h => absurd h (Nat.not_lt_zero _)
  | succ N ih =>
    intro l hN hl hsm
    refine Run.fn [.tmp 2] [3] Tryz.func37 rfl (by simp [Tryz.ntmps37]) rfl rfl (by kernel_rfl) ?_
    simp
    refine wp_loop (fun k s => ∃ i : Nat, k = l.length - i ∧ i ≤ l.length ∧ ∃ n : Int, 0 ≤ n ∧ n ≤ i ∧ depthGo l 0 = depthGo (l.drop i) n ∧
        s = ⟨[(4, .int .i64 i), (3, .int .i64 n), (0, .sl (l.map OpT.cells))], m0⟩)
      { env := [4, 3, 0] } l.length ⟨0, by simp, by simp, 0, by simp, by simp, by simp, by simp⟩ ?_
    rintro k s ⟨i, rfl, hi, n, h0, h1, hc, rfl⟩
    simp
    (first | (refine guardK_true ?_ ?_ <;> intro hg <;> ((have hg0 := hg); (try simp only [decide_eq_true_eq, decide_eq_false_iff_not, Bool.not_eq_true', Bool.not_eq_false', beq_iff_eq, beq_eq_false_iff_ne, bne_iff_ne, ne_eq, bne_eq_false_iff_eq, List.isEmpty_iff, List.isEmpty_eq_false_iff] at hg) <;> (try simp [hg0, hg]) <;> clear hg0) <;> (try (revert hg; intro _))) | (refine guardK_false ?_ ?_ <;> intro hg <;> ((have hg0 := hg); (try simp only [decide_eq_true_eq, decide_eq_false_iff_not, Bool.not_eq_true', Bool.not_eq_false', beq_iff_eq, beq_eq_false_iff_ne, bne_iff_ne, ne_eq, bne_eq_false_iff_eq, List.isEmpty_iff, List.isEmpty_eq_false_iff] at hg) <;> (try simp [hg0, hg]) <;> clear hg0) <;> (try (revert hg; intro _))) | (refine boolK_by ?_ ?_ <;> intro hg <;> ((have hg0 := hg); (try simp only [decide_eq_true_eq, decide_eq_false_iff_not, Bool.not_eq_true', Bool.not_eq_false', beq_iff_eq, beq_eq_false_iff_ne, bne_iff_ne, ne_eq, bne_eq_false_iff_eq, List.isEmpty_iff, List.isEmpty_eq_false_iff] at hg) <;> (try simp [hg0, hg]) <;> clear hg0) <;> (try (revert hg; intro _))))
    · rename_i hlt
      rw [List.drop_eq_getElem_cons hlt, depthGo] at hc
      have hm := f81 X l[i] (hsm _ (List.getElem_mem hlt))
      have hb : IntKind.i64.wrap ((i : Int) + 1) = (i : Int) + 1 := wrap64_id (by omega) (by omega)
      have hn1 : IntKind.i64.wrap (n + 1) = n + 1 := wrap64_id (by omega) (by omega)
      have hn2 : IntKind.i64.wrap (n - 1) = n - 1 := wrap64_id (by omega) (by omega)
      simp [OpT.cells]
      refine runK_of (by simpa [OpT.cells] using hm) ?_
      simp
      (repeat' (first | (first | (refine guardK_true ?_ ?_ <;> intro hg <;> ((have hg0 := hg); (try simp only [decide_eq_true_eq, decide_eq_false_iff_not, Bool.not_eq_true', Bool.not_eq_false', beq_iff_eq, beq_eq_false_iff_ne, bne_iff_ne, ne_eq, bne_eq_false_iff_eq, List.isEmpty_iff, List.isEmpty_eq_false_iff] at hg) <;> (try simp [hg0, hg]) <;> clear hg0) <;> (try (revert hg; intro _))) | (refine guardK_false ?_ ?_ <;> intro hg <;> ((have hg0 := hg); (try simp only [decide_eq_true_eq, decide_eq_false_iff_not, Bool.not_eq_true', Bool.not_eq_false', beq_iff_eq, beq_eq_false_iff_ne, bne_iff_ne, ne_eq, bne_eq_false_iff_eq, List.isEmpty_iff, List.isEmpty_eq_false_iff] at hg) <;> (try simp [hg0, hg]) <;> clear hg0) <;> (try (revert hg; intro _))) | (refine boolK_by ?_ ?_ <;> intro hg <;> ((have hg0 := hg); (try simp only [decide_eq_true_eq, decide_eq_false_iff_not, Bool.not_eq_true', Bool.not_eq_false', beq_iff_eq, beq_eq_false_iff_ne, bne_iff_ne, ne_eq, bne_eq_false_iff_eq, List.isEmpty_iff, List.isEmpty_eq_false_iff] at hg) <;> (try simp [hg0, hg]) <;> clear hg0) <;> (try (revert hg; intro _)))) | (refine And.intro ?_ ?_; (first | assumption | omega | kernel_rfl); try simp)))
      any_goals (rw [hc]; simp [*]; done)
      · refine loopK_back { env := [4, 3, 0] } (l.length - (i + 1)) (by omega) ⟨i + 1, rfl, by omega, n + 1, by omega, by omega, by rw [hc]; simp [*], ?_⟩
        simp [hb, hn1]
      · refine loopK_back { env := [4, 3, 0] } (l.length - (i + 1)) (by omega) ⟨i + 1, rfl, by omega, n, by omega, by omega, by rw [hc]; simp [*], ?_⟩
        simp [hb]
      · refine loopK_back { env := [4, 3, 0] } (l.length - (i + 1)) (by omega) ⟨i + 1, rfl, by omega, n - 1, by omega, by omega, by rw [hc]; simp [*], ?_⟩
        simp [hb, hn2]
      all_goals
        have hL : IntKind.i64.wrap ((l.length : Int) - 1) = (l.length : Int) - 1 := wrap64_id (by omega) (by omega)
        have hL2 : IntKind.i64.wrap ((l.length : Int) - 1 - i) = (l.length : Int) - 1 - i := wrap64_id (by omega) (by omega)
        have hdl : ((l.drop (i + 1)).length : Int) = (l.length : Int) - 1 - i := by simp; omega
        rw [hdl] at hc
      · rename_i hx
        rw [hL, hL2] at hx
        rw [hc]
        simp [*]
      · rename_i hx
        rw [hL, hL2] at hx
        have hk : l[i].kind = 4 ∨ l[i].kind = 5 := by
          have := ‹mayOpR l[i] = true›
          simp only [mayOpR, ‹¬ l[i].kind = 1›, ‹¬ l[i].kind = 2›, ‹¬ l[i].kind = 3›, if_false] at this
          split at this
          · assumption
          · cases this
        have hs : 1 ≤ l[i].skip := by
          have := ‹mayOpR l[i] = true›
          simp only [mayOpR, ‹¬ l[i].kind = 1›, ‹¬ l[i].kind = 2›, ‹¬ l[i].kind = 3›, if_false, if_pos hk] at this
          split at this
          · split at this
            · simpa using this
            · cases this
          · cases this
        obtain ⟨k, hk'⟩ : ∃ k : Nat, l[i].skip = k := ⟨l[i].skip.toNat, by omega⟩
        have hws : IntKind.i64.wrap ((i : Int) + 1 + l[i].skip) = (i : Int) + 1 + l[i].skip := wrap64_id (by omega) (by omega)
        have hws2 : IntKind.i64.wrap ((i : Int) + l[i].skip) = (i : Int) + l[i].skip := wrap64_id (by omega) (by omega)
        have hws3 : IntKind.i64.wrap ((i : Int) + l[i].skip + 1) = (i : Int) + l[i].skip + 1 := wrap64_id (by omega) (by omega)
        have ht : ((i : Int) + 1 + l[i].skip).toNat = i + 1 + k := by omega
        have ht2 : ((i : Int) + 1).toNat = i + 1 := by omega
        have hks : l[i].skip.toNat = k := by omega
        rw [hks] at hc
        have hsl : ((l.map OpT.cells).take (i + 1 + k)).drop (i + 1) = ((l.drop (i + 1)).take k).map OpT.cells := by
          rw [List.drop_take, ← List.map_drop, ← List.map_take]
          congr 2
          omega
        have hall : allLen (l.map OpT.cells) 7 := fun x hx => by
          obtain ⟨o, _, rfl⟩ := List.mem_map.1 hx
          rfl
        refine ⟨⟨by rw [hb]; omega, by rw [hb, hws]; omega, by rw [hb, hws]; omega, hall⟩, ?_⟩
        simp only [hb, hws, ht, ht2, hsl]
        refine runK_of (ih _ (by simp; omega) (by simp; omega) (fun o ho => hsm o (List.mem_of_mem_drop (List.mem_of_mem_take ho)))) ?_
        simp
        have hc2 : depthGo l 0 = if depthGo ((l.drop (i + 1)).take k) 0 ≠ 1 then -1 else depthGo ((l.drop (i + 1)).drop k) n := by
          rw [hc, if_neg (by simp [‹mayOpR l[i] = true›]), if_neg ‹¬ l[i].kind = 1›, if_neg ‹¬ l[i].kind = 2›, if_neg ‹¬ l[i].kind = 3›, if_neg ‹¬ n < 1›, if_neg hx]
        (first | (refine guardK_true ?_ ?_ <;> intro hg <;> ((have hg0 := hg); (try simp only [decide_eq_true_eq, decide_eq_false_iff_not, Bool.not_eq_true', Bool.not_eq_false', beq_iff_eq, beq_eq_false_iff_ne, bne_iff_ne, ne_eq, bne_eq_false_iff_eq, List.isEmpty_iff, List.isEmpty_eq_false_iff] at hg) <;> (try simp [hg0, hg]) <;> clear hg0) <;> (try (revert hg; intro _))) | (refine guardK_false ?_ ?_ <;> intro hg <;> ((have hg0 := hg); (try simp only [decide_eq_true_eq, decide_eq_false_iff_not, Bool.not_eq_true', Bool.not_eq_false', beq_iff_eq, beq_eq_false_iff_ne, bne_iff_ne, ne_eq, bne_eq_false_iff_eq, List.isEmpty_iff, List.isEmpty_eq_false_iff] at hg) <;> (try simp [hg0, hg]) <;> clear hg0) <;> (try (revert hg; intro _))) | (refine boolK_by ?_ ?_ <;> intro hg <;> ((have hg0 := hg); (try simp only [decide_eq_true_eq, decide_eq_false_iff_not, Bool.not_eq_true', Bool.not_eq_false', beq_iff_eq, beq_eq_false_iff_ne, bne_iff_ne, ne_eq, bne_eq_false_iff_eq, List.isEmpty_iff, List.isEmpty_eq_false_iff] at hg) <;> (try simp [hg0, hg]) <;> clear hg0) <;> (try (revert hg; intro _))))
        · rename_i hne
          rw [hc2, if_pos hne]
        · rename_i hne
          rw [if_neg (by simpa using hne), List.drop_drop] at hc2
          refine loopK_back { env := [4, 3, 0] } (l.length - (i + 1 + k)) (by omega) ⟨i + 1 + k, rfl, by omega, n, by omega, by omega, hc2, ?_⟩
          rw [hk'] at hws2 hws3
          simp [hk', hws2, hws3]
          omega
    · obtain rfl : i = l.length := by omega
      rw [List.drop_length, depthGo] at hc
      simp [hc]
def mayExprR (l : List OpT) : Bool := if 1 ≤ (l.length : Int) then if (l.length : Int) ≤ 32 then depthGo l 0 == 1 else false else false
theorem f9 (X : CallRel) (l : List OpT) (h : ∀ o ∈ l, o.term.small) : Run cfg X 9 [.agg [.sl (l.map OpT.cells)]] m0 (.bool (mayExprR l)) m0 := by
  refine Run.fn [.tmp 2] [4] Tryz.func9 rfl (by simp [Tryz.ntmps9]) rfl rfl (by kernel_rfl) ?_
  simp
  (repeat' (first | (first | (refine guardK_true ?_ ?_ <;> intro hg <;> ((have hg0 := hg); (try simp only [decide_eq_true_eq, decide_eq_false_iff_not, Bool.not_eq_true', Bool.not_eq_false', beq_iff_eq, beq_eq_false_iff_ne, bne_iff_ne, ne_eq, bne_eq_false_iff_eq, List.isEmpty_iff, List.isEmpty_eq_false_iff] at hg) <;> (try simp [hg0, hg]) <;> clear hg0) <;> (try (revert hg; intro _))) | (refine guardK_false ?_ ?_ <;> intro hg <;> ((have hg0 := hg); (try simp only [decide_eq_true_eq, decide_eq_false_iff_not, Bool.not_eq_true', Bool.not_eq_false', beq_iff_eq, beq_eq_false_iff_ne, bne_iff_ne, ne_eq, bne_eq_false_iff_eq, List.isEmpty_iff, List.isEmpty_eq_false_iff] at hg) <;> (try simp [hg0, hg]) <;> clear hg0) <;> (try (revert hg; intro _))) | (refine boolK_by ?_ ?_ <;> intro hg <;> ((have hg0 := hg); (try simp only [decide_eq_true_eq, decide_eq_false_iff_not, Bool.not_eq_true', Bool.not_eq_false', beq_iff_eq, beq_eq_false_iff_ne, bne_iff_ne, ne_eq, bne_eq_false_iff_eq, List.isEmpty_iff, List.isEmpty_eq_false_iff] at hg) <;> (try simp [hg0, hg]) <;> clear hg0) <;> (try (revert hg; intro _)))) | (refine And.intro ?_ ?_; (first | assumption | omega | kernel_rfl); try simp)))
  any_goals (simp [mayExprR, *]; done)
  refine runK_of (f37 X _ l (Nat.lt_succ_self _) (by omega) h) ?_
  simp
  (repeat' (first | (first | (refine guardK_true ?_ ?_ <;> intro hg <;> ((have hg0 := hg); (try simp only [decide_eq_true_eq, decide_eq_false_iff_not, Bool.not_eq_true', Bool.not_eq_false', beq_iff_eq, beq_eq_false_iff_ne, bne_iff_ne, ne_eq, bne_eq_false_iff_eq, List.isEmpty_iff, List.isEmpty_eq_false_iff] at hg) <;> (try simp [hg0, hg]) <;> clear hg0) <;> (try (revert hg; intro _))) | (refine guardK_false ?_ ?_ <;> intro hg <;> ((have hg0 := hg); (try simp only [decide_eq_true_eq, decide_eq_false_iff_not, Bool.not_eq_true', Bool.not_eq_false', beq_iff_eq, beq_eq_false_iff_ne, bne_iff_ne, ne_eq, bne_eq_false_iff_eq, List.isEmpty_iff, List.isEmpty_eq_false_iff] at hg) <;> (try simp [hg0, hg]) <;> clear hg0) <;> (try (revert hg; intro _))) | (refine boolK_by ?_ ?_ <;> intro hg <;> ((have hg0 := hg); (try simp only [decide_eq_true_eq, decide_eq_false_iff_not, Bool.not_eq_true', Bool.not_eq_false', beq_iff_eq, beq_eq_false_iff_ne, bne_iff_ne, ne_eq, bne_eq_false_iff_eq, List.isEmpty_iff, List.isEmpty_eq_false_iff] at hg) <;> (try simp [hg0, hg]) <;> clear hg0) <;> (try (revert hg; intro _)))) | (refine And.intro ?_ ?_; (first | assumption | omega | kernel_rfl); try simp)))
  all_goals simp [mayExprR, *]
end Go.Vm

namespace Go.Vm
open Go Go.Proofs
def sameOps : List OpT → List OpT → Bool
  | [], [] => true
  | x :: r, y :: q => if x.kind ≠ y.kind then false else if x.code ≠ y.code then false else if x.skip ≠ y.skip then false else if (cmpR 3 x.term y.term == 0) = false then false else sameOps r q
  | _, _ => false
def sameExprR (a b : List OpT) : Bool := if (a.length : Int) ≠ b.length then false else sameOps a b
theorem sameOps_drop {a b : List OpT} {i : Nat} (ha : i < a.length) (hb : i < b.length) : sameOps (a.drop i) (b.drop i) =
    if a[i].kind ≠ b[i].kind then false else if a[i].code ≠ b[i].code then false else if a[i].skip ≠ b[i].skip then false else if (cmpR 3 a[i].term b[i].term == 0) = false then false else sameOps (a.drop (i + 1)) (b.drop (i + 1)) := by
  rw [List.drop_eq_getElem_cons ha, List.drop_eq_getElem_cons hb]
  rfl
set_option maxHeartbeats 4000000 in
theorem f12 (X : CallRel) (a b : List OpT) (h : ∀ o ∈ a, o.term.small) (hl : a.length ≤ 9223372036854775807) : Run cfg X 12 [.agg [.sl (a.map OpT.cells)], .agg [.sl (b.map OpT.cells)]] m0 (.bool (sameExprR a b)) m0 := by
  refine Run.fn [.tmp 4] [4] Tryz.func12 rfl (by simp [Tryz.ntmps12]) rfl rfl (by kernel_rfl) ?_
  simp
  (first | (refine guardK_true ?_ ?_ <;> intro hg <;> ((have hg0 := hg); (try simp only [decide_eq_true_eq, decide_eq_false_iff_not, Bool.not_eq_true', Bool.not_eq_false', beq_iff_eq, beq_eq_false_iff_ne, bne_iff_ne, ne_eq, bne_eq_false_iff_eq, List.isEmpty_iff, List.isEmpty_eq_false_iff] at hg) <;> (try simp [hg0, hg]) <;> clear hg0) <;> (try (revert hg; intro _))) | (refine guardK_false ?_ ?_ <;> intro hg <;> ((have hg0 := hg); (try simp only [decide_eq_true_eq, decide_eq_false_iff_not, Bool.not_eq_true', Bool.not_eq_false', beq_iff_eq, beq_eq_false_iff_ne, bne_iff_ne, ne_eq, bne_eq_false_iff_eq, List.isEmpty_iff, List.isEmpty_eq_false_iff] at hg) <;> (try simp [hg0, hg]) <;> clear hg0) <;> (try (revert hg; intro _))) | (refine boolK_by ?_ ?_ <;> intro hg <;> ((have hg0 := hg); (try simp only [decide_eq_true_eq, decide_eq_false_iff_not, Bool.not_eq_true', Bool.not_eq_false', beq_iff_eq, beq_eq_false_iff_ne, bne_iff_ne, ne_eq, bne_eq_false_iff_eq, List.isEmpty_iff, List.isEmpty_eq_false_iff] at hg) <;> (try simp [hg0, hg]) <;> clear hg0) <;> (try (revert hg; intro _))))
  · simp [sameExprR, *]
  have hab : a.length = b.length := by omega
  have hspec : sameExprR a b = sameOps a b := by simp [sameExprR, hab]
  refine wp_loop (fun k s => ∃ i : Nat, k = a.length - i ∧ i ≤ a.length ∧ sameExprR a b = sameOps (a.drop i) (b.drop i) ∧
      s = ⟨[(18, .int .i64 i), (17, .int .i64 a.length), (16, .sl (a.map OpT.cells)), (4, .bool false), (3, .ptr 0 0)], ⟨[[.sl (b.map OpT.cells)]], [], [], []⟩⟩)
    { env := [18, 17, 16, 4, 3] } a.length ⟨0, by simp, by simp, by simpa using hspec, by simp [hab]⟩ ?_
  clear hspec
  rintro k s ⟨i, rfl, hi, hc, rfl⟩
  simp
  (first | (refine guardK_true ?_ ?_ <;> intro hg <;> ((have hg0 := hg); (try simp only [decide_eq_true_eq, decide_eq_false_iff_not, Bool.not_eq_true', Bool.not_eq_false', beq_iff_eq, beq_eq_false_iff_ne, bne_iff_ne, ne_eq, bne_eq_false_iff_eq, List.isEmpty_iff, List.isEmpty_eq_false_iff] at hg) <;> (try simp [hg0, hg]) <;> clear hg0) <;> (try (revert hg; intro _))) | (refine guardK_false ?_ ?_ <;> intro hg <;> ((have hg0 := hg); (try simp only [decide_eq_true_eq, decide_eq_false_iff_not, Bool.not_eq_true', Bool.not_eq_false', beq_iff_eq, beq_eq_false_iff_ne, bne_iff_ne, ne_eq, bne_eq_false_iff_eq, List.isEmpty_iff, List.isEmpty_eq_false_iff] at hg) <;> (try simp [hg0, hg]) <;> clear hg0) <;> (try (revert hg; intro _))) | (refine boolK_by ?_ ?_ <;> intro hg <;> ((have hg0 := hg); (try simp only [decide_eq_true_eq, decide_eq_false_iff_not, Bool.not_eq_true', Bool.not_eq_false', beq_iff_eq, beq_eq_false_iff_ne, bne_iff_ne, ne_eq, bne_eq_false_iff_eq, List.isEmpty_iff, List.isEmpty_eq_false_iff] at hg) <;> (try simp [hg0, hg]) <;> clear hg0) <;> (try (revert hg; intro _))))
  · rename_i hlt
    have hlb : i < b.length := by omega
    rw [sameOps_drop hlt hlb] at hc
    have hb : IntKind.i64.wrap ((i : Int) + 1) = (i : Int) + 1 := wrap64_id (by omega) (by omega)
    have hm := f24 X a[i].term b[i].term (h _ (List.getElem_mem hlt))
    simp only [Tm.cells_eq] at hm
    simp [OpT.cells, hlb]
    (repeat' (first | (first | (refine guardK_true ?_ ?_ <;> intro hg <;> ((have hg0 := hg); (try simp only [decide_eq_true_eq, decide_eq_false_iff_not, Bool.not_eq_true', Bool.not_eq_false', beq_iff_eq, beq_eq_false_iff_ne, bne_iff_ne, ne_eq, bne_eq_false_iff_eq, List.isEmpty_iff, List.isEmpty_eq_false_iff] at hg) <;> (try simp [hg0, hg]) <;> clear hg0) <;> (try (revert hg; intro _))) | (refine guardK_false ?_ ?_ <;> intro hg <;> ((have hg0 := hg); (try simp only [decide_eq_true_eq, decide_eq_false_iff_not, Bool.not_eq_true', Bool.not_eq_false', beq_iff_eq, beq_eq_false_iff_ne, bne_iff_ne, ne_eq, bne_eq_false_iff_eq, List.isEmpty_iff, List.isEmpty_eq_false_iff] at hg) <;> (try simp [hg0, hg]) <;> clear hg0) <;> (try (revert hg; intro _))) | (refine boolK_by ?_ ?_ <;> intro hg <;> ((have hg0 := hg); (try simp only [decide_eq_true_eq, decide_eq_false_iff_not, Bool.not_eq_true', Bool.not_eq_false', beq_iff_eq, beq_eq_false_iff_ne, bne_iff_ne, ne_eq, bne_eq_false_iff_eq, List.isEmpty_iff, List.isEmpty_eq_false_iff] at hg) <;> (try simp [hg0, hg]) <;> clear hg0) <;> (try (revert hg; intro _)))) | (refine And.intro ?_ ?_; (first | assumption | omega | kernel_rfl); try simp)))
    any_goals (rw [hc]; simp [*]; done)
    refine runK_of hm ?_
    simp
    (repeat' (first | (first | (refine guardK_true ?_ ?_ <;> intro hg <;> ((have hg0 := hg); (try simp only [decide_eq_true_eq, decide_eq_false_iff_not, Bool.not_eq_true', Bool.not_eq_false', beq_iff_eq, beq_eq_false_iff_ne, bne_iff_ne, ne_eq, bne_eq_false_iff_eq, List.isEmpty_iff, List.isEmpty_eq_false_iff] at hg) <;> (try simp [hg0, hg]) <;> clear hg0) <;> (try (revert hg; intro _))) | (refine guardK_false ?_ ?_ <;> intro hg <;> ((have hg0 := hg); (try simp only [decide_eq_true_eq, decide_eq_false_iff_not, Bool.not_eq_true', Bool.not_eq_false', beq_iff_eq, beq_eq_false_iff_ne, bne_iff_ne, ne_eq, bne_eq_false_iff_eq, List.isEmpty_iff, List.isEmpty_eq_false_iff] at hg) <;> (try simp [hg0, hg]) <;> clear hg0) <;> (try (revert hg; intro _))) | (refine boolK_by ?_ ?_ <;> intro hg <;> ((have hg0 := hg); (try simp only [decide_eq_true_eq, decide_eq_false_iff_not, Bool.not_eq_true', Bool.not_eq_false', beq_iff_eq, beq_eq_false_iff_ne, bne_iff_ne, ne_eq, bne_eq_false_iff_eq, List.isEmpty_iff, List.isEmpty_eq_false_iff] at hg) <;> (try simp [hg0, hg]) <;> clear hg0) <;> (try (revert hg; intro _)))) | (refine And.intro ?_ ?_; (first | assumption | omega | kernel_rfl); try simp)))
    any_goals (rw [hc]; simp [*]; done)
    refine loopK_back { env := [18, 17, 16, 4, 3] } (a.length - (i + 1)) (by omega) ⟨i + 1, rfl, by omega, by rw [hc]; simp [*], ?_⟩
    simp [hb]
  · obtain rfl : i = a.length := by omega
    rw [List.drop_length, List.drop_eq_nil_of_le (by omega)] at hc
    simp [hc, sameOps]
end Go.Vm

namespace Go.Vm
open Go Go.Proofs
theorem f290 (X : CallRel) (n : Int) : Run cfg X 290 [.int .i64 n] m0 (.bool false) m0 := by
  refine Run.fn [.tmp 2] [4] Tryz.func290 rfl (by simp [Tryz.ntmps290]) rfl rfl (by kernel_rfl) ?_
  simp
theorem f291 (X : CallRel) (n : Int) : Run cfg X 291 [.int .i64 n] m0 (.bool false) m0 := by
  refine Run.fn [.tmp 2] [4] Tryz.func291 rfl (by simp [Tryz.ntmps291]) rfl rfl (by kernel_rfl) ?_
  simp
theorem f250 (X : CallRel) (s : S) : Run cfg X 250 [.str (bs s)] m0 (.bool false) m0 := by
  refine Run.fn [.tmp 2] [4] Tryz.func250 rfl (by simp [Tryz.ntmps250]) rfl rfl (by kernel_rfl) ?_
  simp
def cmpI (a b : Int) : Int := if a < b then -1 else if b < a then 1 else 0
def cmpS (a b : S) : Int := if Op.bytesLess a b = true then -1 else if (Op.bytesLess a b || a == b) = false then 1 else 0
theorem f263 (X : CallRel) (a b : Int) : Run cfg X 263 [.int .i64 a, .int .i64 b] m0 (.int .i64 (cmpI a b)) m0 := by
  refine Run.fn [.tmp 4] [3] Tryz.func263 rfl (by simp [Tryz.ntmps263]) rfl rfl (by kernel_rfl) ?_
  simp
  refine runK_of (f290 X _) ?_
  simp
  refine runK_of (f290 X _) ?_
  simp
  (repeat' (first | (first | (refine guardK_true ?_ ?_ <;> intro hg <;> ((have hg0 := hg); (try simp only [decide_eq_true_eq, decide_eq_false_iff_not, Bool.not_eq_true', Bool.not_eq_false', beq_iff_eq, beq_eq_false_iff_ne, bne_iff_ne, ne_eq, bne_eq_false_iff_eq, List.isEmpty_iff, List.isEmpty_eq_false_iff] at hg) <;> (try simp [hg0, hg]) <;> clear hg0) <;> (try (revert hg; intro _))) | (refine guardK_false ?_ ?_ <;> intro hg <;> ((have hg0 := hg); (try simp only [decide_eq_true_eq, decide_eq_false_iff_not, Bool.not_eq_true', Bool.not_eq_false', beq_iff_eq, beq_eq_false_iff_ne, bne_iff_ne, ne_eq, bne_eq_false_iff_eq, List.isEmpty_iff, List.isEmpty_eq_false_iff] at hg) <;> (try simp [hg0, hg]) <;> clear hg0) <;> (try (revert hg; intro _))) | (refine boolK_by ?_ ?_ <;> intro hg <;> ((have hg0 := hg); (try simp only [decide_eq_true_eq, decide_eq_false_iff_not, Bool.not_eq_true', Bool.not_eq_false', beq_iff_eq, beq_eq_false_iff_ne, bne_iff_ne, ne_eq, bne_eq_false_iff_eq, List.isEmpty_iff, List.isEmpty_eq_false_iff] at hg) <;> (try simp [hg0, hg]) <;> clear hg0) <;> (try (revert hg; intro _)))) | (refine And.intro ?_ ?_; (first | assumption | omega | kernel_rfl); try simp)))
  all_goals simp [cmpI, *]
theorem f264 (X : CallRel) (a b : Int) : Run cfg X 264 [.int .i64 a, .int .i64 b] m0 (.int .i64 (cmpI a b)) m0 := by
  refine Run.fn [.tmp 4] [3] Tryz.func264 rfl (by simp [Tryz.ntmps264]) rfl rfl (by kernel_rfl) ?_
  simp
  refine runK_of (f291 X _) ?_
  simp
  refine runK_of (f291 X _) ?_
  simp
  (repeat' (first | (first | (refine guardK_true ?_ ?_ <;> intro hg <;> ((have hg0 := hg); (try simp only [decide_eq_true_eq, decide_eq_false_iff_not, Bool.not_eq_true', Bool.not_eq_false', beq_iff_eq, beq_eq_false_iff_ne, bne_iff_ne, ne_eq, bne_eq_false_iff_eq, List.isEmpty_iff, List.isEmpty_eq_false_iff] at hg) <;> (try simp [hg0, hg]) <;> clear hg0) <;> (try (revert hg; intro _))) | (refine guardK_false ?_ ?_ <;> intro hg <;> ((have hg0 := hg); (try simp only [decide_eq_true_eq, decide_eq_false_iff_not, Bool.not_eq_true', Bool.not_eq_false', beq_iff_eq, beq_eq_false_iff_ne, bne_iff_ne, ne_eq, bne_eq_false_iff_eq, List.isEmpty_iff, List.isEmpty_eq_false_iff] at hg) <;> (try simp [hg0, hg]) <;> clear hg0) <;> (try (revert hg; intro _))) | (refine boolK_by ?_ ?_ <;> intro hg <;> ((have hg0 := hg); (try simp only [decide_eq_true_eq, decide_eq_false_iff_not, Bool.not_eq_true', Bool.not_eq_false', beq_iff_eq, beq_eq_false_iff_ne, bne_iff_ne, ne_eq, bne_eq_false_iff_eq, List.isEmpty_iff, List.isEmpty_eq_false_iff] at hg) <;> (try simp [hg0, hg]) <;> clear hg0) <;> (try (revert hg; intro _)))) | (refine And.intro ?_ ?_; (first | assumption | omega | kernel_rfl); try simp)))
  all_goals simp [cmpI, *]
theorem f265 (X : CallRel) (a b : S) : Run cfg X 265 [.str (bs a), .str (bs b)] m0 (.int .i64 (cmpS a b)) m0 := by
  refine Run.fn [.tmp 4] [3] Tryz.func265 rfl (by simp [Tryz.ntmps265]) rfl rfl (by kernel_rfl) ?_
  simp
  refine runK_of (f250 X _) ?_
  simp
  refine runK_of (f250 X _) ?_
  simp
  (repeat' (first | (first | (refine guardK_true ?_ ?_ <;> intro hg <;> ((have hg0 := hg); (try simp only [decide_eq_true_eq, decide_eq_false_iff_not, Bool.not_eq_true', Bool.not_eq_false', beq_iff_eq, beq_eq_false_iff_ne, bne_iff_ne, ne_eq, bne_eq_false_iff_eq, List.isEmpty_iff, List.isEmpty_eq_false_iff] at hg) <;> (try simp [hg0, hg]) <;> clear hg0) <;> (try (revert hg; intro _))) | (refine guardK_false ?_ ?_ <;> intro hg <;> ((have hg0 := hg); (try simp only [decide_eq_true_eq, decide_eq_false_iff_not, Bool.not_eq_true', Bool.not_eq_false', beq_iff_eq, beq_eq_false_iff_ne, bne_iff_ne, ne_eq, bne_eq_false_iff_eq, List.isEmpty_iff, List.isEmpty_eq_false_iff] at hg) <;> (try simp [hg0, hg]) <;> clear hg0) <;> (try (revert hg; intro _))) | (refine boolK_by ?_ ?_ <;> intro hg <;> ((have hg0 := hg); (try simp only [decide_eq_true_eq, decide_eq_false_iff_not, Bool.not_eq_true', Bool.not_eq_false', beq_iff_eq, beq_eq_false_iff_ne, bne_iff_ne, ne_eq, bne_eq_false_iff_eq, List.isEmpty_iff, List.isEmpty_eq_false_iff] at hg) <;> (try simp [hg0, hg]) <;> clear hg0) <;> (try (revert hg; intro _)))) | (refine And.intro ?_ ?_; (first | assumption | omega | kernel_rfl); try simp)))
  any_goals (simp [cmpS, *]; done)
  rename_i h1 h2
  subst h2
  simp [cmpS, *]
def orR : List Int → Int
  | [] => 0
  | x :: r => if x ≠ 0 then x else orR r
theorem f262 (X : CallRel) (l : List Int) (hl : l.length ≤ 1000) : Run cfg X 262 [.sl (l.map fun n => [.int .i64 n])] m0 (.int .i64 (orR l)) m0 := by
  refine Run.fn [.tmp 2] [3] Tryz.func262 rfl (by simp [Tryz.ntmps262]) rfl rfl (by kernel_rfl) ?_
  simp
  refine wp_loop (fun k s => ∃ i : Nat, k = l.length - i ∧ i ≤ l.length ∧ orR l = orR (l.drop i) ∧
      s = ⟨[(8, .int .i64 i), (7, .int .i64 l.length), (6, .sl (l.map fun n => [.int .i64 n])), (3, .int .i64 0)], m0⟩)
    { env := [8, 7, 6, 3] } l.length ⟨0, by simp, by simp, by simp, by simp⟩ ?_
  rintro k s ⟨i, rfl, hi, hc, rfl⟩
  simp
  (first | (refine guardK_true ?_ ?_ <;> intro hg <;> ((have hg0 := hg); (try simp only [decide_eq_true_eq, decide_eq_false_iff_not, Bool.not_eq_true', Bool.not_eq_false', beq_iff_eq, beq_eq_false_iff_ne, bne_iff_ne, ne_eq, bne_eq_false_iff_eq, List.isEmpty_iff, List.isEmpty_eq_false_iff] at hg) <;> (try simp [hg0, hg]) <;> clear hg0) <;> (try (revert hg; intro _))) | (refine guardK_false ?_ ?_ <;> intro hg <;> ((have hg0 := hg); (try simp only [decide_eq_true_eq, decide_eq_false_iff_not, Bool.not_eq_true', Bool.not_eq_false', beq_iff_eq, beq_eq_false_iff_ne, bne_iff_ne, ne_eq, bne_eq_false_iff_eq, List.isEmpty_iff, List.isEmpty_eq_false_iff] at hg) <;> (try simp [hg0, hg]) <;> clear hg0) <;> (try (revert hg; intro _))) | (refine boolK_by ?_ ?_ <;> intro hg <;> ((have hg0 := hg); (try simp only [decide_eq_true_eq, decide_eq_false_iff_not, Bool.not_eq_true', Bool.not_eq_false', beq_iff_eq, beq_eq_false_iff_ne, bne_iff_ne, ne_eq, bne_eq_false_iff_eq, List.isEmpty_iff, List.isEmpty_eq_false_iff] at hg) <;> (try simp [hg0, hg]) <;> clear hg0) <;> (try (revert hg; intro _))))
  · rename_i hlt
    rw [List.drop_eq_getElem_cons hlt, orR] at hc
    (repeat' (first | (first | (refine guardK_true ?_ ?_ <;> intro hg <;> ((have hg0 := hg); (try simp only [decide_eq_true_eq, decide_eq_false_iff_not, Bool.not_eq_true', Bool.not_eq_false', beq_iff_eq, beq_eq_false_iff_ne, bne_iff_ne, ne_eq, bne_eq_false_iff_eq, List.isEmpty_iff, List.isEmpty_eq_false_iff] at hg) <;> (try simp [hg0, hg]) <;> clear hg0) <;> (try (revert hg; intro _))) | (refine guardK_false ?_ ?_ <;> intro hg <;> ((have hg0 := hg); (try simp only [decide_eq_true_eq, decide_eq_false_iff_not, Bool.not_eq_true', Bool.not_eq_false', beq_iff_eq, beq_eq_false_iff_ne, bne_iff_ne, ne_eq, bne_eq_false_iff_eq, List.isEmpty_iff, List.isEmpty_eq_false_iff] at hg) <;> (try simp [hg0, hg]) <;> clear hg0) <;> (try (revert hg; intro _))) | (refine boolK_by ?_ ?_ <;> intro hg <;> ((have hg0 := hg); (try simp only [decide_eq_true_eq, decide_eq_false_iff_not, Bool.not_eq_true', Bool.not_eq_false', beq_iff_eq, beq_eq_false_iff_ne, bne_iff_ne, ne_eq, bne_eq_false_iff_eq, List.isEmpty_iff, List.isEmpty_eq_false_iff] at hg) <;> (try simp [hg0, hg]) <;> clear hg0) <;> (try (revert hg; intro _)))) | (refine And.intro ?_ ?_; (first | assumption | omega | kernel_rfl); try simp)))
    any_goals (rw [hc]; simp [*]; done)
    refine loopK_back { env := [8, 7, 6, 3] } (l.length - (i + 1)) (by omega) ⟨i + 1, rfl, by omega, by rw [hc]; simp [*], ?_⟩
    simp [wrap64_id (n := (i : Int) + 1) (by omega) (by omega)]
  · obtain rfl : i = l.length := by omega
    rw [List.drop_length] at hc
    simp [hc, orR]
set_option maxHeartbeats 4000000 in
theorem f266 (X : CallRel) (d : Int) (f : Tm → Tm → Int) (a b : List Tm) (ha : a.length ≤ 9223372036854775807)
    (hf : ∀ x ∈ a, ∀ y ∈ b, Run cfg X 267 [.agg x.cells, .agg y.cells, .ptr 0 0] ⟨[[.int .i64 d]], [], [], []⟩ (.int .i64 (f x y)) ⟨[[.int .i64 d]], [], [], []⟩) :
    Run cfg X 266 [.sl (a.map Tm.cells), .sl (b.map Tm.cells), .fn (.func 267) [] [.ptr 0 0]] ⟨[[.int .i64 d]], [], [], []⟩ (.int .i64 (cmpL f a b)) ⟨[[.int .i64 d]], [], [], []⟩ := by
  refine Run.fn [.tmp 6] [3] Tryz.func266 rfl (by simp [Tryz.ntmps266]) rfl rfl (by kernel_rfl) ?_
  simp
  refine wp_loop (fun k s => ∃ i : Nat, k = a.length - i ∧ i ≤ a.length ∧ i ≤ b.length ∧ cmpL f a b = cmpL f (a.drop i) (b.drop i) ∧
      s = ⟨[(13, .int .i64 i), (12, .int .i64 a.length), (11, .sl (a.map Tm.cells)), (0, .sl (a.map Tm.cells)), (1, .sl (b.map Tm.cells)), (2, .fn (.func 267) [] [.ptr 0 0])], ⟨[[.int .i64 d]], [], [], []⟩⟩)
    { env := [13, 12, 11, 0, 1, 2] } a.length ⟨0, by simp, by simp, by simp, by simp, by simp⟩ ?_
  rintro k s ⟨i, rfl, hi, hib, hc, rfl⟩
  simp
  (first | (refine guardK_true ?_ ?_ <;> intro hg <;> ((have hg0 := hg); (try simp only [decide_eq_true_eq, decide_eq_false_iff_not, Bool.not_eq_true', Bool.not_eq_false', beq_iff_eq, beq_eq_false_iff_ne, bne_iff_ne, ne_eq, bne_eq_false_iff_eq, List.isEmpty_iff, List.isEmpty_eq_false_iff] at hg) <;> (try simp [hg0, hg]) <;> clear hg0) <;> (try (revert hg; intro _))) | (refine guardK_false ?_ ?_ <;> intro hg <;> ((have hg0 := hg); (try simp only [decide_eq_true_eq, decide_eq_false_iff_not, Bool.not_eq_true', Bool.not_eq_false', beq_iff_eq, beq_eq_false_iff_ne, bne_iff_ne, ne_eq, bne_eq_false_iff_eq, List.isEmpty_iff, List.isEmpty_eq_false_iff] at hg) <;> (try simp [hg0, hg]) <;> clear hg0) <;> (try (revert hg; intro _))) | (refine boolK_by ?_ ?_ <;> intro hg <;> ((have hg0 := hg); (try simp only [decide_eq_true_eq, decide_eq_false_iff_not, Bool.not_eq_true', Bool.not_eq_false', beq_iff_eq, beq_eq_false_iff_ne, bne_iff_ne, ne_eq, bne_eq_false_iff_eq, List.isEmpty_iff, List.isEmpty_eq_false_iff] at hg) <;> (try simp [hg0, hg]) <;> clear hg0) <;> (try (revert hg; intro _))))
  · rename_i hlt
    simp [Tm.cells_eq]
    (first | (refine guardK_true ?_ ?_ <;> intro hg <;> ((have hg0 := hg); (try simp only [decide_eq_true_eq, decide_eq_false_iff_not, Bool.not_eq_true', Bool.not_eq_false', beq_iff_eq, beq_eq_false_iff_ne, bne_iff_ne, ne_eq, bne_eq_false_iff_eq, List.isEmpty_iff, List.isEmpty_eq_false_iff] at hg) <;> (try simp [hg0, hg]) <;> clear hg0) <;> (try (revert hg; intro _))) | (refine guardK_false ?_ ?_ <;> intro hg <;> ((have hg0 := hg); (try simp only [decide_eq_true_eq, decide_eq_false_iff_not, Bool.not_eq_true', Bool.not_eq_false', beq_iff_eq, beq_eq_false_iff_ne, bne_iff_ne, ne_eq, bne_eq_false_iff_eq, List.isEmpty_iff, List.isEmpty_eq_false_iff] at hg) <;> (try simp [hg0, hg]) <;> clear hg0) <;> (try (revert hg; intro _))) | (refine boolK_by ?_ ?_ <;> intro hg <;> ((have hg0 := hg); (try simp only [decide_eq_true_eq, decide_eq_false_iff_not, Bool.not_eq_true', Bool.not_eq_false', beq_iff_eq, beq_eq_false_iff_ne, bne_iff_ne, ne_eq, bne_eq_false_iff_eq, List.isEmpty_iff, List.isEmpty_eq_false_iff] at hg) <;> (try simp [hg0, hg]) <;> clear hg0) <;> (try (revert hg; intro _))))
    · rename_i h2
      have e2 : cmpL f a b = 1 := by rw [hc, List.drop_eq_nil_of_le h2, List.drop_eq_getElem_cons hlt]; rfl
      simp [e2]
    · have hlb : i < b.length := by omega
      rw [cmpL_drop _ hlt hlb] at hc
      simp [hlb, Tm.cells_eq]
      have hm := hf a[i] (List.getElem_mem hlt) b[i] (List.getElem_mem hlb)
      simp only [Tm.cells_eq] at hm
      refine runK_of hm ?_
      simp
      (repeat' (first | (first | (refine guardK_true ?_ ?_ <;> intro hg <;> ((have hg0 := hg); (try simp only [decide_eq_true_eq, decide_eq_false_iff_not, Bool.not_eq_true', Bool.not_eq_false', beq_iff_eq, beq_eq_false_iff_ne, bne_iff_ne, ne_eq, bne_eq_false_iff_eq, List.isEmpty_iff, List.isEmpty_eq_false_iff] at hg) <;> (try simp [hg0, hg]) <;> clear hg0) <;> (try (revert hg; intro _))) | (refine guardK_false ?_ ?_ <;> intro hg <;> ((have hg0 := hg); (try simp only [decide_eq_true_eq, decide_eq_false_iff_not, Bool.not_eq_true', Bool.not_eq_false', beq_iff_eq, beq_eq_false_iff_ne, bne_iff_ne, ne_eq, bne_eq_false_iff_eq, List.isEmpty_iff, List.isEmpty_eq_false_iff] at hg) <;> (try simp [hg0, hg]) <;> clear hg0) <;> (try (revert hg; intro _))) | (refine boolK_by ?_ ?_ <;> intro hg <;> ((have hg0 := hg); (try simp only [decide_eq_true_eq, decide_eq_false_iff_not, Bool.not_eq_true', Bool.not_eq_false', beq_iff_eq, beq_eq_false_iff_ne, bne_iff_ne, ne_eq, bne_eq_false_iff_eq, List.isEmpty_iff, List.isEmpty_eq_false_iff] at hg) <;> (try simp [hg0, hg]) <;> clear hg0) <;> (try (revert hg; intro _)))) | (refine And.intro ?_ ?_; (first | assumption | omega | kernel_rfl); try simp)))
      any_goals (rw [hc]; simp [*]; done)
      refine loopK_back { env := [13, 12, 11, 0, 1, 2] } (a.length - (i + 1)) (by omega) ⟨i + 1, rfl, by omega, by omega, by rw [hc]; simp [*], ?_⟩
      simp [wrap64_id (n := (i : Int) + 1) (by omega) (by omega)]
  · rename_i h1
    have hi' : i = a.length := by omega
    subst hi'
    rw [List.drop_length] at hc
    (first | (refine guardK_true ?_ ?_ <;> intro hg <;> ((have hg0 := hg); (try simp only [decide_eq_true_eq, decide_eq_false_iff_not, Bool.not_eq_true', Bool.not_eq_false', beq_iff_eq, beq_eq_false_iff_ne, bne_iff_ne, ne_eq, bne_eq_false_iff_eq, List.isEmpty_iff, List.isEmpty_eq_false_iff] at hg) <;> (try simp [hg0, hg]) <;> clear hg0) <;> (try (revert hg; intro _))) | (refine guardK_false ?_ ?_ <;> intro hg <;> ((have hg0 := hg); (try simp only [decide_eq_true_eq, decide_eq_false_iff_not, Bool.not_eq_true', Bool.not_eq_false', beq_iff_eq, beq_eq_false_iff_ne, bne_iff_ne, ne_eq, bne_eq_false_iff_eq, List.isEmpty_iff, List.isEmpty_eq_false_iff] at hg) <;> (try simp [hg0, hg]) <;> clear hg0) <;> (try (revert hg; intro _))) | (refine boolK_by ?_ ?_ <;> intro hg <;> ((have hg0 := hg); (try simp only [decide_eq_true_eq, decide_eq_false_iff_not, Bool.not_eq_true', Bool.not_eq_false', beq_iff_eq, beq_eq_false_iff_ne, bne_iff_ne, ne_eq, bne_eq_false_iff_eq, List.isEmpty_iff, List.isEmpty_eq_false_iff] at hg) <;> (try simp [hg0, hg]) <;> clear hg0) <;> (try (revert hg; intro _))))
    · rename_i h2
      obtain ⟨y, q, hy⟩ : ∃ y q, b.drop a.length = y :: q := ⟨_, _, List.drop_eq_getElem_cons h2⟩
      have e2 : cmpL f a b = -1 := by rw [hc, hy]; rfl
      simp [e2]
    · rename_i h2
      have e2 : cmpL f a b = 0 := by rw [hc, List.drop_eq_nil_of_le (by omega)]; rfl
      simp [e2]
def cmpT : Nat → Tm → Tm → Int
  | 0, a, b => orR [cmpI a.kind b.kind, cmpI a.n b.n, cmpS a.s b.s]
  | d + 1, a, b => if orR [cmpI a.kind b.kind, cmpI a.n b.n, cmpS a.s b.s] ≠ 0 then orR [cmpI a.kind b.kind, cmpI a.n b.n, cmpS a.s b.s] else cmpL (cmpT d) a.l b.l
theorem f267 (X : CallRel) (d : Nat) (hd : d ≤ 6) (a b : Tm) (h : Run cfg X 229 [.agg a.cells, .agg b.cells, .int .i64 d] m0 (.int .i64 (cmpT d a b)) m0) :
    Run cfg X 267 [.agg a.cells, .agg b.cells, .ptr 0 0] ⟨[[.int .i64 (d + 1)]], [], [], []⟩ (.int .i64 (cmpT d a b)) ⟨[[.int .i64 (d + 1)]], [], [], []⟩ := by
  refine Run.fn [.tmp 5] [3] Tryz.func267 rfl (by simp [Tryz.ntmps267]) rfl rfl (by kernel_rfl) ?_
  simp only [Tm.cells_eq] at h
  simp [Tm.cells_eq, wrap64_id (n := (d : Int)) (by omega) (by omega)]
  refine runK_of h ?_
  simp
set_option maxHeartbeats 4000000 in
theorem f229 (X : CallRel) : ∀ (d : Nat) (a b : Tm), d ≤ 6 → a.small → Run cfg X 229 [.agg a.cells, .agg b.cells, .int .i64 d] m0 (.int .i64 (cmpT d a b)) m0 := by
  intro d
  induction d with
  | zero =>
    intro a b hd hs
    refine Run.fn [.tmp 6] [3] Tryz.func229 rfl (by simp [Tryz.ntmps229]) rfl rfl (by kernel_rfl) ?_
    simp [Tm.cells_eq]
    refine runK_of (f263 X _ _) ?_
    simp
    refine runK_of (f264 X _ _) ?_
    simp
    refine runK_of (f265 X _ _) ?_
    simp
    refine runK_of (f262 X [cmpI a.kind b.kind, cmpI a.n b.n, cmpS a.s b.s] (by simp)) ?_
    simp
    (repeat' (first | (first | (refine guardK_true ?_ ?_ <;> intro hg <;> ((have hg0 := hg); (try simp only [decide_eq_true_eq, decide_eq_false_iff_not, Bool.not_eq_true', Bool.not_eq_false', beq_iff_eq, beq_eq_false_iff_ne, bne_iff_ne, ne_eq, bne_eq_false_iff_eq, List.isEmpty_iff, List.isEmpty_eq_false_iff] at hg) <;> (try simp [hg0, hg]) <;> clear hg0) <;> (try (revert hg; intro _))) | (refine guardK_false ?_ ?_ <;> intro hg <;> ((have hg0 := hg); (try simp only [decide_eq_true_eq, decide_eq_false_iff_not, Bool.not_eq_true', Bool.not_eq_false', beq_iff_eq, beq_eq_false_iff_ne, bne_iff_ne, ne_eq, bne_eq_false_iff_eq, List.isEmpty_iff, List.isEmpty_eq_false_iff] at hg) <;> (try simp [hg0, hg]) <;> clear hg0) <;> (try (revert hg; intro _))) | (refine boolK_by ?_ ?_ <;> intro hg <;> ((have hg0 := hg); (try simp only [decide_eq_true_eq, decide_eq_false_iff_not, Bool.not_eq_true', Bool.not_eq_false', beq_iff_eq, beq_eq_false_iff_ne, bne_iff_ne, ne_eq, bne_eq_false_iff_eq, List.isEmpty_iff, List.isEmpty_eq_false_iff] at hg) <;> (try simp [hg0, hg]) <;> clear hg0) <;> (try (revert hg; intro _)))) | (refine And.intro ?_ ?_; (first | assumption | omega | kernel_rfl); try simp)))
    all_goals simp [cmpT, *]
  | succ d ih =>
    intro a b hd hs
    have hs' := Tm.small_iff.1 hs
    refine Run.fn [.tmp 6] [3] Tryz.func229 rfl (by simp [Tryz.ntmps229]) rfl rfl (by kernel_rfl) ?_
    simp [Tm.cells_eq]
    refine runK_of (f263 X _ _) ?_
    simp
    refine runK_of (f264 X _ _) ?_
    simp
    refine runK_of (f265 X _ _) ?_
    simp
    refine runK_of (f262 X [cmpI a.kind b.kind, cmpI a.n b.n, cmpS a.s b.s] (by simp)) ?_
    simp
    (repeat' (first | (first | (refine guardK_true ?_ ?_ <;> intro hg <;> ((have hg0 := hg); (try simp only [decide_eq_true_eq, decide_eq_false_iff_not, Bool.not_eq_true', Bool.not_eq_false', beq_iff_eq, beq_eq_false_iff_ne, bne_iff_ne, ne_eq, bne_eq_false_iff_eq, List.isEmpty_iff, List.isEmpty_eq_false_iff] at hg) <;> (try simp [hg0, hg]) <;> clear hg0) <;> (try (revert hg; intro _))) | (refine guardK_false ?_ ?_ <;> intro hg <;> ((have hg0 := hg); (try simp only [decide_eq_true_eq, decide_eq_false_iff_not, Bool.not_eq_true', Bool.not_eq_false', beq_iff_eq, beq_eq_false_iff_ne, bne_iff_ne, ne_eq, bne_eq_false_iff_eq, List.isEmpty_iff, List.isEmpty_eq_false_iff] at hg) <;> (try simp [hg0, hg]) <;> clear hg0) <;> (try (revert hg; intro _))) | (refine boolK_by ?_ ?_ <;> intro hg <;> ((have hg0 := hg); (try simp only [decide_eq_true_eq, decide_eq_false_iff_not, Bool.not_eq_true', Bool.not_eq_false', beq_iff_eq, beq_eq_false_iff_ne, bne_iff_ne, ne_eq, bne_eq_false_iff_eq, List.isEmpty_iff, List.isEmpty_eq_false_iff] at hg) <;> (try simp [hg0, hg]) <;> clear hg0) <;> (try (revert hg; intro _)))) | (refine And.intro ?_ ?_; (first | assumption | omega | kernel_rfl); try simp)))
    any_goals (exfalso; omega)
    any_goals (simp [cmpT, *]; done)
    refine runK_of (f266 X ((d : Int) + 1) (cmpT d) a.l b.l hs'.2.1 fun x hx y hy => f267 X d (by omega) x y (ih x y (by omega) (hs'.2.2 x hx))) ?_
    simp
    simp [cmpT, *]
theorem f184 (X : CallRel) (a b : Tm) (h : a.small) : Run cfg X 184 [.agg a.cells, .agg b.cells] m0 (.int .i64 (cmpT 3 a b)) m0 := by
  refine Run.fn [.tmp 4] [3] Tryz.func184 rfl (by simp [Tryz.ntmps184]) rfl rfl (by kernel_rfl) ?_
  simp [Tm.cells_eq]
  refine runK_of (by simpa [Tm.cells_eq] using f229 X 3 a b (by omega) h) ?_
  simp
end Go.Vm

namespace Go.Vm
open Go Go.Proofs
theorem f169 (X : CallRel) (c : Int) : Run cfg X 169 [.int .u8 c] m0 (.bool (letterB c)) m0 := by
  refine Run.fn [.tmp 2] [4] Tryz.func169 rfl (by simp [Tryz.ntmps169]) rfl rfl (by kernel_rfl) ?_
  simp
  (repeat' (first | (first | (refine guardK_true ?_ ?_ <;> intro hg <;> ((have hg0 := hg); (try simp only [decide_eq_true_eq, decide_eq_false_iff_not, Bool.not_eq_true', Bool.not_eq_false', beq_iff_eq, beq_eq_false_iff_ne, bne_iff_ne, ne_eq, bne_eq_false_iff_eq, List.isEmpty_iff, List.isEmpty_eq_false_iff] at hg) <;> (try simp [hg0, hg]) <;> clear hg0) <;> (try (revert hg; intro _))) | (refine guardK_false ?_ ?_ <;> intro hg <;> ((have hg0 := hg); (try simp only [decide_eq_true_eq, decide_eq_false_iff_not, Bool.not_eq_true', Bool.not_eq_false', beq_iff_eq, beq_eq_false_iff_ne, bne_iff_ne, ne_eq, bne_eq_false_iff_eq, List.isEmpty_iff, List.isEmpty_eq_false_iff] at hg) <;> (try simp [hg0, hg]) <;> clear hg0) <;> (try (revert hg; intro _))) | (refine boolK_by ?_ ?_ <;> intro hg <;> ((have hg0 := hg); (try simp only [decide_eq_true_eq, decide_eq_false_iff_not, Bool.not_eq_true', Bool.not_eq_false', beq_iff_eq, beq_eq_false_iff_ne, bne_iff_ne, ne_eq, bne_eq_false_iff_eq, List.isEmpty_iff, List.isEmpty_eq_false_iff] at hg) <;> (try simp [hg0, hg]) <;> clear hg0) <;> (try (revert hg; intro _)))) | (refine And.intro ?_ ?_; (first | assumption | omega | kernel_rfl); try simp)))
  all_goals simp [letterB, *]
def prefR (a b : S) : Bool := if (b.length : Int) ≤ a.length then a.take b.length == b else false
theorem f196 (X : CallRel) (a b : S) : Run cfg X 196 [.str (bs a), .str (bs b)] m0 (.bool (prefR a b)) m0 := by
  refine Run.fn [.tmp 4] [4] Tryz.func196 rfl (by simp [Tryz.ntmps196]) rfl rfl (by kernel_rfl) ?_
  simp
  (repeat' (first | (first | (refine guardK_true ?_ ?_ <;> intro hg <;> ((have hg0 := hg); (try simp only [decide_eq_true_eq, decide_eq_false_iff_not, Bool.not_eq_true', Bool.not_eq_false', beq_iff_eq, beq_eq_false_iff_ne, bne_iff_ne, ne_eq, bne_eq_false_iff_eq, List.isEmpty_iff, List.isEmpty_eq_false_iff] at hg) <;> (try simp [hg0, hg]) <;> clear hg0) <;> (try (revert hg; intro _))) | (refine guardK_false ?_ ?_ <;> intro hg <;> ((have hg0 := hg); (try simp only [decide_eq_true_eq, decide_eq_false_iff_not, Bool.not_eq_true', Bool.not_eq_false', beq_iff_eq, beq_eq_false_iff_ne, bne_iff_ne, ne_eq, bne_eq_false_iff_eq, List.isEmpty_iff, List.isEmpty_eq_false_iff] at hg) <;> (try simp [hg0, hg]) <;> clear hg0) <;> (try (revert hg; intro _))) | (refine boolK_by ?_ ?_ <;> intro hg <;> ((have hg0 := hg); (try simp only [decide_eq_true_eq, decide_eq_false_iff_not, Bool.not_eq_true', Bool.not_eq_false', beq_iff_eq, beq_eq_false_iff_ne, bne_iff_ne, ne_eq, bne_eq_false_iff_eq, List.isEmpty_iff, List.isEmpty_eq_false_iff] at hg) <;> (try simp [hg0, hg]) <;> clear hg0) <;> (try (revert hg; intro _)))) | (refine And.intro ?_ ?_; (first | assumption | omega | kernel_rfl); try simp)))
  all_goals simp [prefR, *]
theorem f133 (X : CallRel) (a b : S) : Run cfg X 133 [.str (bs a), .str (bs b)] m0 (.bool (prefR a b)) m0 := by
  refine Run.fn [.tmp 4] [4] Tryz.func133 rfl (by simp [Tryz.ntmps133]) rfl rfl (by kernel_rfl) ?_
  simp
  refine runK_of (f196 X a b) ?_
  simp
def nameBad (i c : Int) : Bool := if letterB c = true then false else if i = 0 then true else if c = 95 then false else if c = 58 then false else if c < 48 then true else decide (57 < c)
def goodFrom (i : Nat) : S → Bool
  | [] => true
  | c :: r => if nameBad i (c.toNat : Int) = true then false else goodFrom (i + 1) r
def nameT (l : S) : Bool := if goodFrom 0 l = true then if 1 ≤ (l.length : Int) then if (l.length : Int) ≤ 32 then !prefR l [104, 101, 120, 58] else false else false else false
theorem f101 (X : CallRel) (l : S) (hl : l.length ≤ 9223372036854775807) : Run cfg X 101 [.str (bs l)] m0 (.bool (nameT l)) m0 := by
  refine Run.fn [.tmp 2] [4] Tryz.func101 rfl (by simp [Tryz.ntmps101]) rfl rfl (by kernel_rfl) ?_
  simp
  refine wp_loop (fun k s => ∃ i : Nat, k = l.length - i ∧ i ≤ l.length ∧ goodFrom 0 l = goodFrom i (l.drop i) ∧
      s = ⟨[(7, .int .i64 i), (6, .int .i64 l.length), (2, .bool false), (0, .str (bs l))], m0⟩)
    { env := [7, 6, 2, 0] } l.length ⟨0, by simp, by simp, by simp, by simp⟩ ?_
  rintro k s ⟨i, rfl, hi, hc, rfl⟩
  simp
  (first | (refine guardK_true ?_ ?_ <;> intro hg <;> ((have hg0 := hg); (try simp only [decide_eq_true_eq, decide_eq_false_iff_not, Bool.not_eq_true', Bool.not_eq_false', beq_iff_eq, beq_eq_false_iff_ne, bne_iff_ne, ne_eq, bne_eq_false_iff_eq, List.isEmpty_iff, List.isEmpty_eq_false_iff] at hg) <;> (try simp [hg0, hg]) <;> clear hg0) <;> (try (revert hg; intro _))) | (refine guardK_false ?_ ?_ <;> intro hg <;> ((have hg0 := hg); (try simp only [decide_eq_true_eq, decide_eq_false_iff_not, Bool.not_eq_true', Bool.not_eq_false', beq_iff_eq, beq_eq_false_iff_ne, bne_iff_ne, ne_eq, bne_eq_false_iff_eq, List.isEmpty_iff, List.isEmpty_eq_false_iff] at hg) <;> (try simp [hg0, hg]) <;> clear hg0) <;> (try (revert hg; intro _))) | (refine boolK_by ?_ ?_ <;> intro hg <;> ((have hg0 := hg); (try simp only [decide_eq_true_eq, decide_eq_false_iff_not, Bool.not_eq_true', Bool.not_eq_false', beq_iff_eq, beq_eq_false_iff_ne, bne_iff_ne, ne_eq, bne_eq_false_iff_eq, List.isEmpty_iff, List.isEmpty_eq_false_iff] at hg) <;> (try simp [hg0, hg]) <;> clear hg0) <;> (try (revert hg; intro _))))
  · rename_i hlt
    rw [List.drop_eq_getElem_cons hlt, goodFrom] at hc
    have hb : IntKind.i64.wrap ((i : Int) + 1) = (i : Int) + 1 := wrap64_id (by omega) (by omega)
    refine runK_of (by simpa using f169 X _) ?_
    simp
    (repeat' (first | (first | (refine guardK_true ?_ ?_ <;> intro hg <;> ((have hg0 := hg); (try simp only [decide_eq_true_eq, decide_eq_false_iff_not, Bool.not_eq_true', Bool.not_eq_false', beq_iff_eq, beq_eq_false_iff_ne, bne_iff_ne, ne_eq, bne_eq_false_iff_eq, List.isEmpty_iff, List.isEmpty_eq_false_iff] at hg) <;> (try simp [hg0, hg]) <;> clear hg0) <;> (try (revert hg; intro _))) | (refine guardK_false ?_ ?_ <;> intro hg <;> ((have hg0 := hg); (try simp only [decide_eq_true_eq, decide_eq_false_iff_not, Bool.not_eq_true', Bool.not_eq_false', beq_iff_eq, beq_eq_false_iff_ne, bne_iff_ne, ne_eq, bne_eq_false_iff_eq, List.isEmpty_iff, List.isEmpty_eq_false_iff] at hg) <;> (try simp [hg0, hg]) <;> clear hg0) <;> (try (revert hg; intro _))) | (refine boolK_by ?_ ?_ <;> intro hg <;> ((have hg0 := hg); (try simp only [decide_eq_true_eq, decide_eq_false_iff_not, Bool.not_eq_true', Bool.not_eq_false', beq_iff_eq, beq_eq_false_iff_ne, bne_iff_ne, ne_eq, bne_eq_false_iff_eq, List.isEmpty_iff, List.isEmpty_eq_false_iff] at hg) <;> (try simp [hg0, hg]) <;> clear hg0) <;> (try (revert hg; intro _)))) | (refine And.intro ?_ ?_; (first | assumption | omega | kernel_rfl); try simp)))
    any_goals (simp [nameT, hc, nameBad, *]; done)
    all_goals
      have hg : goodFrom 0 l = goodFrom (i + 1) (l.drop (i + 1)) := by
        first
          | (rw [hc]; simp [nameBad, *]; done)
          | (have hi0 : ¬ i = 0 := by omega
             rw [hc]
             simp [nameBad, hi0, *])
      refine loopK_back { env := [7, 6, 2, 0] } (l.length - (i + 1)) (by omega) ⟨i + 1, rfl, by omega, hg, ?_⟩
      simp [hb]
  · obtain rfl : i = l.length := by omega
    rw [List.drop_length, goodFrom] at hc
    (repeat' (first | (first | (refine guardK_true ?_ ?_ <;> intro hg <;> ((have hg0 := hg); (try simp only [decide_eq_true_eq, decide_eq_false_iff_not, Bool.not_eq_true', Bool.not_eq_false', beq_iff_eq, beq_eq_false_iff_ne, bne_iff_ne, ne_eq, bne_eq_false_iff_eq, List.isEmpty_iff, List.isEmpty_eq_false_iff] at hg) <;> (try simp [hg0, hg]) <;> clear hg0) <;> (try (revert hg; intro _))) | (refine guardK_false ?_ ?_ <;> intro hg <;> ((have hg0 := hg); (try simp only [decide_eq_true_eq, decide_eq_false_iff_not, Bool.not_eq_true', Bool.not_eq_false', beq_iff_eq, beq_eq_false_iff_ne, bne_iff_ne, ne_eq, bne_eq_false_iff_eq, List.isEmpty_iff, List.isEmpty_eq_false_iff] at hg) <;> (try simp [hg0, hg]) <;> clear hg0) <;> (try (revert hg; intro _))) | (refine boolK_by ?_ ?_ <;> intro hg <;> ((have hg0 := hg); (try simp only [decide_eq_true_eq, decide_eq_false_iff_not, Bool.not_eq_true', Bool.not_eq_false', beq_iff_eq, beq_eq_false_iff_ne, bne_iff_ne, ne_eq, bne_eq_false_iff_eq, List.isEmpty_iff, List.isEmpty_eq_false_iff] at hg) <;> (try simp [hg0, hg]) <;> clear hg0) <;> (try (revert hg; intro _)))) | (refine And.intro ?_ ?_; (first | assumption | omega | kernel_rfl); try simp)))
    any_goals (simp [nameT, hc, *]; done)
    refine runK_of (f133 X _ _) ?_
    simp [nameT, hc, *]
end Go.Vm
