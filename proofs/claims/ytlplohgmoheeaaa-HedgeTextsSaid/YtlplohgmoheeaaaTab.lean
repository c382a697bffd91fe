/- The types and functions of this seat as the abstract machine takes them, and the check that they are in order. -/
import Derived.Test.YtlplohgmoheeaaaAmEntry
import Derived.Test.YtlplohgmoheeaaaAmData
import Derived.Test.YtlplohgmoheeaaaProg
import Derived.KernelRfl
set_option linter.unusedVariables false
set_option linter.unusedSimpArgs false
namespace Go.AM.S02
open Go Go.Proofs Go.AM
set_option maxRecDepth 100000
noncomputable def TY : List TI := [
 ⟨.tup [], 1, 0, [], false⟩,
 ⟨.fn, 1, 8, [.lit .nilFunc], false⟩,
 ⟨.int .i64, 1, 8, [.lit (.int .i64 0)], false⟩,
 ⟨.int .i64, 1, 8, [.lit (.int .i64 0)], false⟩,
 ⟨.bool, 1, 1, [.lit (.bool false)], false⟩,
 ⟨.int .u8, 1, 1, [.lit (.int .u8 0)], false⟩,
 ⟨.int .u8, 1, 1, [.lit (.int .u8 0)], false⟩,
 ⟨.st [(0, 2), (1, 3), (2, 4), (3, 6)], 4, 24, [.lit (.int .i64 0), .lit (.int .i64 0), .lit (.bool false), .lit (.int .u8 0)], true⟩,
 ⟨.st [(0, 2), (1, 3), (2, 4), (3, 6)], 4, 24, [.lit (.int .i64 0), .lit (.int .i64 0), .lit (.bool false), .lit (.int .u8 0)], true⟩,
 ⟨.str, 1, 16, [.lit (.string ByteArray.empty)], false⟩,
 ⟨.str, 1, 16, [.lit (.string ByteArray.empty)], false⟩,
 ⟨.str, 1, 16, [.lit (.string ByteArray.empty)], false⟩,
 ⟨.int .u64, 1, 8, [.lit (.int .u64 0)], false⟩,
 ⟨.st [(0, 9), (1, 12)], 2, 24, [.lit (.string ByteArray.empty), .lit (.int .u64 0)], false⟩,
 ⟨.st [(0, 9), (1, 12)], 2, 24, [.lit (.string ByteArray.empty), .lit (.int .u64 0)], false⟩,
 ⟨.ptr 125, 1, 8, [.lit (.pointer none)], false⟩,
 ⟨.ptr 128, 1, 8, [.lit (.pointer none)], false⟩,
 ⟨.ptr 138, 1, 8, [.lit (.pointer none)], false⟩,
 ⟨.st [(0, 17)], 1, 8, [.lit (.pointer none)], false⟩,
 ⟨.st [(0, 17)], 1, 8, [.lit (.pointer none)], false⟩,
 ⟨.ifc, 1, 16, [.lit .nilIface], false⟩,
 ⟨.int .i32, 1, 4, [.lit (.int .i32 0)], false⟩,
 ⟨.sl 24, 1, 24, [.sl none 2 []], false⟩,
 ⟨.st [(0, 3), (1, 22)], 2, 32, [.lit (.int .i64 0), .sl none 2 []], false⟩,
 ⟨.st [(0, 3), (1, 22)], 2, 32, [.lit (.int .i64 0), .sl none 2 []], false⟩,
 ⟨.fn, 1, 8, [.lit .nilFunc], false⟩,
 ⟨.fn, 1, 8, [.lit .nilFunc], false⟩,
 ⟨.sl 37, 1, 24, [.sl none 4 []], false⟩,
 ⟨.int .i64, 1, 8, [.lit (.int .i64 0)], false⟩,
 ⟨.tup [27, 28], 1, 0, [.sl none 4 [], .lit (.int .i64 0)], false⟩,
 ⟨.fn, 1, 8, [.lit .nilFunc], false⟩,
 ⟨.sl 71, 1, 24, [.sl none 4 []], false⟩,
 ⟨.tup [31, 28], 1, 0, [.sl none 4 [], .lit (.int .i64 0)], false⟩,
 ⟨.fn, 1, 8, [.lit .nilFunc], false⟩,
 ⟨.fn, 1, 8, [.lit .nilFunc], false⟩,
 ⟨.fn, 1, 8, [.lit .nilFunc], false⟩,
 ⟨.st [(0, 3), (1, 3), (2, 3), (3, 3)], 4, 32, [.lit (.int .i64 0), .lit (.int .i64 0), .lit (.int .i64 0), .lit (.int .i64 0)], true⟩,
 ⟨.st [(0, 3), (1, 3), (2, 3), (3, 3)], 4, 32, [.lit (.int .i64 0), .lit (.int .i64 0), .lit (.int .i64 0), .lit (.int .i64 0)], true⟩,
 ⟨.fn, 1, 8, [.lit .nilFunc], false⟩,
 ⟨.sl 41, 1, 24, [.sl none 2 []], false⟩,
 ⟨.st [(0, 3), (1, 39)], 2, 32, [.lit (.int .i64 0), .sl none 2 []], false⟩,
 ⟨.st [(0, 3), (1, 39)], 2, 32, [.lit (.int .i64 0), .sl none 2 []], false⟩,
 ⟨.fn, 1, 8, [.lit .nilFunc], false⟩,
 ⟨.tup [41, 28], 1, 0, [.lit (.int .i64 0), .sl none 2 [], .lit (.int .i64 0)], false⟩,
 ⟨.fn, 1, 8, [.lit .nilFunc], false⟩,
 ⟨.tup [22, 28], 1, 0, [.sl none 2 [], .lit (.int .i64 0)], false⟩,
 ⟨.fn, 1, 8, [.lit .nilFunc], false⟩,
 ⟨.fn, 1, 8, [.lit .nilFunc], false⟩,
 ⟨.fn, 1, 8, [.lit .nilFunc], false⟩,
 ⟨.fn, 1, 8, [.lit .nilFunc], false⟩,
 ⟨.sl 3, 1, 24, [.sl none 1 []], false⟩,
 ⟨.st [(0, 50)], 1, 24, [.sl none 1 []], false⟩,
 ⟨.st [(0, 50)], 1, 24, [.sl none 1 []], false⟩,
 ⟨.tup [52, 28], 1, 0, [.sl none 1 [], .lit (.int .i64 0)], false⟩,
 ⟨.fn, 1, 8, [.lit .nilFunc], false⟩,
 ⟨.fn, 1, 8, [.lit .nilFunc], false⟩,
 ⟨.fn, 1, 8, [.lit .nilFunc], false⟩,
 ⟨.fn, 1, 8, [.lit .nilFunc], false⟩,
 ⟨.fn, 1, 8, [.lit .nilFunc], false⟩,
 ⟨.fn, 1, 8, [.lit .nilFunc], false⟩,
 ⟨.sl 9, 1, 24, [.sl none 1 []], false⟩,
 ⟨.tup [9, 28], 1, 0, [.lit (.string ByteArray.empty), .lit (.int .i64 0)], false⟩,
 ⟨.fn, 1, 8, [.lit .nilFunc], false⟩,
 ⟨.fn, 1, 8, [.lit .nilFunc], false⟩,
 ⟨.fn, 1, 8, [.lit .nilFunc], false⟩,
 ⟨.fn, 1, 8, [.lit .nilFunc], false⟩,
 ⟨.fn, 1, 8, [.lit .nilFunc], false⟩,
 ⟨.fn, 1, 8, [.lit .nilFunc], false⟩,
 ⟨.fn, 1, 8, [.lit .nilFunc], false⟩,
 ⟨.fn, 1, 8, [.lit .nilFunc], false⟩,
 ⟨.fn, 1, 8, [.lit .nilFunc], false⟩,
 ⟨.st [(0, 3), (1, 3), (2, 3), (3, 3)], 4, 32, [.lit (.int .i64 0), .lit (.int .i64 0), .lit (.int .i64 0), .lit (.int .i64 0)], true⟩,
 ⟨.fn, 1, 8, [.lit .nilFunc], false⟩,
 ⟨.fn, 1, 8, [.lit .nilFunc], false⟩,
 ⟨.fn, 1, 8, [.lit .nilFunc], false⟩,
 ⟨.fn, 1, 8, [.lit .nilFunc], false⟩,
 ⟨.fn, 1, 8, [.lit .nilFunc], false⟩,
 ⟨.fn, 1, 8, [.lit .nilFunc], false⟩,
 ⟨.fn, 1, 8, [.lit .nilFunc], false⟩,
 ⟨.sl 81, 1, 24, [.sl none 3 []], false⟩,
 ⟨.st [(0, 3), (1, 3), (2, 79)], 3, 40, [.lit (.int .i64 0), .lit (.int .i64 0), .sl none 3 []], false⟩,
 ⟨.st [(0, 3), (1, 3), (2, 79)], 3, 40, [.lit (.int .i64 0), .lit (.int .i64 0), .sl none 3 []], false⟩,
 ⟨.fn, 1, 8, [.lit .nilFunc], false⟩,
 ⟨.fn, 1, 8, [.lit .nilFunc], false⟩,
 ⟨.ptr 3, 1, 8, [.lit (.pointer none)], false⟩,
 ⟨.fn, 1, 8, [.lit .nilFunc], false⟩,
 ⟨.fn, 1, 8, [.lit .nilFunc], false⟩,
 ⟨.sl 5, 1, 24, [.sl none 1 []], false⟩,
 ⟨.fn, 1, 8, [.lit .nilFunc], false⟩,
 ⟨.fn, 1, 8, [.lit .nilFunc], false⟩,
 ⟨.fn, 1, 8, [.lit .nilFunc], false⟩,
 ⟨.ptr 93, 1, 8, [.lit (.pointer none)], false⟩,
 ⟨.st [(0, 60), (1, 9), (2, 4)], 3, 48, [.sl none 1 [], .lit (.string ByteArray.empty), .lit (.bool false)], false⟩,
 ⟨.st [(0, 60), (1, 9), (2, 4)], 3, 48, [.sl none 1 [], .lit (.string ByteArray.empty), .lit (.bool false)], false⟩,
 ⟨.fn, 1, 8, [.lit .nilFunc], false⟩,
 ⟨.fn, 1, 8, [.lit .nilFunc], false⟩,
 ⟨.fn, 1, 8, [.lit .nilFunc], false⟩,
 ⟨.fn, 1, 8, [.lit .nilFunc], false⟩,
 ⟨.fn, 1, 8, [.lit .nilFunc], false⟩,
 ⟨.fn, 1, 8, [.lit .nilFunc], false⟩,
 ⟨.fn, 1, 8, [.lit .nilFunc], false⟩,
 ⟨.fn, 1, 8, [.lit .nilFunc], false⟩,
 ⟨.fn, 1, 8, [.lit .nilFunc], false⟩,
 ⟨.fn, 1, 8, [.lit .nilFunc], false⟩,
 ⟨.fn, 1, 8, [.lit .nilFunc], false⟩,
 ⟨.fn, 1, 8, [.lit .nilFunc], false⟩,
 ⟨.fn, 1, 8, [.lit .nilFunc], false⟩,
 ⟨.fn, 1, 8, [.lit .nilFunc], false⟩,
 ⟨.fn, 1, 8, [.lit .nilFunc], false⟩,
 ⟨.ptr 28, 1, 8, [.lit (.pointer none)], false⟩,
 ⟨.ptr 119, 1, 8, [.lit (.pointer none)], false⟩,
 ⟨.fn, 1, 8, [.lit .nilFunc], false⟩,
 ⟨.fn, 1, 8, [.lit .nilFunc], false⟩,
 ⟨.st [], 0, 0, [], false⟩,
 ⟨.st [], 0, 0, [], false⟩,
 ⟨.fn, 1, 8, [.lit .nilFunc], false⟩,
 ⟨.fn, 1, 8, [.lit .nilFunc], false⟩,
 ⟨.fn, 1, 8, [.lit .nilFunc], false⟩,
 ⟨.st [(0, 9), (1, 3)], 2, 24, [.lit (.string ByteArray.empty), .lit (.int .i64 0)], true⟩,
 ⟨.st [(0, 9), (1, 3)], 2, 24, [.lit (.string ByteArray.empty), .lit (.int .i64 0)], true⟩,
 ⟨.fn, 1, 8, [.lit .nilFunc], false⟩,
 ⟨.fn, 1, 8, [.lit .nilFunc], false⟩,
 ⟨.fn, 1, 8, [.lit .nilFunc], false⟩,
 ⟨.fn, 1, 8, [.lit .nilFunc], false⟩,
 ⟨.st [(0, 17), (1, 17), (2, 17), (3, 9)], 4, 40, [.lit (.pointer none), .lit (.pointer none), .lit (.pointer none), .lit (.string ByteArray.empty)], false⟩,
 ⟨.st [(0, 17), (1, 17), (2, 17), (3, 9)], 4, 40, [.lit (.pointer none), .lit (.pointer none), .lit (.pointer none), .lit (.string ByteArray.empty)], false⟩,
 ⟨.arr 0 16, 0, 0, [], false⟩,
 ⟨.st [(0, 126)], 0, 0, [], false⟩,
 ⟨.st [(0, 126)], 0, 0, [], false⟩,
 ⟨.fn, 1, 8, [.lit .nilFunc], false⟩,
 ⟨.int .u32, 1, 4, [.lit (.int .u32 0)], false⟩,
 ⟨.int .u8, 1, 1, [.lit (.int .u8 0)], false⟩,
 ⟨.int .u8, 1, 1, [.lit (.int .u8 0)], false⟩,
 ⟨.fn, 1, 8, [.lit .nilFunc], false⟩,
 ⟨.ptr 5, 1, 8, [.lit (.pointer none)], false⟩,
 ⟨.int .i32, 1, 4, [.lit (.int .i32 0)], false⟩,
 ⟨.int .i32, 1, 4, [.lit (.int .i32 0)], false⟩,
 ⟨.st [(0, 12), (1, 12), (2, 130), (3, 131), (4, 5), (5, 5), (6, 132), (7, 133), (8, 134), (9, 135), (10, 136)], 11, 48, [.lit (.int .u64 0), .lit (.int .u64 0), .lit (.int .u32 0), .lit (.int .u8 0), .lit (.int .u8 0), .lit (.int .u8 0), .lit (.int .u8 0), .lit .nilFunc, .lit (.pointer none), .lit (.int .i32 0), .lit (.int .i32 0)], false⟩,
 ⟨.st [(0, 12), (1, 12), (2, 130), (3, 131), (4, 5), (5, 5), (6, 132), (7, 133), (8, 134), (9, 135), (10, 136)], 11, 48, [.lit (.int .u64 0), .lit (.int .u64 0), .lit (.int .u32 0), .lit (.int .u8 0), .lit (.int .u8 0), .lit (.int .u8 0), .lit (.int .u8 0), .lit .nilFunc, .lit (.pointer none), .lit (.int .i32 0), .lit (.int .i32 0)], false⟩,
 ⟨.other, 1, 8, [.lit (.pointer none)], false⟩]
noncomputable def GL : List (Nat × List PV) := []
noncomputable def T : Tab := ⟨TY, GL⟩
theorem T_0 : T.at 0 = ⟨.tup [], 1, 0, [], false⟩ := rfl
theorem T_1 : T.at 1 = ⟨.fn, 1, 8, [.lit .nilFunc], false⟩ := rfl
theorem T_2 : T.at 2 = ⟨.int .i64, 1, 8, [.lit (.int .i64 0)], false⟩ := rfl
theorem T_3 : T.at 3 = ⟨.int .i64, 1, 8, [.lit (.int .i64 0)], false⟩ := rfl
theorem T_4 : T.at 4 = ⟨.bool, 1, 1, [.lit (.bool false)], false⟩ := rfl
theorem T_5 : T.at 5 = ⟨.int .u8, 1, 1, [.lit (.int .u8 0)], false⟩ := rfl
theorem T_6 : T.at 6 = ⟨.int .u8, 1, 1, [.lit (.int .u8 0)], false⟩ := rfl
theorem T_7 : T.at 7 = ⟨.st [(0, 2), (1, 3), (2, 4), (3, 6)], 4, 24, [.lit (.int .i64 0), .lit (.int .i64 0), .lit (.bool false), .lit (.int .u8 0)], true⟩ := rfl
theorem T_8 : T.at 8 = ⟨.st [(0, 2), (1, 3), (2, 4), (3, 6)], 4, 24, [.lit (.int .i64 0), .lit (.int .i64 0), .lit (.bool false), .lit (.int .u8 0)], true⟩ := rfl
theorem T_9 : T.at 9 = ⟨.str, 1, 16, [.lit (.string ByteArray.empty)], false⟩ := rfl
theorem T_10 : T.at 10 = ⟨.str, 1, 16, [.lit (.string ByteArray.empty)], false⟩ := rfl
theorem T_11 : T.at 11 = ⟨.str, 1, 16, [.lit (.string ByteArray.empty)], false⟩ := rfl
theorem T_12 : T.at 12 = ⟨.int .u64, 1, 8, [.lit (.int .u64 0)], false⟩ := rfl
theorem T_13 : T.at 13 = ⟨.st [(0, 9), (1, 12)], 2, 24, [.lit (.string ByteArray.empty), .lit (.int .u64 0)], false⟩ := rfl
theorem T_14 : T.at 14 = ⟨.st [(0, 9), (1, 12)], 2, 24, [.lit (.string ByteArray.empty), .lit (.int .u64 0)], false⟩ := rfl
theorem T_15 : T.at 15 = ⟨.ptr 125, 1, 8, [.lit (.pointer none)], false⟩ := rfl
theorem T_16 : T.at 16 = ⟨.ptr 128, 1, 8, [.lit (.pointer none)], false⟩ := rfl
theorem T_17 : T.at 17 = ⟨.ptr 138, 1, 8, [.lit (.pointer none)], false⟩ := rfl
theorem T_18 : T.at 18 = ⟨.st [(0, 17)], 1, 8, [.lit (.pointer none)], false⟩ := rfl
theorem T_19 : T.at 19 = ⟨.st [(0, 17)], 1, 8, [.lit (.pointer none)], false⟩ := rfl
theorem T_20 : T.at 20 = ⟨.ifc, 1, 16, [.lit .nilIface], false⟩ := rfl
theorem T_21 : T.at 21 = ⟨.int .i32, 1, 4, [.lit (.int .i32 0)], false⟩ := rfl
theorem T_22 : T.at 22 = ⟨.sl 24, 1, 24, [.sl none 2 []], false⟩ := rfl
theorem T_23 : T.at 23 = ⟨.st [(0, 3), (1, 22)], 2, 32, [.lit (.int .i64 0), .sl none 2 []], false⟩ := rfl
theorem T_24 : T.at 24 = ⟨.st [(0, 3), (1, 22)], 2, 32, [.lit (.int .i64 0), .sl none 2 []], false⟩ := rfl
theorem T_25 : T.at 25 = ⟨.fn, 1, 8, [.lit .nilFunc], false⟩ := rfl
theorem T_26 : T.at 26 = ⟨.fn, 1, 8, [.lit .nilFunc], false⟩ := rfl
theorem T_27 : T.at 27 = ⟨.sl 37, 1, 24, [.sl none 4 []], false⟩ := rfl
theorem T_28 : T.at 28 = ⟨.int .i64, 1, 8, [.lit (.int .i64 0)], false⟩ := rfl
theorem T_29 : T.at 29 = ⟨.tup [27, 28], 1, 0, [.sl none 4 [], .lit (.int .i64 0)], false⟩ := rfl
theorem T_30 : T.at 30 = ⟨.fn, 1, 8, [.lit .nilFunc], false⟩ := rfl
theorem T_31 : T.at 31 = ⟨.sl 71, 1, 24, [.sl none 4 []], false⟩ := rfl
theorem T_32 : T.at 32 = ⟨.tup [31, 28], 1, 0, [.sl none 4 [], .lit (.int .i64 0)], false⟩ := rfl
theorem T_33 : T.at 33 = ⟨.fn, 1, 8, [.lit .nilFunc], false⟩ := rfl
theorem T_34 : T.at 34 = ⟨.fn, 1, 8, [.lit .nilFunc], false⟩ := rfl
theorem T_35 : T.at 35 = ⟨.fn, 1, 8, [.lit .nilFunc], false⟩ := rfl
theorem T_36 : T.at 36 = ⟨.st [(0, 3), (1, 3), (2, 3), (3, 3)], 4, 32, [.lit (.int .i64 0), .lit (.int .i64 0), .lit (.int .i64 0), .lit (.int .i64 0)], true⟩ := rfl
theorem T_37 : T.at 37 = ⟨.st [(0, 3), (1, 3), (2, 3), (3, 3)], 4, 32, [.lit (.int .i64 0), .lit (.int .i64 0), .lit (.int .i64 0), .lit (.int .i64 0)], true⟩ := rfl
theorem T_38 : T.at 38 = ⟨.fn, 1, 8, [.lit .nilFunc], false⟩ := rfl
theorem T_39 : T.at 39 = ⟨.sl 41, 1, 24, [.sl none 2 []], false⟩ := rfl
theorem T_40 : T.at 40 = ⟨.st [(0, 3), (1, 39)], 2, 32, [.lit (.int .i64 0), .sl none 2 []], false⟩ := rfl
theorem T_41 : T.at 41 = ⟨.st [(0, 3), (1, 39)], 2, 32, [.lit (.int .i64 0), .sl none 2 []], false⟩ := rfl
theorem T_42 : T.at 42 = ⟨.fn, 1, 8, [.lit .nilFunc], false⟩ := rfl
theorem T_43 : T.at 43 = ⟨.tup [41, 28], 1, 0, [.lit (.int .i64 0), .sl none 2 [], .lit (.int .i64 0)], false⟩ := rfl
theorem T_44 : T.at 44 = ⟨.fn, 1, 8, [.lit .nilFunc], false⟩ := rfl
theorem T_45 : T.at 45 = ⟨.tup [22, 28], 1, 0, [.sl none 2 [], .lit (.int .i64 0)], false⟩ := rfl
theorem T_46 : T.at 46 = ⟨.fn, 1, 8, [.lit .nilFunc], false⟩ := rfl
theorem T_47 : T.at 47 = ⟨.fn, 1, 8, [.lit .nilFunc], false⟩ := rfl
theorem T_48 : T.at 48 = ⟨.fn, 1, 8, [.lit .nilFunc], false⟩ := rfl
theorem T_49 : T.at 49 = ⟨.fn, 1, 8, [.lit .nilFunc], false⟩ := rfl
theorem T_50 : T.at 50 = ⟨.sl 3, 1, 24, [.sl none 1 []], false⟩ := rfl
theorem T_51 : T.at 51 = ⟨.st [(0, 50)], 1, 24, [.sl none 1 []], false⟩ := rfl
theorem T_52 : T.at 52 = ⟨.st [(0, 50)], 1, 24, [.sl none 1 []], false⟩ := rfl
theorem T_53 : T.at 53 = ⟨.tup [52, 28], 1, 0, [.sl none 1 [], .lit (.int .i64 0)], false⟩ := rfl
theorem T_54 : T.at 54 = ⟨.fn, 1, 8, [.lit .nilFunc], false⟩ := rfl
theorem T_55 : T.at 55 = ⟨.fn, 1, 8, [.lit .nilFunc], false⟩ := rfl
theorem T_56 : T.at 56 = ⟨.fn, 1, 8, [.lit .nilFunc], false⟩ := rfl
theorem T_57 : T.at 57 = ⟨.fn, 1, 8, [.lit .nilFunc], false⟩ := rfl
theorem T_58 : T.at 58 = ⟨.fn, 1, 8, [.lit .nilFunc], false⟩ := rfl
theorem T_59 : T.at 59 = ⟨.fn, 1, 8, [.lit .nilFunc], false⟩ := rfl
theorem T_60 : T.at 60 = ⟨.sl 9, 1, 24, [.sl none 1 []], false⟩ := rfl
theorem T_61 : T.at 61 = ⟨.tup [9, 28], 1, 0, [.lit (.string ByteArray.empty), .lit (.int .i64 0)], false⟩ := rfl
theorem T_62 : T.at 62 = ⟨.fn, 1, 8, [.lit .nilFunc], false⟩ := rfl
theorem T_63 : T.at 63 = ⟨.fn, 1, 8, [.lit .nilFunc], false⟩ := rfl
theorem T_64 : T.at 64 = ⟨.fn, 1, 8, [.lit .nilFunc], false⟩ := rfl
theorem T_65 : T.at 65 = ⟨.fn, 1, 8, [.lit .nilFunc], false⟩ := rfl
theorem T_66 : T.at 66 = ⟨.fn, 1, 8, [.lit .nilFunc], false⟩ := rfl
theorem T_67 : T.at 67 = ⟨.fn, 1, 8, [.lit .nilFunc], false⟩ := rfl
theorem T_68 : T.at 68 = ⟨.fn, 1, 8, [.lit .nilFunc], false⟩ := rfl
theorem T_69 : T.at 69 = ⟨.fn, 1, 8, [.lit .nilFunc], false⟩ := rfl
theorem T_70 : T.at 70 = ⟨.fn, 1, 8, [.lit .nilFunc], false⟩ := rfl
theorem T_71 : T.at 71 = ⟨.st [(0, 3), (1, 3), (2, 3), (3, 3)], 4, 32, [.lit (.int .i64 0), .lit (.int .i64 0), .lit (.int .i64 0), .lit (.int .i64 0)], true⟩ := rfl
theorem T_72 : T.at 72 = ⟨.fn, 1, 8, [.lit .nilFunc], false⟩ := rfl
theorem T_73 : T.at 73 = ⟨.fn, 1, 8, [.lit .nilFunc], false⟩ := rfl
theorem T_74 : T.at 74 = ⟨.fn, 1, 8, [.lit .nilFunc], false⟩ := rfl
theorem T_75 : T.at 75 = ⟨.fn, 1, 8, [.lit .nilFunc], false⟩ := rfl
theorem T_76 : T.at 76 = ⟨.fn, 1, 8, [.lit .nilFunc], false⟩ := rfl
theorem T_77 : T.at 77 = ⟨.fn, 1, 8, [.lit .nilFunc], false⟩ := rfl
theorem T_78 : T.at 78 = ⟨.fn, 1, 8, [.lit .nilFunc], false⟩ := rfl
theorem T_79 : T.at 79 = ⟨.sl 81, 1, 24, [.sl none 3 []], false⟩ := rfl
theorem T_80 : T.at 80 = ⟨.st [(0, 3), (1, 3), (2, 79)], 3, 40, [.lit (.int .i64 0), .lit (.int .i64 0), .sl none 3 []], false⟩ := rfl
theorem T_81 : T.at 81 = ⟨.st [(0, 3), (1, 3), (2, 79)], 3, 40, [.lit (.int .i64 0), .lit (.int .i64 0), .sl none 3 []], false⟩ := rfl
theorem T_82 : T.at 82 = ⟨.fn, 1, 8, [.lit .nilFunc], false⟩ := rfl
theorem T_83 : T.at 83 = ⟨.fn, 1, 8, [.lit .nilFunc], false⟩ := rfl
theorem T_84 : T.at 84 = ⟨.ptr 3, 1, 8, [.lit (.pointer none)], false⟩ := rfl
theorem T_85 : T.at 85 = ⟨.fn, 1, 8, [.lit .nilFunc], false⟩ := rfl
theorem T_86 : T.at 86 = ⟨.fn, 1, 8, [.lit .nilFunc], false⟩ := rfl
theorem T_87 : T.at 87 = ⟨.sl 5, 1, 24, [.sl none 1 []], false⟩ := rfl
theorem T_88 : T.at 88 = ⟨.fn, 1, 8, [.lit .nilFunc], false⟩ := rfl
theorem T_89 : T.at 89 = ⟨.fn, 1, 8, [.lit .nilFunc], false⟩ := rfl
theorem T_90 : T.at 90 = ⟨.fn, 1, 8, [.lit .nilFunc], false⟩ := rfl
theorem T_91 : T.at 91 = ⟨.ptr 93, 1, 8, [.lit (.pointer none)], false⟩ := rfl
theorem T_92 : T.at 92 = ⟨.st [(0, 60), (1, 9), (2, 4)], 3, 48, [.sl none 1 [], .lit (.string ByteArray.empty), .lit (.bool false)], false⟩ := rfl
theorem T_93 : T.at 93 = ⟨.st [(0, 60), (1, 9), (2, 4)], 3, 48, [.sl none 1 [], .lit (.string ByteArray.empty), .lit (.bool false)], false⟩ := rfl
theorem T_94 : T.at 94 = ⟨.fn, 1, 8, [.lit .nilFunc], false⟩ := rfl
theorem T_95 : T.at 95 = ⟨.fn, 1, 8, [.lit .nilFunc], false⟩ := rfl
theorem T_96 : T.at 96 = ⟨.fn, 1, 8, [.lit .nilFunc], false⟩ := rfl
theorem T_97 : T.at 97 = ⟨.fn, 1, 8, [.lit .nilFunc], false⟩ := rfl
theorem T_98 : T.at 98 = ⟨.fn, 1, 8, [.lit .nilFunc], false⟩ := rfl
theorem T_99 : T.at 99 = ⟨.fn, 1, 8, [.lit .nilFunc], false⟩ := rfl
theorem T_100 : T.at 100 = ⟨.fn, 1, 8, [.lit .nilFunc], false⟩ := rfl
theorem T_101 : T.at 101 = ⟨.fn, 1, 8, [.lit .nilFunc], false⟩ := rfl
theorem T_102 : T.at 102 = ⟨.fn, 1, 8, [.lit .nilFunc], false⟩ := rfl
theorem T_103 : T.at 103 = ⟨.fn, 1, 8, [.lit .nilFunc], false⟩ := rfl
theorem T_104 : T.at 104 = ⟨.fn, 1, 8, [.lit .nilFunc], false⟩ := rfl
theorem T_105 : T.at 105 = ⟨.fn, 1, 8, [.lit .nilFunc], false⟩ := rfl
theorem T_106 : T.at 106 = ⟨.fn, 1, 8, [.lit .nilFunc], false⟩ := rfl
theorem T_107 : T.at 107 = ⟨.fn, 1, 8, [.lit .nilFunc], false⟩ := rfl
theorem T_108 : T.at 108 = ⟨.fn, 1, 8, [.lit .nilFunc], false⟩ := rfl
theorem T_109 : T.at 109 = ⟨.ptr 28, 1, 8, [.lit (.pointer none)], false⟩ := rfl
theorem T_110 : T.at 110 = ⟨.ptr 119, 1, 8, [.lit (.pointer none)], false⟩ := rfl
theorem T_111 : T.at 111 = ⟨.fn, 1, 8, [.lit .nilFunc], false⟩ := rfl
theorem T_112 : T.at 112 = ⟨.fn, 1, 8, [.lit .nilFunc], false⟩ := rfl
theorem T_113 : T.at 113 = ⟨.st [], 0, 0, [], false⟩ := rfl
theorem T_114 : T.at 114 = ⟨.st [], 0, 0, [], false⟩ := rfl
theorem T_115 : T.at 115 = ⟨.fn, 1, 8, [.lit .nilFunc], false⟩ := rfl
theorem T_116 : T.at 116 = ⟨.fn, 1, 8, [.lit .nilFunc], false⟩ := rfl
theorem T_117 : T.at 117 = ⟨.fn, 1, 8, [.lit .nilFunc], false⟩ := rfl
theorem T_118 : T.at 118 = ⟨.st [(0, 9), (1, 3)], 2, 24, [.lit (.string ByteArray.empty), .lit (.int .i64 0)], true⟩ := rfl
theorem T_119 : T.at 119 = ⟨.st [(0, 9), (1, 3)], 2, 24, [.lit (.string ByteArray.empty), .lit (.int .i64 0)], true⟩ := rfl
theorem T_120 : T.at 120 = ⟨.fn, 1, 8, [.lit .nilFunc], false⟩ := rfl
theorem T_121 : T.at 121 = ⟨.fn, 1, 8, [.lit .nilFunc], false⟩ := rfl
theorem T_122 : T.at 122 = ⟨.fn, 1, 8, [.lit .nilFunc], false⟩ := rfl
theorem T_123 : T.at 123 = ⟨.fn, 1, 8, [.lit .nilFunc], false⟩ := rfl
theorem T_124 : T.at 124 = ⟨.st [(0, 17), (1, 17), (2, 17), (3, 9)], 4, 40, [.lit (.pointer none), .lit (.pointer none), .lit (.pointer none), .lit (.string ByteArray.empty)], false⟩ := rfl
theorem T_125 : T.at 125 = ⟨.st [(0, 17), (1, 17), (2, 17), (3, 9)], 4, 40, [.lit (.pointer none), .lit (.pointer none), .lit (.pointer none), .lit (.string ByteArray.empty)], false⟩ := rfl
theorem T_126 : T.at 126 = ⟨.arr 0 16, 0, 0, [], false⟩ := rfl
theorem T_127 : T.at 127 = ⟨.st [(0, 126)], 0, 0, [], false⟩ := rfl
theorem T_128 : T.at 128 = ⟨.st [(0, 126)], 0, 0, [], false⟩ := rfl
theorem T_129 : T.at 129 = ⟨.fn, 1, 8, [.lit .nilFunc], false⟩ := rfl
theorem T_130 : T.at 130 = ⟨.int .u32, 1, 4, [.lit (.int .u32 0)], false⟩ := rfl
theorem T_131 : T.at 131 = ⟨.int .u8, 1, 1, [.lit (.int .u8 0)], false⟩ := rfl
theorem T_132 : T.at 132 = ⟨.int .u8, 1, 1, [.lit (.int .u8 0)], false⟩ := rfl
theorem T_133 : T.at 133 = ⟨.fn, 1, 8, [.lit .nilFunc], false⟩ := rfl
theorem T_134 : T.at 134 = ⟨.ptr 5, 1, 8, [.lit (.pointer none)], false⟩ := rfl
theorem T_135 : T.at 135 = ⟨.int .i32, 1, 4, [.lit (.int .i32 0)], false⟩ := rfl
theorem T_136 : T.at 136 = ⟨.int .i32, 1, 4, [.lit (.int .i32 0)], false⟩ := rfl
theorem T_137 : T.at 137 = ⟨.st [(0, 12), (1, 12), (2, 130), (3, 131), (4, 5), (5, 5), (6, 132), (7, 133), (8, 134), (9, 135), (10, 136)], 11, 48, [.lit (.int .u64 0), .lit (.int .u64 0), .lit (.int .u32 0), .lit (.int .u8 0), .lit (.int .u8 0), .lit (.int .u8 0), .lit (.int .u8 0), .lit .nilFunc, .lit (.pointer none), .lit (.int .i32 0), .lit (.int .i32 0)], false⟩ := rfl
theorem T_138 : T.at 138 = ⟨.st [(0, 12), (1, 12), (2, 130), (3, 131), (4, 5), (5, 5), (6, 132), (7, 133), (8, 134), (9, 135), (10, 136)], 11, 48, [.lit (.int .u64 0), .lit (.int .u64 0), .lit (.int .u32 0), .lit (.int .u8 0), .lit (.int .u8 0), .lit (.int .u8 0), .lit (.int .u8 0), .lit .nilFunc, .lit (.pointer none), .lit (.int .i32 0), .lit (.int .i32 0)], false⟩ := rfl
theorem T_139 : T.at 139 = ⟨.other, 1, 8, [.lit (.pointer none)], false⟩ := rfl
attribute [go_sem] T_0 T_1 T_2 T_3 T_4 T_5 T_6 T_7 T_8 T_9 T_10 T_11 T_12 T_13 T_14 T_15 T_16 T_17 T_18 T_19 T_20 T_21 T_22 T_23 T_24 T_25 T_26 T_27 T_28 T_29 T_30 T_31 T_32 T_33 T_34 T_35 T_36 T_37 T_38 T_39 T_40 T_41 T_42 T_43 T_44 T_45 T_46 T_47 T_48 T_49 T_50 T_51 T_52 T_53 T_54 T_55 T_56 T_57 T_58 T_59 T_60 T_61 T_62 T_63 T_64 T_65 T_66 T_67 T_68 T_69 T_70 T_71 T_72 T_73 T_74 T_75 T_76 T_77 T_78 T_79 T_80 T_81 T_82 T_83 T_84 T_85 T_86 T_87 T_88 T_89 T_90 T_91 T_92 T_93 T_94 T_95 T_96 T_97 T_98 T_99 T_100 T_101 T_102 T_103 T_104 T_105 T_106 T_107 T_108 T_109 T_110 T_111 T_112 T_113 T_114 T_115 T_116 T_117 T_118 T_119 T_120 T_121 T_122 T_123 T_124 T_125 T_126 T_127 T_128 T_129 T_130 T_131 T_132 T_133 T_134 T_135 T_136 T_137 T_138 T_139
noncomputable def HL : List (Nat × FH) := [
 (7, { ok := true, mv := [33, 40, 47, 54, 87], sh := [19, 34, 35, 36, 41, 42, 43, 48, 49, 50, 55, 56, 57, 70, 71, 88, 89, 90, 97, 98] }),
 (8, { ok := true, sh := [5, 6] }),
 (9, { ok := true, mv := [13, 18, 66], sh := [14, 24, 31] }),
 (10, { ok := true, mv := [17], sh := [9, 10, 13], outs := [(0, [6]), (1, [6])], nt := 22 }),
 (14, { ok := true, sh := [6, 7, 11, 17, 18] }),
 (19, { ok := true, sh := [0, 1, 5, 32, 37], heads := [(0, [0, 1, 12, 13])], outs := [(0, []), (1, [0, 1, 12, 13])] }),
 (23, { ok := true, sh := [5, 7] }),
 (25, { ok := true, sh := [5, 6, 9, 10] }),
 (26, { ok := true, sh := [12, 16, 17] }),
 (28, { ok := true, mv := [8], sh := [16], heads := [(0, [3, 8, 9, 10])], outs := [(0, [3]), (1, [3, 8, 9, 10])] }),
 (31, { ok := true, sh := [9, 10, 14, 15, 18, 19], outs := [(0, [1, 2])] }),
 (32, { ok := true, sh := [9, 10, 14, 15, 18, 19], outs := [(0, [1, 2])] }),
 (33, { ok := true, mv := [23, 35], sh := [11, 15, 16, 24, 25, 32], outs := [(0, [1, 2])] }),
 (34, { ok := true, mv := [26, 37, 46], sh := [18, 19, 30, 43], outs := [(0, [1, 2])] }),
 (35, { ok := true, mv := [8], sh := [19, 23], heads := [(0, [1, 5, 8, 9, 10])], outs := [(0, [5]), (1, [1, 5, 8, 9, 10])] }),
 (36, { ok := true, sh := [14], heads := [(0, [3, 7, 8, 9])], outs := [(0, [3]), (1, [3, 7, 8, 9])] }),
 (37, { ok := true, pu := false, esc := true }),
 (40, { ok := true, sh := [5, 7, 10, 16, 18], outs := [(0, [4, 5]), (1, [2, 4, 5])], nt := 24 }),
 (47, { ok := true }),
 (50, { ok := true, mv := [9], sh := [36, 38, 39], heads := [(0, [0, 2, 9, 10, 11])], outs := [(0, []), (1, [0, 2, 9, 10, 11])], pu := false }),
 (51, { ok := true, mv := [7], sh := [23, 25], heads := [(0, [0, 7, 8, 9])], outs := [(0, []), (1, [0, 7, 8, 9])] }),
 (53, { ok := true, sh := [18, 24, 25], heads := [(0, [0, 11, 12, 13])], outs := [(0, []), (1, [0, 11, 12, 13])] }),
 (54, { ok := true, mv := [9, 18, 21, 32, 39, 43], sh := [35, 37], heads := [(0, [0, 1, 9, 10, 11])], outs := [(0, [0]), (1, [0, 1, 9, 10, 11])], ro := true, op := [0] }),
 (55, { ok := true, sh := [18, 24, 25], heads := [(0, [0, 11, 12, 13])], outs := [(0, []), (1, [0, 11, 12, 13])] }),
 (56, { ok := true, mv := [8], sh := [31, 33], heads := [(0, [0, 5, 8, 9, 10])], outs := [(0, [5]), (1, [0, 5, 8, 9, 10])] }),
 (57, { ok := true, mv := [17], sh := [7, 9, 10, 12], df := true }),
 (58, { ok := true, mv := [46, 67, 126, 137], sh := [0, 50, 55, 61, 104], heads := [(0, [0, 3]), (2, [0, 3]), (4, [0, 3, 5, 6])], outs := [(0, []), (1, [0, 3]), (2, [0, 3]), (3, [0, 3]), (4, [0, 3, 5, 6]), (5, [0, 3, 5, 6])], pu := false }),
 (59, { ok := true, sh := [7], pu := false }),
 (60, { ok := true, sh := [6, 10, 17, 24, 28, 40, 41, 42], heads := [(0, [5, 10, 32, 33, 34])], outs := [(0, []), (1, [5, 10, 32, 33, 34])], pu := false }),
 (62, { ok := true, pu := false, esc := true }),
 (70, { ok := true, sh := [13, 24, 30], heads := [(0, [0, 18, 19])], outs := [(0, []), (1, [0, 18, 19])] }),
 (71, { ok := true, sh := [5, 6] }),
 (72, { ok := true, sh := [11] }),
 (73, { ok := true, mv := [7], heads := [(0, [1, 7, 8, 9])], outs := [(0, []), (1, [1, 7, 8, 9])] }),
 (74, { ok := true, mv := [11], outs := [(0, [])], pu := false }),
 (75, { ok := true, pu := false, esc := true }),
 (76, { ok := true, mv := [31, 35], sh := [8, 16, 18, 19, 20, 23, 25, 26, 29], heads := [(0, [0, 1, 5, 6])], outs := [(0, [5]), (1, [0, 1, 5])], pu := false }),
 (77, { ok := true, mv := [9], sh := [0, 3], pu := false }),
 (78, { ok := true, sh := [11, 19], heads := [(0, [0, 3])], outs := [(0, [3]), (1, [0, 3])] }),
 (79, { ok := true, sh := [12, 16], heads := [(0, [0, 1, 3])], outs := [(0, []), (1, [0, 1, 3])], pu := false }),
 (83, { ok := true }),
 (84, { ok := true }),
 (85, { ok := true, heads := [(0, [0, 1, 7, 8])], outs := [(0, []), (1, [0, 1, 7, 8])] }),
 (86, { ok := true, mv := [19], sh := [0, 3], pu := false }),
 (87, { ok := true, sh := [6, 7] }),
 (88, { ok := true, mv := [57], sh := [0, 5, 30, 41, 62], heads := [(0, [0, 3])], outs := [(0, [0, 3]), (1, [0, 3])], pu := false }),
 (89, { ok := true, mv := [30], sh := [0, 5], pu := false }),
 (90, { ok := true, sh := [4, 5], pu := false }),
 (91, { ok := true, mv := [37], sh := [0], heads := [(0, [0, 3])], outs := [(0, [0, 3]), (1, [0, 3])], pu := false }),
 (92, { ok := true }),
 (93, { ok := true })]
noncomputable def H : FuncId → FH := hOf HL
theorem H_7 : H 7 = { ok := true, mv := [33, 40, 47, 54, 87], sh := [19, 34, 35, 36, 41, 42, 43, 48, 49, 50, 55, 56, 57, 70, 71, 88, 89, 90, 97, 98] } := rfl
theorem H_8 : H 8 = { ok := true, sh := [5, 6] } := rfl
theorem H_9 : H 9 = { ok := true, mv := [13, 18, 66], sh := [14, 24, 31] } := rfl
theorem H_10 : H 10 = { ok := true, mv := [17], sh := [9, 10, 13], outs := [(0, [6]), (1, [6])], nt := 22 } := rfl
theorem H_14 : H 14 = { ok := true, sh := [6, 7, 11, 17, 18] } := rfl
theorem H_19 : H 19 = { ok := true, sh := [0, 1, 5, 32, 37], heads := [(0, [0, 1, 12, 13])], outs := [(0, []), (1, [0, 1, 12, 13])] } := rfl
theorem H_23 : H 23 = { ok := true, sh := [5, 7] } := rfl
theorem H_25 : H 25 = { ok := true, sh := [5, 6, 9, 10] } := rfl
theorem H_26 : H 26 = { ok := true, sh := [12, 16, 17] } := rfl
theorem H_28 : H 28 = { ok := true, mv := [8], sh := [16], heads := [(0, [3, 8, 9, 10])], outs := [(0, [3]), (1, [3, 8, 9, 10])] } := rfl
theorem H_31 : H 31 = { ok := true, sh := [9, 10, 14, 15, 18, 19], outs := [(0, [1, 2])] } := rfl
theorem H_32 : H 32 = { ok := true, sh := [9, 10, 14, 15, 18, 19], outs := [(0, [1, 2])] } := rfl
theorem H_33 : H 33 = { ok := true, mv := [23, 35], sh := [11, 15, 16, 24, 25, 32], outs := [(0, [1, 2])] } := rfl
theorem H_34 : H 34 = { ok := true, mv := [26, 37, 46], sh := [18, 19, 30, 43], outs := [(0, [1, 2])] } := rfl
theorem H_35 : H 35 = { ok := true, mv := [8], sh := [19, 23], heads := [(0, [1, 5, 8, 9, 10])], outs := [(0, [5]), (1, [1, 5, 8, 9, 10])] } := rfl
theorem H_36 : H 36 = { ok := true, sh := [14], heads := [(0, [3, 7, 8, 9])], outs := [(0, [3]), (1, [3, 7, 8, 9])] } := rfl
theorem H_37 : H 37 = { ok := true, pu := false, esc := true } := rfl
theorem H_40 : H 40 = { ok := true, sh := [5, 7, 10, 16, 18], outs := [(0, [4, 5]), (1, [2, 4, 5])], nt := 24 } := rfl
theorem H_47 : H 47 = { ok := true } := rfl
theorem H_50 : H 50 = { ok := true, mv := [9], sh := [36, 38, 39], heads := [(0, [0, 2, 9, 10, 11])], outs := [(0, []), (1, [0, 2, 9, 10, 11])], pu := false } := rfl
theorem H_51 : H 51 = { ok := true, mv := [7], sh := [23, 25], heads := [(0, [0, 7, 8, 9])], outs := [(0, []), (1, [0, 7, 8, 9])] } := rfl
theorem H_53 : H 53 = { ok := true, sh := [18, 24, 25], heads := [(0, [0, 11, 12, 13])], outs := [(0, []), (1, [0, 11, 12, 13])] } := rfl
theorem H_54 : H 54 = { ok := true, mv := [9, 18, 21, 32, 39, 43], sh := [35, 37], heads := [(0, [0, 1, 9, 10, 11])], outs := [(0, [0]), (1, [0, 1, 9, 10, 11])], ro := true, op := [0] } := rfl
theorem H_55 : H 55 = { ok := true, sh := [18, 24, 25], heads := [(0, [0, 11, 12, 13])], outs := [(0, []), (1, [0, 11, 12, 13])] } := rfl
theorem H_56 : H 56 = { ok := true, mv := [8], sh := [31, 33], heads := [(0, [0, 5, 8, 9, 10])], outs := [(0, [5]), (1, [0, 5, 8, 9, 10])] } := rfl
theorem H_57 : H 57 = { ok := true, mv := [17], sh := [7, 9, 10, 12], df := true } := rfl
theorem H_58 : H 58 = { ok := true, mv := [46, 67, 126, 137], sh := [0, 50, 55, 61, 104], heads := [(0, [0, 3]), (2, [0, 3]), (4, [0, 3, 5, 6])], outs := [(0, []), (1, [0, 3]), (2, [0, 3]), (3, [0, 3]), (4, [0, 3, 5, 6]), (5, [0, 3, 5, 6])], pu := false } := rfl
theorem H_59 : H 59 = { ok := true, sh := [7], pu := false } := rfl
theorem H_60 : H 60 = { ok := true, sh := [6, 10, 17, 24, 28, 40, 41, 42], heads := [(0, [5, 10, 32, 33, 34])], outs := [(0, []), (1, [5, 10, 32, 33, 34])], pu := false } := rfl
theorem H_62 : H 62 = { ok := true, pu := false, esc := true } := rfl
theorem H_70 : H 70 = { ok := true, sh := [13, 24, 30], heads := [(0, [0, 18, 19])], outs := [(0, []), (1, [0, 18, 19])] } := rfl
theorem H_71 : H 71 = { ok := true, sh := [5, 6] } := rfl
theorem H_72 : H 72 = { ok := true, sh := [11] } := rfl
theorem H_73 : H 73 = { ok := true, mv := [7], heads := [(0, [1, 7, 8, 9])], outs := [(0, []), (1, [1, 7, 8, 9])] } := rfl
theorem H_74 : H 74 = { ok := true, mv := [11], outs := [(0, [])], pu := false } := rfl
theorem H_75 : H 75 = { ok := true, pu := false, esc := true } := rfl
theorem H_76 : H 76 = { ok := true, mv := [31, 35], sh := [8, 16, 18, 19, 20, 23, 25, 26, 29], heads := [(0, [0, 1, 5, 6])], outs := [(0, [5]), (1, [0, 1, 5])], pu := false } := rfl
theorem H_77 : H 77 = { ok := true, mv := [9], sh := [0, 3], pu := false } := rfl
theorem H_78 : H 78 = { ok := true, sh := [11, 19], heads := [(0, [0, 3])], outs := [(0, [3]), (1, [0, 3])] } := rfl
theorem H_79 : H 79 = { ok := true, sh := [12, 16], heads := [(0, [0, 1, 3])], outs := [(0, []), (1, [0, 1, 3])], pu := false } := rfl
theorem H_83 : H 83 = { ok := true } := rfl
theorem H_84 : H 84 = { ok := true } := rfl
theorem H_85 : H 85 = { ok := true, heads := [(0, [0, 1, 7, 8])], outs := [(0, []), (1, [0, 1, 7, 8])] } := rfl
theorem H_86 : H 86 = { ok := true, mv := [19], sh := [0, 3], pu := false } := rfl
theorem H_87 : H 87 = { ok := true, sh := [6, 7] } := rfl
theorem H_88 : H 88 = { ok := true, mv := [57], sh := [0, 5, 30, 41, 62], heads := [(0, [0, 3])], outs := [(0, [0, 3]), (1, [0, 3])], pu := false } := rfl
theorem H_89 : H 89 = { ok := true, mv := [30], sh := [0, 5], pu := false } := rfl
theorem H_90 : H 90 = { ok := true, sh := [4, 5], pu := false } := rfl
theorem H_91 : H 91 = { ok := true, mv := [37], sh := [0], heads := [(0, [0, 3])], outs := [(0, [0, 3]), (1, [0, 3])], pu := false } := rfl
theorem H_92 : H 92 = { ok := true } := rfl
theorem H_93 : H 93 = { ok := true } := rfl
attribute [go_sem] H_7 H_8 H_9 H_10 H_14 H_19 H_23 H_25 H_26 H_28 H_31 H_32 H_33 H_34 H_35 H_36 H_37 H_40 H_47 H_50 H_51 H_53 H_54 H_55 H_56 H_57 H_58 H_59 H_60 H_62 H_70 H_71 H_72 H_73 H_74 H_75 H_76 H_77 H_78 H_79 H_83 H_84 H_85 H_86 H_87 H_88 H_89 H_90 H_91 H_92 H_93
noncomputable def c7 : Code := Try.f7.body.getD .skip
theorem call7 (args : List AV) (σ : List AObj) : call Try.prog T H (.fn 7) args σ = run Try.prog T H 7 σ.length 0 c7 { env := envOf 0 args, σ := σ } (endK Try.prog T H 7 [.tmp 8] σ.length) :=
 call_fn Try.func7 rfl rfl rfl rfl _ _
noncomputable def c8 : Code := Try.f8.body.getD .skip
theorem call8 (args : List AV) (σ : List AObj) : call Try.prog T H (.fn 8) args σ = run Try.prog T H 8 σ.length 0 c8 { env := envOf 0 args, σ := σ } (endK Try.prog T H 8 [.tmp 4] σ.length) :=
 call_fn Try.func8 rfl rfl rfl rfl _ _
noncomputable def c9 : Code := Try.f9.body.getD .skip
theorem call9 (args : List AV) (σ : List AObj) : call Try.prog T H (.fn 9) args σ = run Try.prog T H 9 σ.length 0 c9 { env := envOf 0 args, σ := σ } (endK Try.prog T H 9 [.tmp 0] σ.length) :=
 call_fn Try.func9 rfl rfl rfl rfl _ _
noncomputable def c10 : Code := Try.f10.body.getD .skip
theorem call10 (args : List AV) (σ : List AObj) : call Try.prog T H (.fn 10) args σ = run Try.prog T H 10 σ.length 0 c10 { env := envOf 0 args, σ := σ } (endK Try.prog T H 10 [.tmp 4, .tmp 5] σ.length) :=
 call_fn Try.func10 rfl rfl rfl rfl _ _
noncomputable def A10_0 : Code := rangeA 0 c10
noncomputable def B10_0 : Code := rangeB 0 c10
theorem cf10 : c10 = foldR 0 A10_0 B10_0 (c10) := by kernel_rfl
noncomputable def c14 : Code := Try.f14.body.getD .skip
theorem call14 (args : List AV) (σ : List AObj) : call Try.prog T H (.fn 14) args σ = run Try.prog T H 14 σ.length 0 c14 { env := envOf 0 args, σ := σ } (endK Try.prog T H 14 [.cell 4 41, .tmp 5] σ.length) :=
 call_fn Try.func14 rfl rfl rfl rfl _ _
noncomputable def c19 : Code := Try.f19.body.getD .skip
theorem call19 (args : List AV) (σ : List AObj) : call Try.prog T H (.fn 19) args σ = run Try.prog T H 19 σ.length 0 c19 { env := envOf 0 args, σ := σ } (endK Try.prog T H 19 [.tmp 4] σ.length) :=
 call_fn Try.func19 rfl rfl rfl rfl _ _
noncomputable def L19_0 : Code := loopAt 0 c19
noncomputable def c23 : Code := Try.f23.body.getD .skip
theorem call23 (args : List AV) (σ : List AObj) : call Try.prog T H (.fn 23) args σ = run Try.prog T H 23 σ.length 0 c23 { env := envOf 0 args, σ := σ } (endK Try.prog T H 23 [.tmp 4] σ.length) :=
 call_fn Try.func23 rfl rfl rfl rfl _ _
noncomputable def c25 : Code := Try.f25.body.getD .skip
theorem call25 (args : List AV) (σ : List AObj) : call Try.prog T H (.fn 25) args σ = run Try.prog T H 25 σ.length 0 c25 { env := envOf 0 args, σ := σ } (endK Try.prog T H 25 [.tmp 4] σ.length) :=
 call_fn Try.func25 rfl rfl rfl rfl _ _
noncomputable def c26 : Code := Try.f26.body.getD .skip
theorem call26 (args : List AV) (σ : List AObj) : call Try.prog T H (.fn 26) args σ = run Try.prog T H 26 σ.length 0 c26 { env := envOf 0 args, σ := σ } (endK Try.prog T H 26 [.tmp 4] σ.length) :=
 call_fn Try.func26 rfl rfl rfl rfl _ _
noncomputable def c28 : Code := Try.f28.body.getD .skip
theorem call28 (args : List AV) (σ : List AObj) : call Try.prog T H (.fn 28) args σ = run Try.prog T H 28 σ.length 0 c28 { env := envOf 0 args, σ := σ } (endK Try.prog T H 28 [.tmp 2] σ.length) :=
 call_fn Try.func28 rfl rfl rfl rfl _ _
noncomputable def L28_0 : Code := loopAt 0 c28
noncomputable def c31 : Code := Try.f31.body.getD .skip
theorem call31 (args : List AV) (σ : List AObj) : call Try.prog T H (.fn 31) args σ = run Try.prog T H 31 σ.length 0 c31 { env := envOf 0 args, σ := σ } (endK Try.prog T H 31 [.tmp 6, .tmp 7] σ.length) :=
 call_fn Try.func31 rfl rfl rfl rfl _ _
noncomputable def c32 : Code := Try.f32.body.getD .skip
theorem call32 (args : List AV) (σ : List AObj) : call Try.prog T H (.fn 32) args σ = run Try.prog T H 32 σ.length 0 c32 { env := envOf 0 args, σ := σ } (endK Try.prog T H 32 [.tmp 6, .tmp 7] σ.length) :=
 call_fn Try.func32 rfl rfl rfl rfl _ _
noncomputable def c33 : Code := Try.f33.body.getD .skip
theorem call33 (args : List AV) (σ : List AObj) : call Try.prog T H (.fn 33) args σ = run Try.prog T H 33 σ.length 0 c33 { env := envOf 0 args, σ := σ } (endK Try.prog T H 33 [.tmp 6, .tmp 7] σ.length) :=
 call_fn Try.func33 rfl rfl rfl rfl _ _
noncomputable def c34 : Code := Try.f34.body.getD .skip
theorem call34 (args : List AV) (σ : List AObj) : call Try.prog T H (.fn 34) args σ = run Try.prog T H 34 σ.length 0 c34 { env := envOf 0 args, σ := σ } (endK Try.prog T H 34 [.tmp 6, .tmp 7] σ.length) :=
 call_fn Try.func34 rfl rfl rfl rfl _ _
noncomputable def c35 : Code := Try.f35.body.getD .skip
theorem call35 (args : List AV) (σ : List AObj) : call Try.prog T H (.fn 35) args σ = run Try.prog T H 35 σ.length 0 c35 { env := envOf 0 args, σ := σ } (endK Try.prog T H 35 [.tmp 4] σ.length) :=
 call_fn Try.func35 rfl rfl rfl rfl _ _
noncomputable def L35_0 : Code := loopAt 0 c35
noncomputable def c36 : Code := Try.f36.body.getD .skip
theorem call36 (args : List AV) (σ : List AObj) : call Try.prog T H (.fn 36) args σ = run Try.prog T H 36 σ.length 0 c36 { env := envOf 0 args, σ := σ } (endK Try.prog T H 36 [.tmp 2] σ.length) :=
 call_fn Try.func36 rfl rfl rfl rfl _ _
noncomputable def L36_0 : Code := loopAt 0 c36
noncomputable def c37 : Code := Try.f37.body.getD .skip
theorem call37 (args : List AV) (σ : List AObj) : call Try.prog T H (.fn 37) args σ = run Try.prog T H 37 σ.length 0 c37 { env := envOf 0 args, σ := σ } (endK Try.prog T H 37 [.tmp 2] σ.length) :=
 call_fn Try.func37 rfl rfl rfl rfl _ _
noncomputable def c40 : Code := Try.f40.body.getD .skip
theorem call40 (args : List AV) (σ : List AObj) : call Try.prog T H (.fn 40) args σ = run Try.prog T H 40 σ.length 0 c40 { env := envOf 0 args, σ := σ } (endK Try.prog T H 40 [.cell 4 41] σ.length) :=
 call_fn Try.func40 rfl rfl rfl rfl _ _
noncomputable def A40_0 : Code := rangeA 0 c40
noncomputable def B40_0 : Code := rangeB 0 c40
theorem cf40 : c40 = foldR 0 A40_0 B40_0 (c40) := by kernel_rfl
noncomputable def c47 : Code := Try.f47.body.getD .skip
theorem call47 (args : List AV) (σ : List AObj) : call Try.prog T H (.fn 47) args σ = run Try.prog T H 47 σ.length 0 c47 { env := envOf 0 args, σ := σ } (endK Try.prog T H 47 [.tmp 2] σ.length) :=
 call_fn Try.func47 rfl rfl rfl rfl _ _
noncomputable def c50 : Code := Try.f50.body.getD .skip
theorem call50 (args : List AV) (σ : List AObj) : call Try.prog T H (.fn 50) args σ = run Try.prog T H 50 σ.length 0 c50 { env := envOf 0 args, σ := σ } (endK Try.prog T H 50 [.tmp 6] σ.length) :=
 call_fn Try.func50 rfl rfl rfl rfl _ _
noncomputable def L50_0 : Code := loopAt 0 c50
noncomputable def c51 : Code := Try.f51.body.getD .skip
theorem call51 (args : List AV) (σ : List AObj) : call Try.prog T H (.fn 51) args σ = run Try.prog T H 51 σ.length 0 c51 { env := envOf 0 args, σ := σ } (endK Try.prog T H 51 [.tmp 4] σ.length) :=
 call_fn Try.func51 rfl rfl rfl rfl _ _
noncomputable def L51_0 : Code := loopAt 0 c51
noncomputable def c53 : Code := Try.f53.body.getD .skip
theorem call53 (args : List AV) (σ : List AObj) : call Try.prog T H (.fn 53) args σ = run Try.prog T H 53 σ.length 0 c53 { env := envOf 0 args, σ := σ } (endK Try.prog T H 53 [.tmp 4] σ.length) :=
 call_fn Try.func53 rfl rfl rfl rfl _ _
noncomputable def L53_0 : Code := loopAt 0 c53
noncomputable def c54 : Code := Try.f54.body.getD .skip
theorem call54 (args : List AV) (σ : List AObj) : call Try.prog T H (.fn 54) args σ = run Try.prog T H 54 σ.length 0 c54 { env := envOf 0 args, σ := σ } (endK Try.prog T H 54 [.tmp 6] σ.length) :=
 call_fn Try.func54 rfl rfl rfl rfl _ _
noncomputable def L54_0 : Code := loopAt 0 c54
noncomputable def c55 : Code := Try.f55.body.getD .skip
theorem call55 (args : List AV) (σ : List AObj) : call Try.prog T H (.fn 55) args σ = run Try.prog T H 55 σ.length 0 c55 { env := envOf 0 args, σ := σ } (endK Try.prog T H 55 [.tmp 4] σ.length) :=
 call_fn Try.func55 rfl rfl rfl rfl _ _
noncomputable def L55_0 : Code := loopAt 0 c55
noncomputable def c56 : Code := Try.f56.body.getD .skip
theorem call56 (args : List AV) (σ : List AObj) : call Try.prog T H (.fn 56) args σ = run Try.prog T H 56 σ.length 0 c56 { env := envOf 0 args, σ := σ } (endK Try.prog T H 56 [.tmp 4] σ.length) :=
 call_fn Try.func56 rfl rfl rfl rfl _ _
noncomputable def L56_0 : Code := loopAt 0 c56
noncomputable def c57 : Code := Try.f57.body.getD .skip
theorem call57 (args : List AV) (σ : List AObj) : call Try.prog T H (.fn 57) args σ = run Try.prog T H 57 σ.length 0 (dA c57) { env := envOf 0 args, σ := σ } (callD1 Try.prog T H 57 [.tmp 4, .cell 5 28] σ.length ⟨.value (.func 74), #[.tmp 5], #[109]⟩ (dB c57)) :=
 call_fnD1 Try.func57 rfl rfl rfl rfl (c := c57) (o := dO c57) rfl _ _
noncomputable def c58 : Code := Try.f58.body.getD .skip
theorem call58 (args : List AV) (σ : List AObj) : call Try.prog T H (.fn 58) args σ = run Try.prog T H 58 σ.length 0 c58 { env := envOf 0 args, σ := σ } (endK Try.prog T H 58 [.tmp 2] σ.length) :=
 call_fn Try.func58 rfl rfl rfl rfl _ _
noncomputable def L58_0 : Code := loopAt 0 c58
noncomputable def L58_2 : Code := loopAt 2 c58
noncomputable def L58_4 : Code := loopAt 4 c58
noncomputable def c59 : Code := Try.f59.body.getD .skip
theorem call59 (args : List AV) (σ : List AObj) : call Try.prog T H (.fn 59) args σ = run Try.prog T H 59 σ.length 0 c59 { env := envOf 0 args, σ := σ } (endK Try.prog T H 59 [] σ.length) :=
 call_fn Try.func59 rfl rfl rfl rfl _ _
noncomputable def c60 : Code := Try.f60.body.getD .skip
theorem call60 (args : List AV) (σ : List AObj) : call Try.prog T H (.fn 60) args σ = run Try.prog T H 60 σ.length 0 c60 { env := envOf 0 args, σ := σ } (endK Try.prog T H 60 [.tmp 9] σ.length) :=
 call_fn Try.func60 rfl rfl rfl rfl _ _
noncomputable def L60_0 : Code := loopAt 0 c60
noncomputable def c62 : Code := Try.f62.body.getD .skip
theorem call62 (args : List AV) (σ : List AObj) : call Try.prog T H (.fn 62) args σ = run Try.prog T H 62 σ.length 0 c62 { env := envOf 0 args, σ := σ } (endK Try.prog T H 62 [.tmp 2] σ.length) :=
 call_fn Try.func62 rfl rfl rfl rfl _ _
noncomputable def c70 : Code := Try.f70.body.getD .skip
theorem call70 (args : List AV) (σ : List AObj) : call Try.prog T H (.fn 70) args σ = run Try.prog T H 70 σ.length 0 c70 { env := envOf 0 args, σ := σ } (endK Try.prog T H 70 [.tmp 2] σ.length) :=
 call_fn Try.func70 rfl rfl rfl rfl _ _
noncomputable def L70_0 : Code := loopAt 0 c70
noncomputable def c71 : Code := Try.f71.body.getD .skip
theorem call71 (args : List AV) (σ : List AObj) : call Try.prog T H (.fn 71) args σ = run Try.prog T H 71 σ.length 0 c71 { env := envOf 0 args, σ := σ } (endK Try.prog T H 71 [.tmp 4] σ.length) :=
 call_fn Try.func71 rfl rfl rfl rfl _ _
noncomputable def c72 : Code := Try.f72.body.getD .skip
theorem call72 (args : List AV) (σ : List AObj) : call Try.prog T H (.fn 72) args σ = run Try.prog T H 72 σ.length 0 c72 { env := envOf 0 args, σ := σ } (endK Try.prog T H 72 [.tmp 2] σ.length) :=
 call_fn Try.func72 rfl rfl rfl rfl _ _
noncomputable def c73 : Code := Try.f73.body.getD .skip
theorem call73 (args : List AV) (σ : List AObj) : call Try.prog T H (.fn 73) args σ = run Try.prog T H 73 σ.length 0 c73 { env := envOf 0 args, σ := σ } (endK Try.prog T H 73 [.tmp 4] σ.length) :=
 call_fn Try.func73 rfl rfl rfl rfl _ _
noncomputable def L73_0 : Code := loopAt 0 c73
noncomputable def c74 : Code := Try.f74.body.getD .skip
theorem call74 (args : List AV) (σ : List AObj) : call Try.prog T H (.fn 74) args σ = run Try.prog T H 74 σ.length 0 c74 { env := envOf 0 args, σ := σ } (endK Try.prog T H 74 [] σ.length) :=
 call_fn Try.func74 rfl rfl rfl rfl _ _
noncomputable def c75 : Code := Try.f75.body.getD .skip
theorem call75 (args : List AV) (σ : List AObj) : call Try.prog T H (.fn 75) args σ = run Try.prog T H 75 σ.length 0 c75 { env := envOf 0 args, σ := σ } (endK Try.prog T H 75 [.tmp 2] σ.length) :=
 call_fn Try.func75 rfl rfl rfl rfl _ _
noncomputable def c76 : Code := Try.f76.body.getD .skip
theorem call76 (args : List AV) (σ : List AObj) : call Try.prog T H (.fn 76) args σ = run Try.prog T H 76 σ.length 0 c76 { env := envOf 0 args, σ := σ } (endK Try.prog T H 76 [.tmp 4] σ.length) :=
 call_fn Try.func76 rfl rfl rfl rfl _ _
noncomputable def L76_0 : Code := loopAt 0 c76
noncomputable def c77 : Code := Try.f77.body.getD .skip
theorem call77 (args : List AV) (σ : List AObj) : call Try.prog T H (.fn 77) args σ = run Try.prog T H 77 σ.length 0 c77 { env := envOf 0 args, σ := σ } (endK Try.prog T H 77 [.tmp 2] σ.length) :=
 call_fn Try.func77 rfl rfl rfl rfl _ _
noncomputable def c78 : Code := Try.f78.body.getD .skip
theorem call78 (args : List AV) (σ : List AObj) : call Try.prog T H (.fn 78) args σ = run Try.prog T H 78 σ.length 0 c78 { env := envOf 0 args, σ := σ } (endK Try.prog T H 78 [.tmp 2] σ.length) :=
 call_fn Try.func78 rfl rfl rfl rfl _ _
noncomputable def L78_0 : Code := loopAt 0 c78
noncomputable def c79 : Code := Try.f79.body.getD .skip
theorem call79 (args : List AV) (σ : List AObj) : call Try.prog T H (.fn 79) args σ = run Try.prog T H 79 σ.length 0 c79 { env := envOf 0 args, σ := σ } (endK Try.prog T H 79 [] σ.length) :=
 call_fn Try.func79 rfl rfl rfl rfl _ _
noncomputable def L79_0 : Code := loopAt 0 c79
noncomputable def c83 : Code := Try.f83.body.getD .skip
theorem call83 (args : List AV) (σ : List AObj) : call Try.prog T H (.fn 83) args σ = run Try.prog T H 83 σ.length 0 c83 { env := envOf 0 args, σ := σ } (endK Try.prog T H 83 [.tmp 2] σ.length) :=
 call_fn Try.func83 rfl rfl rfl rfl _ _
noncomputable def c84 : Code := Try.f84.body.getD .skip
theorem call84 (args : List AV) (σ : List AObj) : call Try.prog T H (.fn 84) args σ = run Try.prog T H 84 σ.length 0 c84 { env := envOf 0 args, σ := σ } (endK Try.prog T H 84 [.tmp 2] σ.length) :=
 call_fn Try.func84 rfl rfl rfl rfl _ _
noncomputable def c85 : Code := Try.f85.body.getD .skip
theorem call85 (args : List AV) (σ : List AObj) : call Try.prog T H (.fn 85) args σ = run Try.prog T H 85 σ.length 0 c85 { env := envOf 0 args, σ := σ } (endK Try.prog T H 85 [.tmp 4] σ.length) :=
 call_fn Try.func85 rfl rfl rfl rfl _ _
noncomputable def L85_0 : Code := loopAt 0 c85
noncomputable def c86 : Code := Try.f86.body.getD .skip
theorem call86 (args : List AV) (σ : List AObj) : call Try.prog T H (.fn 86) args σ = run Try.prog T H 86 σ.length 0 c86 { env := envOf 0 args, σ := σ } (endK Try.prog T H 86 [.tmp 2] σ.length) :=
 call_fn Try.func86 rfl rfl rfl rfl _ _
noncomputable def c87 : Code := Try.f87.body.getD .skip
theorem call87 (args : List AV) (σ : List AObj) : call Try.prog T H (.fn 87) args σ = run Try.prog T H 87 σ.length 0 c87 { env := envOf 0 args, σ := σ } (endK Try.prog T H 87 [.tmp 4] σ.length) :=
 call_fn Try.func87 rfl rfl rfl rfl _ _
noncomputable def c88 : Code := Try.f88.body.getD .skip
theorem call88 (args : List AV) (σ : List AObj) : call Try.prog T H (.fn 88) args σ = run Try.prog T H 88 σ.length 0 c88 { env := envOf 0 args, σ := σ } (endK Try.prog T H 88 [.tmp 2] σ.length) :=
 call_fn Try.func88 rfl rfl rfl rfl _ _
noncomputable def L88_0 : Code := loopAt 0 c88
noncomputable def c89 : Code := Try.f89.body.getD .skip
theorem call89 (args : List AV) (σ : List AObj) : call Try.prog T H (.fn 89) args σ = run Try.prog T H 89 σ.length 0 c89 { env := envOf 0 args, σ := σ } (endK Try.prog T H 89 [.tmp 4] σ.length) :=
 call_fn Try.func89 rfl rfl rfl rfl _ _
noncomputable def c90 : Code := Try.f90.body.getD .skip
theorem call90 (args : List AV) (σ : List AObj) : call Try.prog T H (.fn 90) args σ = run Try.prog T H 90 σ.length 0 c90 { env := envOf 0 args, σ := σ } (endK Try.prog T H 90 [] σ.length) :=
 call_fn Try.func90 rfl rfl rfl rfl _ _
noncomputable def c91 : Code := Try.f91.body.getD .skip
theorem call91 (args : List AV) (σ : List AObj) : call Try.prog T H (.fn 91) args σ = run Try.prog T H 91 σ.length 0 c91 { env := envOf 0 args, σ := σ } (endK Try.prog T H 91 [.tmp 2] σ.length) :=
 call_fn Try.func91 rfl rfl rfl rfl _ _
noncomputable def L91_0 : Code := loopAt 0 c91
noncomputable def c92 : Code := Try.f92.body.getD .skip
theorem call92 (args : List AV) (σ : List AObj) : call Try.prog T H (.fn 92) args σ = run Try.prog T H 92 σ.length 0 c92 { env := envOf 0 args, σ := σ } (endK Try.prog T H 92 [.tmp 2] σ.length) :=
 call_fn Try.func92 rfl rfl rfl rfl _ _
noncomputable def c93 : Code := Try.f93.body.getD .skip
theorem call93 (args : List AV) (σ : List AObj) : call Try.prog T H (.fn 93) args σ = run Try.prog T H 93 σ.length 0 c93 { env := envOf 0 args, σ := σ } (endK Try.prog T H 93 [.tmp 2] σ.length) :=
 call_fn Try.func93 rfl rfl rfl rfl _ _
theorem yo10_0 : yldOk H 10 22 [15, 16] A10_0 B10_0 = true := by kernel_rfl
theorem yo40_0 : yldOk H 40 24 [12, 13] A40_0 B40_0 = true := by kernel_rfl
theorem ck_7 : fnCheck Try.prog H (7, { ok := true, mv := [33, 40, 47, 54, 87], sh := [19, 34, 35, 36, 41, 42, 43, 48, 49, 50, 55, 56, 57, 70, 71, 88, 89, 90, 97, 98] }) = true := by kernel_rfl
theorem ck_8 : fnCheck Try.prog H (8, { ok := true, sh := [5, 6] }) = true := by kernel_rfl
theorem ck_9 : fnCheck Try.prog H (9, { ok := true, mv := [13, 18, 66], sh := [14, 24, 31] }) = true := by kernel_rfl
theorem ck_10 : fnCheck Try.prog H (10, { ok := true, mv := [17], sh := [9, 10, 13], outs := [(0, [6]), (1, [6])], nt := 22 }) = true := by kernel_rfl
theorem ck_14 : fnCheck Try.prog H (14, { ok := true, sh := [6, 7, 11, 17, 18] }) = true := by kernel_rfl
theorem ck_19 : fnCheck Try.prog H (19, { ok := true, sh := [0, 1, 5, 32, 37], heads := [(0, [0, 1, 12, 13])], outs := [(0, []), (1, [0, 1, 12, 13])] }) = true := by kernel_rfl
theorem ck_23 : fnCheck Try.prog H (23, { ok := true, sh := [5, 7] }) = true := by kernel_rfl
theorem ck_25 : fnCheck Try.prog H (25, { ok := true, sh := [5, 6, 9, 10] }) = true := by kernel_rfl
theorem ck_26 : fnCheck Try.prog H (26, { ok := true, sh := [12, 16, 17] }) = true := by kernel_rfl
theorem ck_28 : fnCheck Try.prog H (28, { ok := true, mv := [8], sh := [16], heads := [(0, [3, 8, 9, 10])], outs := [(0, [3]), (1, [3, 8, 9, 10])] }) = true := by kernel_rfl
theorem ck_31 : fnCheck Try.prog H (31, { ok := true, sh := [9, 10, 14, 15, 18, 19], outs := [(0, [1, 2])] }) = true := by kernel_rfl
theorem ck_32 : fnCheck Try.prog H (32, { ok := true, sh := [9, 10, 14, 15, 18, 19], outs := [(0, [1, 2])] }) = true := by kernel_rfl
theorem ck_33 : fnCheck Try.prog H (33, { ok := true, mv := [23, 35], sh := [11, 15, 16, 24, 25, 32], outs := [(0, [1, 2])] }) = true := by kernel_rfl
theorem ck_34 : fnCheck Try.prog H (34, { ok := true, mv := [26, 37, 46], sh := [18, 19, 30, 43], outs := [(0, [1, 2])] }) = true := by kernel_rfl
theorem ck_35 : fnCheck Try.prog H (35, { ok := true, mv := [8], sh := [19, 23], heads := [(0, [1, 5, 8, 9, 10])], outs := [(0, [5]), (1, [1, 5, 8, 9, 10])] }) = true := by kernel_rfl
theorem ck_36 : fnCheck Try.prog H (36, { ok := true, sh := [14], heads := [(0, [3, 7, 8, 9])], outs := [(0, [3]), (1, [3, 7, 8, 9])] }) = true := by kernel_rfl
theorem ck_37 : fnCheck Try.prog H (37, { ok := true, pu := false, esc := true }) = true := by kernel_rfl
theorem ck_40 : fnCheck Try.prog H (40, { ok := true, sh := [5, 7, 10, 16, 18], outs := [(0, [4, 5]), (1, [2, 4, 5])], nt := 24 }) = true := by kernel_rfl
theorem ck_47 : fnCheck Try.prog H (47, { ok := true }) = true := by kernel_rfl
theorem ck_50 : fnCheck Try.prog H (50, { ok := true, mv := [9], sh := [36, 38, 39], heads := [(0, [0, 2, 9, 10, 11])], outs := [(0, []), (1, [0, 2, 9, 10, 11])], pu := false }) = true := by kernel_rfl
theorem ck_51 : fnCheck Try.prog H (51, { ok := true, mv := [7], sh := [23, 25], heads := [(0, [0, 7, 8, 9])], outs := [(0, []), (1, [0, 7, 8, 9])] }) = true := by kernel_rfl
theorem ck_53 : fnCheck Try.prog H (53, { ok := true, sh := [18, 24, 25], heads := [(0, [0, 11, 12, 13])], outs := [(0, []), (1, [0, 11, 12, 13])] }) = true := by kernel_rfl
theorem ck_54 : fnCheck Try.prog H (54, { ok := true, mv := [9, 18, 21, 32, 39, 43], sh := [35, 37], heads := [(0, [0, 1, 9, 10, 11])], outs := [(0, [0]), (1, [0, 1, 9, 10, 11])], ro := true, op := [0] }) = true := by kernel_rfl
theorem ck_55 : fnCheck Try.prog H (55, { ok := true, sh := [18, 24, 25], heads := [(0, [0, 11, 12, 13])], outs := [(0, []), (1, [0, 11, 12, 13])] }) = true := by kernel_rfl
theorem ck_56 : fnCheck Try.prog H (56, { ok := true, mv := [8], sh := [31, 33], heads := [(0, [0, 5, 8, 9, 10])], outs := [(0, [5]), (1, [0, 5, 8, 9, 10])] }) = true := by kernel_rfl
theorem ck_57 : fnCheck Try.prog H (57, { ok := true, mv := [17], sh := [7, 9, 10, 12], df := true }) = true := by kernel_rfl
theorem ck_58 : fnCheck Try.prog H (58, { ok := true, mv := [46, 67, 126, 137], sh := [0, 50, 55, 61, 104], heads := [(0, [0, 3]), (2, [0, 3]), (4, [0, 3, 5, 6])], outs := [(0, []), (1, [0, 3]), (2, [0, 3]), (3, [0, 3]), (4, [0, 3, 5, 6]), (5, [0, 3, 5, 6])], pu := false }) = true := by kernel_rfl
theorem ck_59 : fnCheck Try.prog H (59, { ok := true, sh := [7], pu := false }) = true := by kernel_rfl
theorem ck_60 : fnCheck Try.prog H (60, { ok := true, sh := [6, 10, 17, 24, 28, 40, 41, 42], heads := [(0, [5, 10, 32, 33, 34])], outs := [(0, []), (1, [5, 10, 32, 33, 34])], pu := false }) = true := by kernel_rfl
theorem ck_62 : fnCheck Try.prog H (62, { ok := true, pu := false, esc := true }) = true := by kernel_rfl
theorem ck_70 : fnCheck Try.prog H (70, { ok := true, sh := [13, 24, 30], heads := [(0, [0, 18, 19])], outs := [(0, []), (1, [0, 18, 19])] }) = true := by kernel_rfl
theorem ck_71 : fnCheck Try.prog H (71, { ok := true, sh := [5, 6] }) = true := by kernel_rfl
theorem ck_72 : fnCheck Try.prog H (72, { ok := true, sh := [11] }) = true := by kernel_rfl
theorem ck_73 : fnCheck Try.prog H (73, { ok := true, mv := [7], heads := [(0, [1, 7, 8, 9])], outs := [(0, []), (1, [1, 7, 8, 9])] }) = true := by kernel_rfl
theorem ck_74 : fnCheck Try.prog H (74, { ok := true, mv := [11], outs := [(0, [])], pu := false }) = true := by kernel_rfl
theorem ck_75 : fnCheck Try.prog H (75, { ok := true, pu := false, esc := true }) = true := by kernel_rfl
theorem ck_76 : fnCheck Try.prog H (76, { ok := true, mv := [31, 35], sh := [8, 16, 18, 19, 20, 23, 25, 26, 29], heads := [(0, [0, 1, 5, 6])], outs := [(0, [5]), (1, [0, 1, 5])], pu := false }) = true := by kernel_rfl
theorem ck_77 : fnCheck Try.prog H (77, { ok := true, mv := [9], sh := [0, 3], pu := false }) = true := by kernel_rfl
theorem ck_78 : fnCheck Try.prog H (78, { ok := true, sh := [11, 19], heads := [(0, [0, 3])], outs := [(0, [3]), (1, [0, 3])] }) = true := by kernel_rfl
theorem ck_79 : fnCheck Try.prog H (79, { ok := true, sh := [12, 16], heads := [(0, [0, 1, 3])], outs := [(0, []), (1, [0, 1, 3])], pu := false }) = true := by kernel_rfl
theorem ck_83 : fnCheck Try.prog H (83, { ok := true }) = true := by kernel_rfl
theorem ck_84 : fnCheck Try.prog H (84, { ok := true }) = true := by kernel_rfl
theorem ck_85 : fnCheck Try.prog H (85, { ok := true, heads := [(0, [0, 1, 7, 8])], outs := [(0, []), (1, [0, 1, 7, 8])] }) = true := by kernel_rfl
theorem ck_86 : fnCheck Try.prog H (86, { ok := true, mv := [19], sh := [0, 3], pu := false }) = true := by kernel_rfl
theorem ck_87 : fnCheck Try.prog H (87, { ok := true, sh := [6, 7] }) = true := by kernel_rfl
theorem ck_88 : fnCheck Try.prog H (88, { ok := true, mv := [57], sh := [0, 5, 30, 41, 62], heads := [(0, [0, 3])], outs := [(0, [0, 3]), (1, [0, 3])], pu := false }) = true := by kernel_rfl
theorem ck_89 : fnCheck Try.prog H (89, { ok := true, mv := [30], sh := [0, 5], pu := false }) = true := by kernel_rfl
theorem ck_90 : fnCheck Try.prog H (90, { ok := true, sh := [4, 5], pu := false }) = true := by kernel_rfl
theorem ck_91 : fnCheck Try.prog H (91, { ok := true, mv := [37], sh := [0], heads := [(0, [0, 3])], outs := [(0, [0, 3]), (1, [0, 3])], pu := false }) = true := by kernel_rfl
theorem ck_92 : fnCheck Try.prog H (92, { ok := true }) = true := by kernel_rfl
theorem ck_93 : fnCheck Try.prog H (93, { ok := true }) = true := by kernel_rfl
theorem fnsOk : FnsOk Try.prog H := by
 refine fnsOk_of (by kernel_rfl) ?_
 show HL.all (fnCheck Try.prog H) = true
 unfold HL
 simp only [List.all_cons, List.all_nil, Bool.and_true, Bool.and_eq_true]
 exact ⟨ck_7, ck_8, ck_9, ck_10, ck_14, ck_19, ck_23, ck_25, ck_26, ck_28, ck_31, ck_32, ck_33, ck_34, ck_35, ck_36, ck_37, ck_40, ck_47, ck_50, ck_51, ck_53, ck_54, ck_55, ck_56, ck_57, ck_58, ck_59, ck_60, ck_62, ck_70, ck_71, ck_72, ck_73, ck_74, ck_75, ck_76, ck_77, ck_78, ck_79, ck_83, ck_84, ck_85, ck_86, ck_87, ck_88, ck_89, ck_90, ck_91, ck_92, ck_93⟩
theorem tabOk : TabOk Try.prog ⟨TY, GL⟩ := tabOk_of (by kernel_rfl) (by kernel_rfl)
end Go.AM.S02
