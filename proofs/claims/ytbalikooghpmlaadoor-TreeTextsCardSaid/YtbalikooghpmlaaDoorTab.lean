/- The types and functions of this seat as the abstract machine takes them, and the check that they are in order. -/
import Derived.Test.YtbalikooghpmlaaDoorAmEntry
import Derived.Test.YtbalikooghpmlaaDoorAmData
import Derived.Test.YtbalikooghpmlaaDoorProg
import Derived.KernelRfl
set_option linter.unusedVariables false
set_option linter.unusedSimpArgs false
namespace Go.AM.S01
open Go Go.Proofs Go.AM
set_option maxRecDepth 100000
noncomputable def TY : List TI := [
 ⟨.tup [], 1, 0, [], false⟩,
 ⟨.fn, 1, 8, [.lit .nilFunc], false⟩,
 ⟨.int .i64, 1, 8, [.lit (.int .i64 0)], false⟩,
 ⟨.int .i64, 1, 8, [.lit (.int .i64 0)], false⟩,
 ⟨.bool, 1, 1, [.lit (.bool false)], false⟩,
 ⟨.int .u8, 1, 1, [.lit (.int .u8 0)], false⟩,
 ⟨.int .u8, 1, 1, [.lit (.int .u8 0)], false⟩,
 ⟨.st [(0, 2), (1, 3), (2, 4), (3, 6)], 4, 24, [.lit (.int .i64 0), .lit (.int .i64 0), .lit (.bool false), .lit (.int .u8 0)], true⟩,
 ⟨.st [(0, 2), (1, 3), (2, 4), (3, 6)], 4, 24, [.lit (.int .i64 0), .lit (.int .i64 0), .lit (.bool false), .lit (.int .u8 0)], true⟩,
 ⟨.str, 1, 16, [.lit (.string ByteArray.empty)], false⟩,
 ⟨.str, 1, 16, [.lit (.string ByteArray.empty)], false⟩,
 ⟨.str, 1, 16, [.lit (.string ByteArray.empty)], false⟩,
 ⟨.int .u64, 1, 8, [.lit (.int .u64 0)], false⟩,
 ⟨.st [(0, 9), (1, 12)], 2, 24, [.lit (.string ByteArray.empty), .lit (.int .u64 0)], false⟩,
 ⟨.st [(0, 9), (1, 12)], 2, 24, [.lit (.string ByteArray.empty), .lit (.int .u64 0)], false⟩,
 ⟨.ptr 122, 1, 8, [.lit (.pointer none)], false⟩,
 ⟨.ptr 125, 1, 8, [.lit (.pointer none)], false⟩,
 ⟨.ptr 135, 1, 8, [.lit (.pointer none)], false⟩,
 ⟨.st [(0, 17)], 1, 8, [.lit (.pointer none)], false⟩,
 ⟨.st [(0, 17)], 1, 8, [.lit (.pointer none)], false⟩,
 ⟨.ifc, 1, 16, [.lit .nilIface], false⟩,
 ⟨.int .i32, 1, 4, [.lit (.int .i32 0)], false⟩,
 ⟨.sl 24, 1, 24, [.sl none 2 []], false⟩,
 ⟨.st [(0, 3), (1, 22)], 2, 32, [.lit (.int .i64 0), .sl none 2 []], false⟩,
 ⟨.st [(0, 3), (1, 22)], 2, 32, [.lit (.int .i64 0), .sl none 2 []], false⟩,
 ⟨.fn, 1, 8, [.lit .nilFunc], false⟩,
 ⟨.sl 3, 1, 24, [.sl none 1 []], false⟩,
 ⟨.st [(0, 26)], 1, 24, [.sl none 1 []], false⟩,
 ⟨.st [(0, 26)], 1, 24, [.sl none 1 []], false⟩,
 ⟨.fn, 1, 8, [.lit .nilFunc], false⟩,
 ⟨.fn, 1, 8, [.lit .nilFunc], false⟩,
 ⟨.fn, 1, 8, [.lit .nilFunc], false⟩,
 ⟨.int .i64, 1, 8, [.lit (.int .i64 0)], false⟩,
 ⟨.tup [22, 32], 1, 0, [.sl none 2 [], .lit (.int .i64 0)], false⟩,
 ⟨.fn, 1, 8, [.lit .nilFunc], false⟩,
 ⟨.fn, 1, 8, [.lit .nilFunc], false⟩,
 ⟨.fn, 1, 8, [.lit .nilFunc], false⟩,
 ⟨.fn, 1, 8, [.lit .nilFunc], false⟩,
 ⟨.fn, 1, 8, [.lit .nilFunc], false⟩,
 ⟨.fn, 1, 8, [.lit .nilFunc], false⟩,
 ⟨.fn, 1, 8, [.lit .nilFunc], false⟩,
 ⟨.fn, 1, 8, [.lit .nilFunc], false⟩,
 ⟨.fn, 1, 8, [.lit .nilFunc], false⟩,
 ⟨.sl 26, 1, 24, [.sl none 1 []], false⟩,
 ⟨.tup [43, 32], 1, 0, [.sl none 1 [], .lit (.int .i64 0)], false⟩,
 ⟨.fn, 1, 8, [.lit .nilFunc], false⟩,
 ⟨.tup [24, 32], 1, 0, [.lit (.int .i64 0), .sl none 2 [], .lit (.int .i64 0)], false⟩,
 ⟨.fn, 1, 8, [.lit .nilFunc], false⟩,
 ⟨.fn, 1, 8, [.lit .nilFunc], false⟩,
 ⟨.fn, 1, 8, [.lit .nilFunc], false⟩,
 ⟨.fn, 1, 8, [.lit .nilFunc], false⟩,
 ⟨.sl 9, 1, 24, [.sl none 1 []], false⟩,
 ⟨.tup [9, 32], 1, 0, [.lit (.string ByteArray.empty), .lit (.int .i64 0)], false⟩,
 ⟨.fn, 1, 8, [.lit .nilFunc], false⟩,
 ⟨.fn, 1, 8, [.lit .nilFunc], false⟩,
 ⟨.fn, 1, 8, [.lit .nilFunc], false⟩,
 ⟨.fn, 1, 8, [.lit .nilFunc], false⟩,
 ⟨.fn, 1, 8, [.lit .nilFunc], false⟩,
 ⟨.fn, 1, 8, [.lit .nilFunc], false⟩,
 ⟨.fn, 1, 8, [.lit .nilFunc], false⟩,
 ⟨.sl 62, 1, 24, [.sl none 3 []], false⟩,
 ⟨.st [(0, 3), (1, 3), (2, 60)], 3, 40, [.lit (.int .i64 0), .lit (.int .i64 0), .sl none 3 []], false⟩,
 ⟨.st [(0, 3), (1, 3), (2, 60)], 3, 40, [.lit (.int .i64 0), .lit (.int .i64 0), .sl none 3 []], false⟩,
 ⟨.fn, 1, 8, [.lit .nilFunc], false⟩,
 ⟨.fn, 1, 8, [.lit .nilFunc], false⟩,
 ⟨.fn, 1, 8, [.lit .nilFunc], false⟩,
 ⟨.ptr 69, 1, 8, [.lit (.pointer none)], false⟩,
 ⟨.map 3 22, 1, 8, [.lit (.map none)], false⟩,
 ⟨.st [(0, 28), (1, 67)], 2, 32, [.sl none 1 [], .lit (.map none)], false⟩,
 ⟨.st [(0, 28), (1, 67)], 2, 32, [.sl none 1 [], .lit (.map none)], false⟩,
 ⟨.fn, 1, 8, [.lit .nilFunc], false⟩,
 ⟨.fn, 1, 8, [.lit .nilFunc], false⟩,
 ⟨.fn, 1, 8, [.lit .nilFunc], false⟩,
 ⟨.fn, 1, 8, [.lit .nilFunc], false⟩,
 ⟨.ptr 3, 1, 8, [.lit (.pointer none)], false⟩,
 ⟨.fn, 1, 8, [.lit .nilFunc], false⟩,
 ⟨.fn, 1, 8, [.lit .nilFunc], false⟩,
 ⟨.fn, 1, 8, [.lit .nilFunc], false⟩,
 ⟨.fn, 1, 8, [.lit .nilFunc], false⟩,
 ⟨.fn, 1, 8, [.lit .nilFunc], false⟩,
 ⟨.fn, 1, 8, [.lit .nilFunc], false⟩,
 ⟨.fn, 1, 8, [.lit .nilFunc], false⟩,
 ⟨.fn, 1, 8, [.lit .nilFunc], false⟩,
 ⟨.tup [24, 4], 1, 0, [.lit (.int .i64 0), .sl none 2 [], .lit (.bool false)], false⟩,
 ⟨.fn, 1, 8, [.lit .nilFunc], false⟩,
 ⟨.fn, 1, 8, [.lit .nilFunc], false⟩,
 ⟨.fn, 1, 8, [.lit .nilFunc], false⟩,
 ⟨.fn, 1, 8, [.lit .nilFunc], false⟩,
 ⟨.fn, 1, 8, [.lit .nilFunc], false⟩,
 ⟨.sl 5, 1, 24, [.sl none 1 []], false⟩,
 ⟨.fn, 1, 8, [.lit .nilFunc], false⟩,
 ⟨.fn, 1, 8, [.lit .nilFunc], false⟩,
 ⟨.ptr 94, 1, 8, [.lit (.pointer none)], false⟩,
 ⟨.st [(0, 28), (1, 51), (2, 9), (3, 4)], 4, 72, [.sl none 1 [], .sl none 1 [], .lit (.string ByteArray.empty), .lit (.bool false)], false⟩,
 ⟨.st [(0, 28), (1, 51), (2, 9), (3, 4)], 4, 72, [.sl none 1 [], .sl none 1 [], .lit (.string ByteArray.empty), .lit (.bool false)], false⟩,
 ⟨.fn, 1, 8, [.lit .nilFunc], false⟩,
 ⟨.fn, 1, 8, [.lit .nilFunc], false⟩,
 ⟨.fn, 1, 8, [.lit .nilFunc], false⟩,
 ⟨.fn, 1, 8, [.lit .nilFunc], false⟩,
 ⟨.sl 22, 1, 24, [.sl none 1 []], false⟩,
 ⟨.fn, 1, 8, [.lit .nilFunc], false⟩,
 ⟨.fn, 1, 8, [.lit .nilFunc], false⟩,
 ⟨.tup [22, 4], 1, 0, [.sl none 2 [], .lit (.bool false)], false⟩,
 ⟨.fn, 1, 8, [.lit .nilFunc], false⟩,
 ⟨.fn, 1, 8, [.lit .nilFunc], false⟩,
 ⟨.fn, 1, 8, [.lit .nilFunc], false⟩,
 ⟨.fn, 1, 8, [.lit .nilFunc], false⟩,
 ⟨.fn, 1, 8, [.lit .nilFunc], false⟩,
 ⟨.fn, 1, 8, [.lit .nilFunc], false⟩,
 ⟨.fn, 1, 8, [.lit .nilFunc], false⟩,
 ⟨.ptr 32, 1, 8, [.lit (.pointer none)], false⟩,
 ⟨.ptr 119, 1, 8, [.lit (.pointer none)], false⟩,
 ⟨.fn, 1, 8, [.lit .nilFunc], false⟩,
 ⟨.fn, 1, 8, [.lit .nilFunc], false⟩,
 ⟨.st [], 0, 0, [], false⟩,
 ⟨.st [], 0, 0, [], false⟩,
 ⟨.fn, 1, 8, [.lit .nilFunc], false⟩,
 ⟨.arr 4 26, 4, 96, [.sl none 1 [], .sl none 1 [], .sl none 1 [], .sl none 1 []], false⟩,
 ⟨.st [(0, 9), (1, 3)], 2, 24, [.lit (.string ByteArray.empty), .lit (.int .i64 0)], true⟩,
 ⟨.st [(0, 9), (1, 3)], 2, 24, [.lit (.string ByteArray.empty), .lit (.int .i64 0)], true⟩,
 ⟨.fn, 1, 8, [.lit .nilFunc], false⟩,
 ⟨.st [(0, 17), (1, 17), (2, 17), (3, 9)], 4, 40, [.lit (.pointer none), .lit (.pointer none), .lit (.pointer none), .lit (.string ByteArray.empty)], false⟩,
 ⟨.st [(0, 17), (1, 17), (2, 17), (3, 9)], 4, 40, [.lit (.pointer none), .lit (.pointer none), .lit (.pointer none), .lit (.string ByteArray.empty)], false⟩,
 ⟨.arr 0 16, 0, 0, [], false⟩,
 ⟨.st [(0, 123)], 0, 0, [], false⟩,
 ⟨.st [(0, 123)], 0, 0, [], false⟩,
 ⟨.fn, 1, 8, [.lit .nilFunc], false⟩,
 ⟨.int .u32, 1, 4, [.lit (.int .u32 0)], false⟩,
 ⟨.int .u8, 1, 1, [.lit (.int .u8 0)], false⟩,
 ⟨.int .u8, 1, 1, [.lit (.int .u8 0)], false⟩,
 ⟨.fn, 1, 8, [.lit .nilFunc], false⟩,
 ⟨.ptr 5, 1, 8, [.lit (.pointer none)], false⟩,
 ⟨.int .i32, 1, 4, [.lit (.int .i32 0)], false⟩,
 ⟨.int .i32, 1, 4, [.lit (.int .i32 0)], false⟩,
 ⟨.st [(0, 12), (1, 12), (2, 127), (3, 128), (4, 5), (5, 5), (6, 129), (7, 130), (8, 131), (9, 132), (10, 133)], 11, 48, [.lit (.int .u64 0), .lit (.int .u64 0), .lit (.int .u32 0), .lit (.int .u8 0), .lit (.int .u8 0), .lit (.int .u8 0), .lit (.int .u8 0), .lit .nilFunc, .lit (.pointer none), .lit (.int .i32 0), .lit (.int .i32 0)], false⟩,
 ⟨.st [(0, 12), (1, 12), (2, 127), (3, 128), (4, 5), (5, 5), (6, 129), (7, 130), (8, 131), (9, 132), (10, 133)], 11, 48, [.lit (.int .u64 0), .lit (.int .u64 0), .lit (.int .u32 0), .lit (.int .u8 0), .lit (.int .u8 0), .lit (.int .u8 0), .lit (.int .u8 0), .lit .nilFunc, .lit (.pointer none), .lit (.int .i32 0), .lit (.int .i32 0)], false⟩,
 ⟨.other, 1, 8, [.lit (.pointer none)], false⟩]
noncomputable def GL : List (Nat × List PV) := [(0, [.sl none 1 [[.lit (.int .i64 0)], [.lit (.int .i64 2)]]])]
noncomputable def T : Tab := ⟨TY, GL⟩
theorem T_0 : T.at 0 = ⟨.tup [], 1, 0, [], false⟩ := rfl
theorem T_1 : T.at 1 = ⟨.fn, 1, 8, [.lit .nilFunc], false⟩ := rfl
theorem T_2 : T.at 2 = ⟨.int .i64, 1, 8, [.lit (.int .i64 0)], false⟩ := rfl
theorem T_3 : T.at 3 = ⟨.int .i64, 1, 8, [.lit (.int .i64 0)], false⟩ := rfl
theorem T_4 : T.at 4 = ⟨.bool, 1, 1, [.lit (.bool false)], false⟩ := rfl
theorem T_5 : T.at 5 = ⟨.int .u8, 1, 1, [.lit (.int .u8 0)], false⟩ := rfl
theorem T_6 : T.at 6 = ⟨.int .u8, 1, 1, [.lit (.int .u8 0)], false⟩ := rfl
theorem T_7 : T.at 7 = ⟨.st [(0, 2), (1, 3), (2, 4), (3, 6)], 4, 24, [.lit (.int .i64 0), .lit (.int .i64 0), .lit (.bool false), .lit (.int .u8 0)], true⟩ := rfl
theorem T_8 : T.at 8 = ⟨.st [(0, 2), (1, 3), (2, 4), (3, 6)], 4, 24, [.lit (.int .i64 0), .lit (.int .i64 0), .lit (.bool false), .lit (.int .u8 0)], true⟩ := rfl
theorem T_9 : T.at 9 = ⟨.str, 1, 16, [.lit (.string ByteArray.empty)], false⟩ := rfl
theorem T_10 : T.at 10 = ⟨.str, 1, 16, [.lit (.string ByteArray.empty)], false⟩ := rfl
theorem T_11 : T.at 11 = ⟨.str, 1, 16, [.lit (.string ByteArray.empty)], false⟩ := rfl
theorem T_12 : T.at 12 = ⟨.int .u64, 1, 8, [.lit (.int .u64 0)], false⟩ := rfl
theorem T_13 : T.at 13 = ⟨.st [(0, 9), (1, 12)], 2, 24, [.lit (.string ByteArray.empty), .lit (.int .u64 0)], false⟩ := rfl
theorem T_14 : T.at 14 = ⟨.st [(0, 9), (1, 12)], 2, 24, [.lit (.string ByteArray.empty), .lit (.int .u64 0)], false⟩ := rfl
theorem T_15 : T.at 15 = ⟨.ptr 122, 1, 8, [.lit (.pointer none)], false⟩ := rfl
theorem T_16 : T.at 16 = ⟨.ptr 125, 1, 8, [.lit (.pointer none)], false⟩ := rfl
theorem T_17 : T.at 17 = ⟨.ptr 135, 1, 8, [.lit (.pointer none)], false⟩ := rfl
theorem T_18 : T.at 18 = ⟨.st [(0, 17)], 1, 8, [.lit (.pointer none)], false⟩ := rfl
theorem T_19 : T.at 19 = ⟨.st [(0, 17)], 1, 8, [.lit (.pointer none)], false⟩ := rfl
theorem T_20 : T.at 20 = ⟨.ifc, 1, 16, [.lit .nilIface], false⟩ := rfl
theorem T_21 : T.at 21 = ⟨.int .i32, 1, 4, [.lit (.int .i32 0)], false⟩ := rfl
theorem T_22 : T.at 22 = ⟨.sl 24, 1, 24, [.sl none 2 []], false⟩ := rfl
theorem T_23 : T.at 23 = ⟨.st [(0, 3), (1, 22)], 2, 32, [.lit (.int .i64 0), .sl none 2 []], false⟩ := rfl
theorem T_24 : T.at 24 = ⟨.st [(0, 3), (1, 22)], 2, 32, [.lit (.int .i64 0), .sl none 2 []], false⟩ := rfl
theorem T_25 : T.at 25 = ⟨.fn, 1, 8, [.lit .nilFunc], false⟩ := rfl
theorem T_26 : T.at 26 = ⟨.sl 3, 1, 24, [.sl none 1 []], false⟩ := rfl
theorem T_27 : T.at 27 = ⟨.st [(0, 26)], 1, 24, [.sl none 1 []], false⟩ := rfl
theorem T_28 : T.at 28 = ⟨.st [(0, 26)], 1, 24, [.sl none 1 []], false⟩ := rfl
theorem T_29 : T.at 29 = ⟨.fn, 1, 8, [.lit .nilFunc], false⟩ := rfl
theorem T_30 : T.at 30 = ⟨.fn, 1, 8, [.lit .nilFunc], false⟩ := rfl
theorem T_31 : T.at 31 = ⟨.fn, 1, 8, [.lit .nilFunc], false⟩ := rfl
theorem T_32 : T.at 32 = ⟨.int .i64, 1, 8, [.lit (.int .i64 0)], false⟩ := rfl
theorem T_33 : T.at 33 = ⟨.tup [22, 32], 1, 0, [.sl none 2 [], .lit (.int .i64 0)], false⟩ := rfl
theorem T_34 : T.at 34 = ⟨.fn, 1, 8, [.lit .nilFunc], false⟩ := rfl
theorem T_35 : T.at 35 = ⟨.fn, 1, 8, [.lit .nilFunc], false⟩ := rfl
theorem T_36 : T.at 36 = ⟨.fn, 1, 8, [.lit .nilFunc], false⟩ := rfl
theorem T_37 : T.at 37 = ⟨.fn, 1, 8, [.lit .nilFunc], false⟩ := rfl
theorem T_38 : T.at 38 = ⟨.fn, 1, 8, [.lit .nilFunc], false⟩ := rfl
theorem T_39 : T.at 39 = ⟨.fn, 1, 8, [.lit .nilFunc], false⟩ := rfl
theorem T_40 : T.at 40 = ⟨.fn, 1, 8, [.lit .nilFunc], false⟩ := rfl
theorem T_41 : T.at 41 = ⟨.fn, 1, 8, [.lit .nilFunc], false⟩ := rfl
theorem T_42 : T.at 42 = ⟨.fn, 1, 8, [.lit .nilFunc], false⟩ := rfl
theorem T_43 : T.at 43 = ⟨.sl 26, 1, 24, [.sl none 1 []], false⟩ := rfl
theorem T_44 : T.at 44 = ⟨.tup [43, 32], 1, 0, [.sl none 1 [], .lit (.int .i64 0)], false⟩ := rfl
theorem T_45 : T.at 45 = ⟨.fn, 1, 8, [.lit .nilFunc], false⟩ := rfl
theorem T_46 : T.at 46 = ⟨.tup [24, 32], 1, 0, [.lit (.int .i64 0), .sl none 2 [], .lit (.int .i64 0)], false⟩ := rfl
theorem T_47 : T.at 47 = ⟨.fn, 1, 8, [.lit .nilFunc], false⟩ := rfl
theorem T_48 : T.at 48 = ⟨.fn, 1, 8, [.lit .nilFunc], false⟩ := rfl
theorem T_49 : T.at 49 = ⟨.fn, 1, 8, [.lit .nilFunc], false⟩ := rfl
theorem T_50 : T.at 50 = ⟨.fn, 1, 8, [.lit .nilFunc], false⟩ := rfl
theorem T_51 : T.at 51 = ⟨.sl 9, 1, 24, [.sl none 1 []], false⟩ := rfl
theorem T_52 : T.at 52 = ⟨.tup [9, 32], 1, 0, [.lit (.string ByteArray.empty), .lit (.int .i64 0)], false⟩ := rfl
theorem T_53 : T.at 53 = ⟨.fn, 1, 8, [.lit .nilFunc], false⟩ := rfl
theorem T_54 : T.at 54 = ⟨.fn, 1, 8, [.lit .nilFunc], false⟩ := rfl
theorem T_55 : T.at 55 = ⟨.fn, 1, 8, [.lit .nilFunc], false⟩ := rfl
theorem T_56 : T.at 56 = ⟨.fn, 1, 8, [.lit .nilFunc], false⟩ := rfl
theorem T_57 : T.at 57 = ⟨.fn, 1, 8, [.lit .nilFunc], false⟩ := rfl
theorem T_58 : T.at 58 = ⟨.fn, 1, 8, [.lit .nilFunc], false⟩ := rfl
theorem T_59 : T.at 59 = ⟨.fn, 1, 8, [.lit .nilFunc], false⟩ := rfl
theorem T_60 : T.at 60 = ⟨.sl 62, 1, 24, [.sl none 3 []], false⟩ := rfl
theorem T_61 : T.at 61 = ⟨.st [(0, 3), (1, 3), (2, 60)], 3, 40, [.lit (.int .i64 0), .lit (.int .i64 0), .sl none 3 []], false⟩ := rfl
theorem T_62 : T.at 62 = ⟨.st [(0, 3), (1, 3), (2, 60)], 3, 40, [.lit (.int .i64 0), .lit (.int .i64 0), .sl none 3 []], false⟩ := rfl
theorem T_63 : T.at 63 = ⟨.fn, 1, 8, [.lit .nilFunc], false⟩ := rfl
theorem T_64 : T.at 64 = ⟨.fn, 1, 8, [.lit .nilFunc], false⟩ := rfl
theorem T_65 : T.at 65 = ⟨.fn, 1, 8, [.lit .nilFunc], false⟩ := rfl
theorem T_66 : T.at 66 = ⟨.ptr 69, 1, 8, [.lit (.pointer none)], false⟩ := rfl
theorem T_67 : T.at 67 = ⟨.map 3 22, 1, 8, [.lit (.map none)], false⟩ := rfl
theorem T_68 : T.at 68 = ⟨.st [(0, 28), (1, 67)], 2, 32, [.sl none 1 [], .lit (.map none)], false⟩ := rfl
theorem T_69 : T.at 69 = ⟨.st [(0, 28), (1, 67)], 2, 32, [.sl none 1 [], .lit (.map none)], false⟩ := rfl
theorem T_70 : T.at 70 = ⟨.fn, 1, 8, [.lit .nilFunc], false⟩ := rfl
theorem T_71 : T.at 71 = ⟨.fn, 1, 8, [.lit .nilFunc], false⟩ := rfl
theorem T_72 : T.at 72 = ⟨.fn, 1, 8, [.lit .nilFunc], false⟩ := rfl
theorem T_73 : T.at 73 = ⟨.fn, 1, 8, [.lit .nilFunc], false⟩ := rfl
theorem T_74 : T.at 74 = ⟨.ptr 3, 1, 8, [.lit (.pointer none)], false⟩ := rfl
theorem T_75 : T.at 75 = ⟨.fn, 1, 8, [.lit .nilFunc], false⟩ := rfl
theorem T_76 : T.at 76 = ⟨.fn, 1, 8, [.lit .nilFunc], false⟩ := rfl
theorem T_77 : T.at 77 = ⟨.fn, 1, 8, [.lit .nilFunc], false⟩ := rfl
theorem T_78 : T.at 78 = ⟨.fn, 1, 8, [.lit .nilFunc], false⟩ := rfl
theorem T_79 : T.at 79 = ⟨.fn, 1, 8, [.lit .nilFunc], false⟩ := rfl
theorem T_80 : T.at 80 = ⟨.fn, 1, 8, [.lit .nilFunc], false⟩ := rfl
theorem T_81 : T.at 81 = ⟨.fn, 1, 8, [.lit .nilFunc], false⟩ := rfl
theorem T_82 : T.at 82 = ⟨.fn, 1, 8, [.lit .nilFunc], false⟩ := rfl
theorem T_83 : T.at 83 = ⟨.tup [24, 4], 1, 0, [.lit (.int .i64 0), .sl none 2 [], .lit (.bool false)], false⟩ := rfl
theorem T_84 : T.at 84 = ⟨.fn, 1, 8, [.lit .nilFunc], false⟩ := rfl
theorem T_85 : T.at 85 = ⟨.fn, 1, 8, [.lit .nilFunc], false⟩ := rfl
theorem T_86 : T.at 86 = ⟨.fn, 1, 8, [.lit .nilFunc], false⟩ := rfl
theorem T_87 : T.at 87 = ⟨.fn, 1, 8, [.lit .nilFunc], false⟩ := rfl
theorem T_88 : T.at 88 = ⟨.fn, 1, 8, [.lit .nilFunc], false⟩ := rfl
theorem T_89 : T.at 89 = ⟨.sl 5, 1, 24, [.sl none 1 []], false⟩ := rfl
theorem T_90 : T.at 90 = ⟨.fn, 1, 8, [.lit .nilFunc], false⟩ := rfl
theorem T_91 : T.at 91 = ⟨.fn, 1, 8, [.lit .nilFunc], false⟩ := rfl
theorem T_92 : T.at 92 = ⟨.ptr 94, 1, 8, [.lit (.pointer none)], false⟩ := rfl
theorem T_93 : T.at 93 = ⟨.st [(0, 28), (1, 51), (2, 9), (3, 4)], 4, 72, [.sl none 1 [], .sl none 1 [], .lit (.string ByteArray.empty), .lit (.bool false)], false⟩ := rfl
theorem T_94 : T.at 94 = ⟨.st [(0, 28), (1, 51), (2, 9), (3, 4)], 4, 72, [.sl none 1 [], .sl none 1 [], .lit (.string ByteArray.empty), .lit (.bool false)], false⟩ := rfl
theorem T_95 : T.at 95 = ⟨.fn, 1, 8, [.lit .nilFunc], false⟩ := rfl
theorem T_96 : T.at 96 = ⟨.fn, 1, 8, [.lit .nilFunc], false⟩ := rfl
theorem T_97 : T.at 97 = ⟨.fn, 1, 8, [.lit .nilFunc], false⟩ := rfl
theorem T_98 : T.at 98 = ⟨.fn, 1, 8, [.lit .nilFunc], false⟩ := rfl
theorem T_99 : T.at 99 = ⟨.sl 22, 1, 24, [.sl none 1 []], false⟩ := rfl
theorem T_100 : T.at 100 = ⟨.fn, 1, 8, [.lit .nilFunc], false⟩ := rfl
theorem T_101 : T.at 101 = ⟨.fn, 1, 8, [.lit .nilFunc], false⟩ := rfl
theorem T_102 : T.at 102 = ⟨.tup [22, 4], 1, 0, [.sl none 2 [], .lit (.bool false)], false⟩ := rfl
theorem T_103 : T.at 103 = ⟨.fn, 1, 8, [.lit .nilFunc], false⟩ := rfl
theorem T_104 : T.at 104 = ⟨.fn, 1, 8, [.lit .nilFunc], false⟩ := rfl
theorem T_105 : T.at 105 = ⟨.fn, 1, 8, [.lit .nilFunc], false⟩ := rfl
theorem T_106 : T.at 106 = ⟨.fn, 1, 8, [.lit .nilFunc], false⟩ := rfl
theorem T_107 : T.at 107 = ⟨.fn, 1, 8, [.lit .nilFunc], false⟩ := rfl
theorem T_108 : T.at 108 = ⟨.fn, 1, 8, [.lit .nilFunc], false⟩ := rfl
theorem T_109 : T.at 109 = ⟨.fn, 1, 8, [.lit .nilFunc], false⟩ := rfl
theorem T_110 : T.at 110 = ⟨.ptr 32, 1, 8, [.lit (.pointer none)], false⟩ := rfl
theorem T_111 : T.at 111 = ⟨.ptr 119, 1, 8, [.lit (.pointer none)], false⟩ := rfl
theorem T_112 : T.at 112 = ⟨.fn, 1, 8, [.lit .nilFunc], false⟩ := rfl
theorem T_113 : T.at 113 = ⟨.fn, 1, 8, [.lit .nilFunc], false⟩ := rfl
theorem T_114 : T.at 114 = ⟨.st [], 0, 0, [], false⟩ := rfl
theorem T_115 : T.at 115 = ⟨.st [], 0, 0, [], false⟩ := rfl
theorem T_116 : T.at 116 = ⟨.fn, 1, 8, [.lit .nilFunc], false⟩ := rfl
theorem T_117 : T.at 117 = ⟨.arr 4 26, 4, 96, [.sl none 1 [], .sl none 1 [], .sl none 1 [], .sl none 1 []], false⟩ := rfl
theorem T_118 : T.at 118 = ⟨.st [(0, 9), (1, 3)], 2, 24, [.lit (.string ByteArray.empty), .lit (.int .i64 0)], true⟩ := rfl
theorem T_119 : T.at 119 = ⟨.st [(0, 9), (1, 3)], 2, 24, [.lit (.string ByteArray.empty), .lit (.int .i64 0)], true⟩ := rfl
theorem T_120 : T.at 120 = ⟨.fn, 1, 8, [.lit .nilFunc], false⟩ := rfl
theorem T_121 : T.at 121 = ⟨.st [(0, 17), (1, 17), (2, 17), (3, 9)], 4, 40, [.lit (.pointer none), .lit (.pointer none), .lit (.pointer none), .lit (.string ByteArray.empty)], false⟩ := rfl
theorem T_122 : T.at 122 = ⟨.st [(0, 17), (1, 17), (2, 17), (3, 9)], 4, 40, [.lit (.pointer none), .lit (.pointer none), .lit (.pointer none), .lit (.string ByteArray.empty)], false⟩ := rfl
theorem T_123 : T.at 123 = ⟨.arr 0 16, 0, 0, [], false⟩ := rfl
theorem T_124 : T.at 124 = ⟨.st [(0, 123)], 0, 0, [], false⟩ := rfl
theorem T_125 : T.at 125 = ⟨.st [(0, 123)], 0, 0, [], false⟩ := rfl
theorem T_126 : T.at 126 = ⟨.fn, 1, 8, [.lit .nilFunc], false⟩ := rfl
theorem T_127 : T.at 127 = ⟨.int .u32, 1, 4, [.lit (.int .u32 0)], false⟩ := rfl
theorem T_128 : T.at 128 = ⟨.int .u8, 1, 1, [.lit (.int .u8 0)], false⟩ := rfl
theorem T_129 : T.at 129 = ⟨.int .u8, 1, 1, [.lit (.int .u8 0)], false⟩ := rfl
theorem T_130 : T.at 130 = ⟨.fn, 1, 8, [.lit .nilFunc], false⟩ := rfl
theorem T_131 : T.at 131 = ⟨.ptr 5, 1, 8, [.lit (.pointer none)], false⟩ := rfl
theorem T_132 : T.at 132 = ⟨.int .i32, 1, 4, [.lit (.int .i32 0)], false⟩ := rfl
theorem T_133 : T.at 133 = ⟨.int .i32, 1, 4, [.lit (.int .i32 0)], false⟩ := rfl
theorem T_134 : T.at 134 = ⟨.st [(0, 12), (1, 12), (2, 127), (3, 128), (4, 5), (5, 5), (6, 129), (7, 130), (8, 131), (9, 132), (10, 133)], 11, 48, [.lit (.int .u64 0), .lit (.int .u64 0), .lit (.int .u32 0), .lit (.int .u8 0), .lit (.int .u8 0), .lit (.int .u8 0), .lit (.int .u8 0), .lit .nilFunc, .lit (.pointer none), .lit (.int .i32 0), .lit (.int .i32 0)], false⟩ := rfl
theorem T_135 : T.at 135 = ⟨.st [(0, 12), (1, 12), (2, 127), (3, 128), (4, 5), (5, 5), (6, 129), (7, 130), (8, 131), (9, 132), (10, 133)], 11, 48, [.lit (.int .u64 0), .lit (.int .u64 0), .lit (.int .u32 0), .lit (.int .u8 0), .lit (.int .u8 0), .lit (.int .u8 0), .lit (.int .u8 0), .lit .nilFunc, .lit (.pointer none), .lit (.int .i32 0), .lit (.int .i32 0)], false⟩ := rfl
theorem T_136 : T.at 136 = ⟨.other, 1, 8, [.lit (.pointer none)], false⟩ := rfl
attribute [go_sem] T_0 T_1 T_2 T_3 T_4 T_5 T_6 T_7 T_8 T_9 T_10 T_11 T_12 T_13 T_14 T_15 T_16 T_17 T_18 T_19 T_20 T_21 T_22 T_23 T_24 T_25 T_26 T_27 T_28 T_29 T_30 T_31 T_32 T_33 T_34 T_35 T_36 T_37 T_38 T_39 T_40 T_41 T_42 T_43 T_44 T_45 T_46 T_47 T_48 T_49 T_50 T_51 T_52 T_53 T_54 T_55 T_56 T_57 T_58 T_59 T_60 T_61 T_62 T_63 T_64 T_65 T_66 T_67 T_68 T_69 T_70 T_71 T_72 T_73 T_74 T_75 T_76 T_77 T_78 T_79 T_80 T_81 T_82 T_83 T_84 T_85 T_86 T_87 T_88 T_89 T_90 T_91 T_92 T_93 T_94 T_95 T_96 T_97 T_98 T_99 T_100 T_101 T_102 T_103 T_104 T_105 T_106 T_107 T_108 T_109 T_110 T_111 T_112 T_113 T_114 T_115 T_116 T_117 T_118 T_119 T_120 T_121 T_122 T_123 T_124 T_125 T_126 T_127 T_128 T_129 T_130 T_131 T_132 T_133 T_134 T_135 T_136
noncomputable def HL : List (Nat × FH) := [
 (8, { ok := true, mv := [35, 42, 49, 56, 89], sh := [19, 21, 36, 37, 38, 43, 44, 45, 50, 51, 52, 57, 58, 59, 72, 73, 90, 91, 92, 99, 100] }),
 (9, { ok := true, mv := [7], sh := [13], heads := [(0, [2, 7, 8, 9])], outs := [(0, [2]), (1, [2, 7, 8, 9])] }),
 (10, { ok := true, mv := [17, 22], sh := [7, 8, 9, 10, 12, 13, 14, 15, 18, 23, 24, 31, 34, 38, 39, 48, 53] }),
 (11, { ok := true, sh := [5, 6, 7, 8] }),
 (12, { ok := true, mv := [23], sh := [7, 16, 17, 20, 21] }),
 (14, { ok := true, sh := [5, 19, 23], heads := [(0, [0, 1, 12, 13])], outs := [(0, []), (1, [0, 1, 12, 13])] }),
 (15, { ok := true, sh := [9] }),
 (16, { ok := true, heads := [(0, [10, 11, 12])], outs := [(0, []), (1, [10, 11, 12])] }),
 (17, { ok := true, sh := [5, 6, 9, 10] }),
 (18, { ok := true, sh := [5, 8, 12, 13] }),
 (19, { ok := true, sh := [14], heads := [(0, [3, 7, 8, 9])], outs := [(0, [3]), (1, [3, 7, 8, 9])] }),
 (24, { ok := true, sh := [5, 30, 35], heads := [(0, [2, 3, 22, 23])], outs := [(0, []), (1, [2, 3, 22, 23])] }),
 (25, { ok := true, sh := [13, 24, 30], heads := [(0, [0, 18, 19])], outs := [(0, []), (1, [0, 18, 19])] }),
 (26, { ok := true, sh := [11] }),
 (27, { ok := true, nw := [6, 20], sh := [6, 8, 9, 12, 17], outs := [(0, [6]), (1, [6])], nt := 22 }),
 (33, { ok := true, sh := [5, 19, 23], heads := [(0, [0, 1, 12, 13])], outs := [(0, []), (1, [0, 1, 12, 13])] }),
 (34, { ok := true, sh := [9, 10, 14, 17, 20, 21], outs := [(0, [1, 5])] }),
 (35, { ok := true, sh := [9, 10, 14, 17, 20, 21], outs := [(0, [1, 5])] }),
 (36, { ok := true, mv := [28], sh := [11, 16, 19, 29, 30, 31, 39], outs := [(0, [1, 2, 3, 6])] }),
 (37, { ok := true, mv := [29, 42], sh := [11, 16, 19, 33, 35, 49], outs := [(0, [1, 2, 3, 6])] }),
 (38, { ok := true, sh := [5, 6] }),
 (39, { ok := true }),
 (40, { ok := true }),
 (41, { ok := true, sh := [2, 3, 7, 9, 12, 14, 16, 22, 24] }),
 (42, { ok := true, mv := [26], sh := [17], heads := [(0, [2, 3, 11, 12, 13])], outs := [(0, [2, 3]), (1, [2, 3, 11, 12, 13])] }),
 (43, { ok := true, mv := [39], nw := [11], sh := [5, 6, 30, 31, 33], heads := [(0, [1, 2, 5, 6]), (2, [1, 2, 5, 6, 18, 19, 20])], outs := [(0, [1, 5]), (1, [1, 2, 5, 6]), (2, [1, 2, 5, 6]), (3, [1, 2, 5, 6, 18, 19, 20])] }),
 (44, { ok := true, mv := [33, 40, 47, 53], sh := [10, 21, 22, 24, 41], heads := [(0, [1, 2, 5, 14, 15, 16]), (2, [1, 2, 5, 6, 14, 15, 16, 25, 26, 27]), (4, [1, 2, 5, 6, 10, 14, 15, 16, 25, 26, 27, 33, 34, 35])], outs := [(0, [5]), (1, [1, 2, 5, 14, 15, 16]), (2, [1, 2, 5, 14, 15, 16]), (3, [1, 2, 5, 6, 14, 15, 16, 25, 26, 27]), (4, [1, 2, 5, 6, 10, 14, 15, 16, 25, 26, 27]), (5, [1, 2, 5, 6, 10, 14, 15, 16, 25, 26, 27, 33, 34, 35])] }),
 (47, { ok := true, sh := [5, 6], pu := false }),
 (48, { ok := true }),
 (49, { ok := true, sh := [3, 4, 50, 51, 52], heads := [(0, [2, 3, 44, 45, 46])], outs := [(0, []), (1, [2, 3, 44, 45, 46])], pu := false }),
 (50, { ok := true, sh := [2, 3, 37, 38], heads := [(0, [2, 31, 32, 33])], outs := [(0, []), (1, [2, 31, 32, 33])] }),
 (52, { ok := true }),
 (53, { ok := true }),
 (54, { ok := true, sh := [11, 19], heads := [(0, [0, 3])], outs := [(0, [3]), (1, [0, 3])] }),
 (55, { ok := true, pu := false, esc := true }),
 (56, { ok := true, mv := [6], pu := false, rd := true }),
 (59, { ok := true, mv := [17], sh := [3, 18], heads := [(0, [2, 3, 10, 11, 12])], outs := [(0, [2, 3]), (1, [2, 3, 10, 11, 12])] }),
 (63, { ok := true, sh := [5], heads := [(0, [0, 1, 12, 13])], outs := [(0, []), (1, [0, 1, 12, 13])] }),
 (64, { ok := true, sh := [18, 24, 25], heads := [(0, [0, 11, 12, 13])], outs := [(0, []), (1, [0, 11, 12, 13])] }),
 (65, { ok := true, mv := [9, 26, 29, 31, 40, 43], sh := [32, 33], heads := [(0, [0, 1, 5, 17, 18, 19])], outs := [(0, [0, 5]), (1, [0, 1, 5, 17, 18, 19])], ro := true, op := [0] }),
 (66, { ok := true, sh := [18, 24, 25], heads := [(0, [0, 11, 12, 13])], outs := [(0, []), (1, [0, 11, 12, 13])] }),
 (67, { ok := true, sh := [28, 29], heads := [(0, [0, 3, 5, 14, 15, 16])], outs := [(0, [3, 5]), (1, [0, 3, 5, 14, 15, 16])] }),
 (68, { ok := true, sh := [9, 11, 12, 13, 15], df := true }),
 (69, { ok := true, mv := [27, 65], sh := [0, 5, 7, 12, 17, 23, 55, 57, 66, 86], heads := [(0, [0, 2, 4, 5, 49, 50])], outs := [(0, [0, 2, 4, 5]), (1, [0, 2, 4, 5, 49, 50])], pu := false, fr := [(67, 1001)], lm := [(65, 1001)] }),
 (70, { ok := true, heads := [(0, [0])], outs := [(0, []), (1, [0])], pu := false }),
 (71, { ok := true, sh := [19, 22], heads := [(0, [1, 5, 9, 10, 11])], outs := [(0, [5]), (1, [1, 5, 9, 10, 11])] }),
 (72, { ok := true, mv := [6], heads := [(0, [3, 6, 7, 8])], outs := [(0, [3]), (1, [3, 6, 7, 8])] }),
 (73, { ok := true, sh := [7, 9] }),
 (74, { ok := true, mv := [34, 36], sh := [27, 28], heads := [(0, [0, 1, 2, 11, 12, 13])], outs := [(0, [0, 1]), (1, [0, 1, 2, 11, 12, 13])], pu := false }),
 (75, { ok := true, sh := [0, 8, 28, 30, 33], heads := [(0, [0, 1, 2, 7, 8])], outs := [(0, [7]), (1, [0, 1, 2, 7, 8])], pu := false, rd := true }),
 (76, { ok := true, mv := [51, 54, 60], sh := [27, 29, 32, 37, 38], heads := [(0, [1, 2, 3, 7, 8]), (2, [1, 2, 3, 7, 8, 9, 39, 40, 41]), (4, [1, 2, 3, 7, 8, 9, 11, 39, 40, 41, 45, 46, 47])], outs := [(0, [7]), (1, [1, 2, 3, 7, 8]), (2, [1, 2, 3, 7, 8]), (3, [1, 2, 3, 7, 8, 9, 39, 40, 41]), (4, [1, 2, 3, 7, 8, 9, 39, 40, 41]), (5, [1, 2, 3, 7, 8, 9, 11, 39, 40, 41, 45, 46, 47])] }),
 (79, { ok := true, sh := [15], heads := [(0, [0, 1, 7, 8])], outs := [(0, []), (1, [0, 1, 7, 8])], pu := false }),
 (80, { ok := true }),
 (81, { ok := true }),
 (82, { ok := true, nw := [3], sh := [7], pu := false }),
 (83, { ok := true, nw := [24], sh := [9, 10, 26], heads := [(0, [2, 3, 14, 15, 16])], outs := [(0, []), (1, [2, 3, 14, 15, 16])], pu := false }),
 (84, { ok := true, sh := [5, 6] }),
 (85, { ok := true, mv := [7], heads := [(0, [1, 7, 8, 9])], outs := [(0, []), (1, [1, 7, 8, 9])] }),
 (86, { ok := true, mv := [11], outs := [(0, [])], pu := false }),
 (87, { ok := true, pu := false, esc := true }),
 (88, { ok := true, mv := [35], sh := [7, 10, 11, 12, 24, 32, 36, 37, 38, 44], heads := [(0, [0, 2, 4, 6, 7, 26, 27])], outs := [(0, [0, 6, 7]), (1, [0, 2, 4, 6, 7, 26, 27])], pu := false, fr := [(39, 1001)], lm := [(35, 1001)], dp := [(11, 1001)] }),
 (89, { ok := true, mv := [9], sh := [0, 3], pu := false }),
 (90, { ok := true, mv := [20, 24], sh := [4], pu := false }),
 (91, { ok := true }),
 (92, { ok := true, heads := [(0, [0, 1, 7, 8])], outs := [(0, []), (1, [0, 1, 7, 8])] }),
 (93, { ok := true, sh := [6, 7] }),
 (94, { ok := true, mv := [57], sh := [0, 5, 30, 41, 62], heads := [(0, [0, 3])], outs := [(0, [0, 3]), (1, [0, 3])], pu := false }),
 (95, { ok := true, sh := [4, 5], pu := false }),
 (96, { ok := true, mv := [37], sh := [0], heads := [(0, [0, 3])], outs := [(0, [0, 3]), (1, [0, 3])], pu := false }),
 (97, { ok := true, mv := [30], sh := [0, 5], pu := false })]
noncomputable def H : FuncId → FH := hOf HL
theorem H_8 : H 8 = { ok := true, mv := [35, 42, 49, 56, 89], sh := [19, 21, 36, 37, 38, 43, 44, 45, 50, 51, 52, 57, 58, 59, 72, 73, 90, 91, 92, 99, 100] } := rfl
theorem H_9 : H 9 = { ok := true, mv := [7], sh := [13], heads := [(0, [2, 7, 8, 9])], outs := [(0, [2]), (1, [2, 7, 8, 9])] } := rfl
theorem H_10 : H 10 = { ok := true, mv := [17, 22], sh := [7, 8, 9, 10, 12, 13, 14, 15, 18, 23, 24, 31, 34, 38, 39, 48, 53] } := rfl
theorem H_11 : H 11 = { ok := true, sh := [5, 6, 7, 8] } := rfl
theorem H_12 : H 12 = { ok := true, mv := [23], sh := [7, 16, 17, 20, 21] } := rfl
theorem H_14 : H 14 = { ok := true, sh := [5, 19, 23], heads := [(0, [0, 1, 12, 13])], outs := [(0, []), (1, [0, 1, 12, 13])] } := rfl
theorem H_15 : H 15 = { ok := true, sh := [9] } := rfl
theorem H_16 : H 16 = { ok := true, heads := [(0, [10, 11, 12])], outs := [(0, []), (1, [10, 11, 12])] } := rfl
theorem H_17 : H 17 = { ok := true, sh := [5, 6, 9, 10] } := rfl
theorem H_18 : H 18 = { ok := true, sh := [5, 8, 12, 13] } := rfl
theorem H_19 : H 19 = { ok := true, sh := [14], heads := [(0, [3, 7, 8, 9])], outs := [(0, [3]), (1, [3, 7, 8, 9])] } := rfl
theorem H_24 : H 24 = { ok := true, sh := [5, 30, 35], heads := [(0, [2, 3, 22, 23])], outs := [(0, []), (1, [2, 3, 22, 23])] } := rfl
theorem H_25 : H 25 = { ok := true, sh := [13, 24, 30], heads := [(0, [0, 18, 19])], outs := [(0, []), (1, [0, 18, 19])] } := rfl
theorem H_26 : H 26 = { ok := true, sh := [11] } := rfl
theorem H_27 : H 27 = { ok := true, nw := [6, 20], sh := [6, 8, 9, 12, 17], outs := [(0, [6]), (1, [6])], nt := 22 } := rfl
theorem H_33 : H 33 = { ok := true, sh := [5, 19, 23], heads := [(0, [0, 1, 12, 13])], outs := [(0, []), (1, [0, 1, 12, 13])] } := rfl
theorem H_34 : H 34 = { ok := true, sh := [9, 10, 14, 17, 20, 21], outs := [(0, [1, 5])] } := rfl
theorem H_35 : H 35 = { ok := true, sh := [9, 10, 14, 17, 20, 21], outs := [(0, [1, 5])] } := rfl
theorem H_36 : H 36 = { ok := true, mv := [28], sh := [11, 16, 19, 29, 30, 31, 39], outs := [(0, [1, 2, 3, 6])] } := rfl
theorem H_37 : H 37 = { ok := true, mv := [29, 42], sh := [11, 16, 19, 33, 35, 49], outs := [(0, [1, 2, 3, 6])] } := rfl
theorem H_38 : H 38 = { ok := true, sh := [5, 6] } := rfl
theorem H_39 : H 39 = { ok := true } := rfl
theorem H_40 : H 40 = { ok := true } := rfl
theorem H_41 : H 41 = { ok := true, sh := [2, 3, 7, 9, 12, 14, 16, 22, 24] } := rfl
theorem H_42 : H 42 = { ok := true, mv := [26], sh := [17], heads := [(0, [2, 3, 11, 12, 13])], outs := [(0, [2, 3]), (1, [2, 3, 11, 12, 13])] } := rfl
theorem H_43 : H 43 = { ok := true, mv := [39], nw := [11], sh := [5, 6, 30, 31, 33], heads := [(0, [1, 2, 5, 6]), (2, [1, 2, 5, 6, 18, 19, 20])], outs := [(0, [1, 5]), (1, [1, 2, 5, 6]), (2, [1, 2, 5, 6]), (3, [1, 2, 5, 6, 18, 19, 20])] } := rfl
theorem H_44 : H 44 = { ok := true, mv := [33, 40, 47, 53], sh := [10, 21, 22, 24, 41], heads := [(0, [1, 2, 5, 14, 15, 16]), (2, [1, 2, 5, 6, 14, 15, 16, 25, 26, 27]), (4, [1, 2, 5, 6, 10, 14, 15, 16, 25, 26, 27, 33, 34, 35])], outs := [(0, [5]), (1, [1, 2, 5, 14, 15, 16]), (2, [1, 2, 5, 14, 15, 16]), (3, [1, 2, 5, 6, 14, 15, 16, 25, 26, 27]), (4, [1, 2, 5, 6, 10, 14, 15, 16, 25, 26, 27]), (5, [1, 2, 5, 6, 10, 14, 15, 16, 25, 26, 27, 33, 34, 35])] } := rfl
theorem H_47 : H 47 = { ok := true, sh := [5, 6], pu := false } := rfl
theorem H_48 : H 48 = { ok := true } := rfl
theorem H_49 : H 49 = { ok := true, sh := [3, 4, 50, 51, 52], heads := [(0, [2, 3, 44, 45, 46])], outs := [(0, []), (1, [2, 3, 44, 45, 46])], pu := false } := rfl
theorem H_50 : H 50 = { ok := true, sh := [2, 3, 37, 38], heads := [(0, [2, 31, 32, 33])], outs := [(0, []), (1, [2, 31, 32, 33])] } := rfl
theorem H_52 : H 52 = { ok := true } := rfl
theorem H_53 : H 53 = { ok := true } := rfl
theorem H_54 : H 54 = { ok := true, sh := [11, 19], heads := [(0, [0, 3])], outs := [(0, [3]), (1, [0, 3])] } := rfl
theorem H_55 : H 55 = { ok := true, pu := false, esc := true } := rfl
theorem H_56 : H 56 = { ok := true, mv := [6], pu := false, rd := true } := rfl
theorem H_59 : H 59 = { ok := true, mv := [17], sh := [3, 18], heads := [(0, [2, 3, 10, 11, 12])], outs := [(0, [2, 3]), (1, [2, 3, 10, 11, 12])] } := rfl
theorem H_63 : H 63 = { ok := true, sh := [5], heads := [(0, [0, 1, 12, 13])], outs := [(0, []), (1, [0, 1, 12, 13])] } := rfl
theorem H_64 : H 64 = { ok := true, sh := [18, 24, 25], heads := [(0, [0, 11, 12, 13])], outs := [(0, []), (1, [0, 11, 12, 13])] } := rfl
theorem H_65 : H 65 = { ok := true, mv := [9, 26, 29, 31, 40, 43], sh := [32, 33], heads := [(0, [0, 1, 5, 17, 18, 19])], outs := [(0, [0, 5]), (1, [0, 1, 5, 17, 18, 19])], ro := true, op := [0] } := rfl
theorem H_66 : H 66 = { ok := true, sh := [18, 24, 25], heads := [(0, [0, 11, 12, 13])], outs := [(0, []), (1, [0, 11, 12, 13])] } := rfl
theorem H_67 : H 67 = { ok := true, sh := [28, 29], heads := [(0, [0, 3, 5, 14, 15, 16])], outs := [(0, [3, 5]), (1, [0, 3, 5, 14, 15, 16])] } := rfl
theorem H_68 : H 68 = { ok := true, sh := [9, 11, 12, 13, 15], df := true } := rfl
theorem H_69 : H 69 = { ok := true, mv := [27, 65], sh := [0, 5, 7, 12, 17, 23, 55, 57, 66, 86], heads := [(0, [0, 2, 4, 5, 49, 50])], outs := [(0, [0, 2, 4, 5]), (1, [0, 2, 4, 5, 49, 50])], pu := false, fr := [(67, 1001)], lm := [(65, 1001)] } := rfl
theorem H_70 : H 70 = { ok := true, heads := [(0, [0])], outs := [(0, []), (1, [0])], pu := false } := rfl
theorem H_71 : H 71 = { ok := true, sh := [19, 22], heads := [(0, [1, 5, 9, 10, 11])], outs := [(0, [5]), (1, [1, 5, 9, 10, 11])] } := rfl
theorem H_72 : H 72 = { ok := true, mv := [6], heads := [(0, [3, 6, 7, 8])], outs := [(0, [3]), (1, [3, 6, 7, 8])] } := rfl
theorem H_73 : H 73 = { ok := true, sh := [7, 9] } := rfl
theorem H_74 : H 74 = { ok := true, mv := [34, 36], sh := [27, 28], heads := [(0, [0, 1, 2, 11, 12, 13])], outs := [(0, [0, 1]), (1, [0, 1, 2, 11, 12, 13])], pu := false } := rfl
theorem H_75 : H 75 = { ok := true, sh := [0, 8, 28, 30, 33], heads := [(0, [0, 1, 2, 7, 8])], outs := [(0, [7]), (1, [0, 1, 2, 7, 8])], pu := false, rd := true } := rfl
theorem H_76 : H 76 = { ok := true, mv := [51, 54, 60], sh := [27, 29, 32, 37, 38], heads := [(0, [1, 2, 3, 7, 8]), (2, [1, 2, 3, 7, 8, 9, 39, 40, 41]), (4, [1, 2, 3, 7, 8, 9, 11, 39, 40, 41, 45, 46, 47])], outs := [(0, [7]), (1, [1, 2, 3, 7, 8]), (2, [1, 2, 3, 7, 8]), (3, [1, 2, 3, 7, 8, 9, 39, 40, 41]), (4, [1, 2, 3, 7, 8, 9, 39, 40, 41]), (5, [1, 2, 3, 7, 8, 9, 11, 39, 40, 41, 45, 46, 47])] } := rfl
theorem H_79 : H 79 = { ok := true, sh := [15], heads := [(0, [0, 1, 7, 8])], outs := [(0, []), (1, [0, 1, 7, 8])], pu := false } := rfl
theorem H_80 : H 80 = { ok := true } := rfl
theorem H_81 : H 81 = { ok := true } := rfl
theorem H_82 : H 82 = { ok := true, nw := [3], sh := [7], pu := false } := rfl
theorem H_83 : H 83 = { ok := true, nw := [24], sh := [9, 10, 26], heads := [(0, [2, 3, 14, 15, 16])], outs := [(0, []), (1, [2, 3, 14, 15, 16])], pu := false } := rfl
theorem H_84 : H 84 = { ok := true, sh := [5, 6] } := rfl
theorem H_85 : H 85 = { ok := true, mv := [7], heads := [(0, [1, 7, 8, 9])], outs := [(0, []), (1, [1, 7, 8, 9])] } := rfl
theorem H_86 : H 86 = { ok := true, mv := [11], outs := [(0, [])], pu := false } := rfl
theorem H_87 : H 87 = { ok := true, pu := false, esc := true } := rfl
theorem H_88 : H 88 = { ok := true, mv := [35], sh := [7, 10, 11, 12, 24, 32, 36, 37, 38, 44], heads := [(0, [0, 2, 4, 6, 7, 26, 27])], outs := [(0, [0, 6, 7]), (1, [0, 2, 4, 6, 7, 26, 27])], pu := false, fr := [(39, 1001)], lm := [(35, 1001)], dp := [(11, 1001)] } := rfl
theorem H_89 : H 89 = { ok := true, mv := [9], sh := [0, 3], pu := false } := rfl
theorem H_90 : H 90 = { ok := true, mv := [20, 24], sh := [4], pu := false } := rfl
theorem H_91 : H 91 = { ok := true } := rfl
theorem H_92 : H 92 = { ok := true, heads := [(0, [0, 1, 7, 8])], outs := [(0, []), (1, [0, 1, 7, 8])] } := rfl
theorem H_93 : H 93 = { ok := true, sh := [6, 7] } := rfl
theorem H_94 : H 94 = { ok := true, mv := [57], sh := [0, 5, 30, 41, 62], heads := [(0, [0, 3])], outs := [(0, [0, 3]), (1, [0, 3])], pu := false } := rfl
theorem H_95 : H 95 = { ok := true, sh := [4, 5], pu := false } := rfl
theorem H_96 : H 96 = { ok := true, mv := [37], sh := [0], heads := [(0, [0, 3])], outs := [(0, [0, 3]), (1, [0, 3])], pu := false } := rfl
theorem H_97 : H 97 = { ok := true, mv := [30], sh := [0, 5], pu := false } := rfl
attribute [go_sem] H_8 H_9 H_10 H_11 H_12 H_14 H_15 H_16 H_17 H_18 H_19 H_24 H_25 H_26 H_27 H_33 H_34 H_35 H_36 H_37 H_38 H_39 H_40 H_41 H_42 H_43 H_44 H_47 H_48 H_49 H_50 H_52 H_53 H_54 H_55 H_56 H_59 H_63 H_64 H_65 H_66 H_67 H_68 H_69 H_70 H_71 H_72 H_73 H_74 H_75 H_76 H_79 H_80 H_81 H_82 H_83 H_84 H_85 H_86 H_87 H_88 H_89 H_90 H_91 H_92 H_93 H_94 H_95 H_96 H_97
noncomputable def c8 : Code := Tryd.f8.body.getD .skip
theorem call8 (args : List AV) (σ : List AObj) : call Tryd.prog T H (.fn 8) args σ = run Tryd.prog T H 8 σ.length 0 c8 { env := envOf 0 args, σ := σ } (endK Tryd.prog T H 8 [.tmp 8] σ.length) :=
 call_fn Tryd.func8 rfl rfl rfl rfl _ _
noncomputable def c9 : Code := Tryd.f9.body.getD .skip
theorem call9 (args : List AV) (σ : List AObj) : call Tryd.prog T H (.fn 9) args σ = run Tryd.prog T H 9 σ.length 0 c9 { env := envOf 0 args, σ := σ } (endK Tryd.prog T H 9 [.tmp 4] σ.length) :=
 call_fn Tryd.func9 rfl rfl rfl rfl _ _
noncomputable def L9_0 : Code := loopAt 0 c9
noncomputable def c10 : Code := Tryd.f10.body.getD .skip
theorem call10 (args : List AV) (σ : List AObj) : call Tryd.prog T H (.fn 10) args σ = run Tryd.prog T H 10 σ.length 0 c10 { env := envOf 0 args, σ := σ } (endK Tryd.prog T H 10 [.tmp 0] σ.length) :=
 call_fn Tryd.func10 rfl rfl rfl rfl _ _
noncomputable def c11 : Code := Tryd.f11.body.getD .skip
theorem call11 (args : List AV) (σ : List AObj) : call Tryd.prog T H (.fn 11) args σ = run Tryd.prog T H 11 σ.length 0 c11 { env := envOf 0 args, σ := σ } (endK Tryd.prog T H 11 [.tmp 4] σ.length) :=
 call_fn Tryd.func11 rfl rfl rfl rfl _ _
noncomputable def c12 : Code := Tryd.f12.body.getD .skip
theorem call12 (args : List AV) (σ : List AObj) : call Tryd.prog T H (.fn 12) args σ = run Tryd.prog T H 12 σ.length 0 c12 { env := envOf 0 args, σ := σ } (endK Tryd.prog T H 12 [.tmp 4, .tmp 5] σ.length) :=
 call_fn Tryd.func12 rfl rfl rfl rfl _ _
noncomputable def c14 : Code := Tryd.f14.body.getD .skip
theorem call14 (args : List AV) (σ : List AObj) : call Tryd.prog T H (.fn 14) args σ = run Tryd.prog T H 14 σ.length 0 c14 { env := envOf 0 args, σ := σ } (endK Tryd.prog T H 14 [.tmp 4] σ.length) :=
 call_fn Tryd.func14 rfl rfl rfl rfl _ _
noncomputable def L14_0 : Code := loopAt 0 c14
noncomputable def c15 : Code := Tryd.f15.body.getD .skip
theorem call15 (args : List AV) (σ : List AObj) : call Tryd.prog T H (.fn 15) args σ = run Tryd.prog T H 15 σ.length 0 c15 { env := envOf 0 args, σ := σ } (endK Tryd.prog T H 15 [.tmp 2] σ.length) :=
 call_fn Tryd.func15 rfl rfl rfl rfl _ _
noncomputable def c16 : Code := Tryd.f16.body.getD .skip
theorem call16 (args : List AV) (σ : List AObj) : call Tryd.prog T H (.fn 16) args σ = run Tryd.prog T H 16 σ.length 0 c16 { env := envOf 0 args, σ := σ } (endK Tryd.prog T H 16 [.tmp 2] σ.length) :=
 call_fn Tryd.func16 rfl rfl rfl rfl _ _
noncomputable def L16_0 : Code := loopAt 0 c16
noncomputable def c17 : Code := Tryd.f17.body.getD .skip
theorem call17 (args : List AV) (σ : List AObj) : call Tryd.prog T H (.fn 17) args σ = run Tryd.prog T H 17 σ.length 0 c17 { env := envOf 0 args, σ := σ } (endK Tryd.prog T H 17 [.tmp 4] σ.length) :=
 call_fn Tryd.func17 rfl rfl rfl rfl _ _
noncomputable def c18 : Code := Tryd.f18.body.getD .skip
theorem call18 (args : List AV) (σ : List AObj) : call Tryd.prog T H (.fn 18) args σ = run Tryd.prog T H 18 σ.length 0 c18 { env := envOf 0 args, σ := σ } (endK Tryd.prog T H 18 [.tmp 4] σ.length) :=
 call_fn Tryd.func18 rfl rfl rfl rfl _ _
noncomputable def c19 : Code := Tryd.f19.body.getD .skip
theorem call19 (args : List AV) (σ : List AObj) : call Tryd.prog T H (.fn 19) args σ = run Tryd.prog T H 19 σ.length 0 c19 { env := envOf 0 args, σ := σ } (endK Tryd.prog T H 19 [.tmp 2] σ.length) :=
 call_fn Tryd.func19 rfl rfl rfl rfl _ _
noncomputable def L19_0 : Code := loopAt 0 c19
noncomputable def c24 : Code := Tryd.f24.body.getD .skip
theorem call24 (args : List AV) (σ : List AObj) : call Tryd.prog T H (.fn 24) args σ = run Tryd.prog T H 24 σ.length 0 c24 { env := envOf 0 args, σ := σ } (endK Tryd.prog T H 24 [.tmp 4] σ.length) :=
 call_fn Tryd.func24 rfl rfl rfl rfl _ _
noncomputable def L24_0 : Code := loopAt 0 c24
noncomputable def c25 : Code := Tryd.f25.body.getD .skip
theorem call25 (args : List AV) (σ : List AObj) : call Tryd.prog T H (.fn 25) args σ = run Tryd.prog T H 25 σ.length 0 c25 { env := envOf 0 args, σ := σ } (endK Tryd.prog T H 25 [.tmp 2] σ.length) :=
 call_fn Tryd.func25 rfl rfl rfl rfl _ _
noncomputable def L25_0 : Code := loopAt 0 c25
noncomputable def c26 : Code := Tryd.f26.body.getD .skip
theorem call26 (args : List AV) (σ : List AObj) : call Tryd.prog T H (.fn 26) args σ = run Tryd.prog T H 26 σ.length 0 c26 { env := envOf 0 args, σ := σ } (endK Tryd.prog T H 26 [.tmp 2] σ.length) :=
 call_fn Tryd.func26 rfl rfl rfl rfl _ _
noncomputable def c27 : Code := Tryd.f27.body.getD .skip
theorem call27 (args : List AV) (σ : List AObj) : call Tryd.prog T H (.fn 27) args σ = run Tryd.prog T H 27 σ.length 0 c27 { env := envOf 0 args, σ := σ } (endK Tryd.prog T H 27 [.tmp 4, .tmp 5] σ.length) :=
 call_fn Tryd.func27 rfl rfl rfl rfl _ _
noncomputable def A27_0 : Code := rangeA 0 c27
noncomputable def B27_0 : Code := rangeB 0 c27
theorem cf27 : c27 = foldR 0 A27_0 B27_0 (c27) := by kernel_rfl
noncomputable def c33 : Code := Tryd.f33.body.getD .skip
theorem call33 (args : List AV) (σ : List AObj) : call Tryd.prog T H (.fn 33) args σ = run Tryd.prog T H 33 σ.length 0 c33 { env := envOf 0 args, σ := σ } (endK Tryd.prog T H 33 [.tmp 4] σ.length) :=
 call_fn Tryd.func33 rfl rfl rfl rfl _ _
noncomputable def L33_0 : Code := loopAt 0 c33
noncomputable def c34 : Code := Tryd.f34.body.getD .skip
theorem call34 (args : List AV) (σ : List AObj) : call Tryd.prog T H (.fn 34) args σ = run Tryd.prog T H 34 σ.length 0 c34 { env := envOf 0 args, σ := σ } (endK Tryd.prog T H 34 [.tmp 6, .tmp 7] σ.length) :=
 call_fn Tryd.func34 rfl rfl rfl rfl _ _
noncomputable def c35 : Code := Tryd.f35.body.getD .skip
theorem call35 (args : List AV) (σ : List AObj) : call Tryd.prog T H (.fn 35) args σ = run Tryd.prog T H 35 σ.length 0 c35 { env := envOf 0 args, σ := σ } (endK Tryd.prog T H 35 [.tmp 6, .tmp 7] σ.length) :=
 call_fn Tryd.func35 rfl rfl rfl rfl _ _
noncomputable def c36 : Code := Tryd.f36.body.getD .skip
theorem call36 (args : List AV) (σ : List AObj) : call Tryd.prog T H (.fn 36) args σ = run Tryd.prog T H 36 σ.length 0 c36 { env := envOf 0 args, σ := σ } (endK Tryd.prog T H 36 [.cell 6 24, .tmp 7] σ.length) :=
 call_fn Tryd.func36 rfl rfl rfl rfl _ _
noncomputable def c37 : Code := Tryd.f37.body.getD .skip
theorem call37 (args : List AV) (σ : List AObj) : call Tryd.prog T H (.fn 37) args σ = run Tryd.prog T H 37 σ.length 0 c37 { env := envOf 0 args, σ := σ } (endK Tryd.prog T H 37 [.cell 6 24, .tmp 7] σ.length) :=
 call_fn Tryd.func37 rfl rfl rfl rfl _ _
noncomputable def c38 : Code := Tryd.f38.body.getD .skip
theorem call38 (args : List AV) (σ : List AObj) : call Tryd.prog T H (.fn 38) args σ = run Tryd.prog T H 38 σ.length 0 c38 { env := envOf 0 args, σ := σ } (endK Tryd.prog T H 38 [.tmp 4] σ.length) :=
 call_fn Tryd.func38 rfl rfl rfl rfl _ _
noncomputable def c39 : Code := Tryd.f39.body.getD .skip
theorem call39 (args : List AV) (σ : List AObj) : call Tryd.prog T H (.fn 39) args σ = run Tryd.prog T H 39 σ.length 0 c39 { env := envOf 0 args, σ := σ } (endK Tryd.prog T H 39 [.cell 4 24] σ.length) :=
 call_fn Tryd.func39 rfl rfl rfl rfl _ _
noncomputable def c40 : Code := Tryd.f40.body.getD .skip
theorem call40 (args : List AV) (σ : List AObj) : call Tryd.prog T H (.fn 40) args σ = run Tryd.prog T H 40 σ.length 0 c40 { env := envOf 0 args, σ := σ } (endK Tryd.prog T H 40 [.cell 0 24] σ.length) :=
 call_fn Tryd.func40 rfl rfl rfl rfl _ _
noncomputable def c41 : Code := Tryd.f41.body.getD .skip
theorem call41 (args : List AV) (σ : List AObj) : call Tryd.prog T H (.fn 41) args σ = run Tryd.prog T H 41 σ.length 0 c41 { env := envOf 0 args, σ := σ } (endK Tryd.prog T H 41 [.tmp 4] σ.length) :=
 call_fn Tryd.func41 rfl rfl rfl rfl _ _
noncomputable def c42 : Code := Tryd.f42.body.getD .skip
theorem call42 (args : List AV) (σ : List AObj) : call Tryd.prog T H (.fn 42) args σ = run Tryd.prog T H 42 σ.length 0 c42 { env := envOf 0 args, σ := σ } (endK Tryd.prog T H 42 [.cell 2 62] σ.length) :=
 call_fn Tryd.func42 rfl rfl rfl rfl _ _
noncomputable def L42_0 : Code := loopAt 0 c42
noncomputable def c43 : Code := Tryd.f43.body.getD .skip
theorem call43 (args : List AV) (σ : List AObj) : call Tryd.prog T H (.fn 43) args σ = run Tryd.prog T H 43 σ.length 0 c43 { env := envOf 0 args, σ := σ } (endK Tryd.prog T H 43 [.tmp 4] σ.length) :=
 call_fn Tryd.func43 rfl rfl rfl rfl _ _
noncomputable def L43_0 : Code := loopAt 0 c43
noncomputable def L43_2 : Code := loopAt 2 c43
noncomputable def c44 : Code := Tryd.f44.body.getD .skip
theorem call44 (args : List AV) (σ : List AObj) : call Tryd.prog T H (.fn 44) args σ = run Tryd.prog T H 44 σ.length 0 c44 { env := envOf 0 args, σ := σ } (endK Tryd.prog T H 44 [.tmp 4] σ.length) :=
 call_fn Tryd.func44 rfl rfl rfl rfl _ _
noncomputable def L44_0 : Code := loopAt 0 c44
noncomputable def L44_2 : Code := loopAt 2 c44
noncomputable def L44_4 : Code := loopAt 4 c44
noncomputable def c47 : Code := Tryd.f47.body.getD .skip
theorem call47 (args : List AV) (σ : List AObj) : call Tryd.prog T H (.fn 47) args σ = run Tryd.prog T H 47 σ.length 0 c47 { env := envOf 0 args, σ := σ } (endK Tryd.prog T H 47 [.tmp 4] σ.length) :=
 call_fn Tryd.func47 rfl rfl rfl rfl _ _
noncomputable def c48 : Code := Tryd.f48.body.getD .skip
theorem call48 (args : List AV) (σ : List AObj) : call Tryd.prog T H (.fn 48) args σ = run Tryd.prog T H 48 σ.length 0 c48 { env := envOf 0 args, σ := σ } (endK Tryd.prog T H 48 [.tmp 2] σ.length) :=
 call_fn Tryd.func48 rfl rfl rfl rfl _ _
noncomputable def c49 : Code := Tryd.f49.body.getD .skip
theorem call49 (args : List AV) (σ : List AObj) : call Tryd.prog T H (.fn 49) args σ = run Tryd.prog T H 49 σ.length 0 c49 { env := envOf 0 args, σ := σ } (endK Tryd.prog T H 49 [.tmp 6] σ.length) :=
 call_fn Tryd.func49 rfl rfl rfl rfl _ _
noncomputable def L49_0 : Code := loopAt 0 c49
noncomputable def c50 : Code := Tryd.f50.body.getD .skip
theorem call50 (args : List AV) (σ : List AObj) : call Tryd.prog T H (.fn 50) args σ = run Tryd.prog T H 50 σ.length 0 c50 { env := envOf 0 args, σ := σ } (endK Tryd.prog T H 50 [.tmp 4] σ.length) :=
 call_fn Tryd.func50 rfl rfl rfl rfl _ _
noncomputable def L50_0 : Code := loopAt 0 c50
noncomputable def c52 : Code := Tryd.f52.body.getD .skip
theorem call52 (args : List AV) (σ : List AObj) : call Tryd.prog T H (.fn 52) args σ = run Tryd.prog T H 52 σ.length 0 c52 { env := envOf 0 args, σ := σ } (endK Tryd.prog T H 52 [.tmp 2] σ.length) :=
 call_fn Tryd.func52 rfl rfl rfl rfl _ _
noncomputable def c53 : Code := Tryd.f53.body.getD .skip
theorem call53 (args : List AV) (σ : List AObj) : call Tryd.prog T H (.fn 53) args σ = run Tryd.prog T H 53 σ.length 0 c53 { env := envOf 0 args, σ := σ } (endK Tryd.prog T H 53 [.tmp 2] σ.length) :=
 call_fn Tryd.func53 rfl rfl rfl rfl _ _
noncomputable def c54 : Code := Tryd.f54.body.getD .skip
theorem call54 (args : List AV) (σ : List AObj) : call Tryd.prog T H (.fn 54) args σ = run Tryd.prog T H 54 σ.length 0 c54 { env := envOf 0 args, σ := σ } (endK Tryd.prog T H 54 [.tmp 2] σ.length) :=
 call_fn Tryd.func54 rfl rfl rfl rfl _ _
noncomputable def L54_0 : Code := loopAt 0 c54
noncomputable def c55 : Code := Tryd.f55.body.getD .skip
theorem call55 (args : List AV) (σ : List AObj) : call Tryd.prog T H (.fn 55) args σ = run Tryd.prog T H 55 σ.length 0 c55 { env := envOf 0 args, σ := σ } (endK Tryd.prog T H 55 [.tmp 2] σ.length) :=
 call_fn Tryd.func55 rfl rfl rfl rfl _ _
noncomputable def c56 : Code := Tryd.f56.body.getD .skip
theorem call56 (args : List AV) (σ : List AObj) : call Tryd.prog T H (.fn 56) args σ = run Tryd.prog T H 56 σ.length 0 c56 { env := envOf 0 args, σ := σ } (endK Tryd.prog T H 56 [.tmp 2] σ.length) :=
 call_fn Tryd.func56 rfl rfl rfl rfl _ _
noncomputable def c59 : Code := Tryd.f59.body.getD .skip
theorem call59 (args : List AV) (σ : List AObj) : call Tryd.prog T H (.fn 59) args σ = run Tryd.prog T H 59 σ.length 0 c59 { env := envOf 0 args, σ := σ } (endK Tryd.prog T H 59 [.cell 2 24] σ.length) :=
 call_fn Tryd.func59 rfl rfl rfl rfl _ _
noncomputable def L59_0 : Code := loopAt 0 c59
noncomputable def c63 : Code := Tryd.f63.body.getD .skip
theorem call63 (args : List AV) (σ : List AObj) : call Tryd.prog T H (.fn 63) args σ = run Tryd.prog T H 63 σ.length 0 c63 { env := envOf 0 args, σ := σ } (endK Tryd.prog T H 63 [.tmp 4] σ.length) :=
 call_fn Tryd.func63 rfl rfl rfl rfl _ _
noncomputable def L63_0 : Code := loopAt 0 c63
noncomputable def c64 : Code := Tryd.f64.body.getD .skip
theorem call64 (args : List AV) (σ : List AObj) : call Tryd.prog T H (.fn 64) args σ = run Tryd.prog T H 64 σ.length 0 c64 { env := envOf 0 args, σ := σ } (endK Tryd.prog T H 64 [.tmp 4] σ.length) :=
 call_fn Tryd.func64 rfl rfl rfl rfl _ _
noncomputable def L64_0 : Code := loopAt 0 c64
noncomputable def c65 : Code := Tryd.f65.body.getD .skip
theorem call65 (args : List AV) (σ : List AObj) : call Tryd.prog T H (.fn 65) args σ = run Tryd.prog T H 65 σ.length 0 c65 { env := envOf 0 args, σ := σ } (endK Tryd.prog T H 65 [.tmp 6] σ.length) :=
 call_fn Tryd.func65 rfl rfl rfl rfl _ _
noncomputable def L65_0 : Code := loopAt 0 c65
noncomputable def c66 : Code := Tryd.f66.body.getD .skip
theorem call66 (args : List AV) (σ : List AObj) : call Tryd.prog T H (.fn 66) args σ = run Tryd.prog T H 66 σ.length 0 c66 { env := envOf 0 args, σ := σ } (endK Tryd.prog T H 66 [.tmp 4] σ.length) :=
 call_fn Tryd.func66 rfl rfl rfl rfl _ _
noncomputable def L66_0 : Code := loopAt 0 c66
noncomputable def c67 : Code := Tryd.f67.body.getD .skip
theorem call67 (args : List AV) (σ : List AObj) : call Tryd.prog T H (.fn 67) args σ = run Tryd.prog T H 67 σ.length 0 c67 { env := envOf 0 args, σ := σ } (endK Tryd.prog T H 67 [.tmp 4] σ.length) :=
 call_fn Tryd.func67 rfl rfl rfl rfl _ _
noncomputable def L67_0 : Code := loopAt 0 c67
noncomputable def c68 : Code := Tryd.f68.body.getD .skip
theorem call68 (args : List AV) (σ : List AObj) : call Tryd.prog T H (.fn 68) args σ = run Tryd.prog T H 68 σ.length 0 (dA c68) { env := envOf 0 args, σ := σ } (callD1 Tryd.prog T H 68 [.cell 6 24, .cell 7 32] σ.length ⟨.value (.func 86), #[.tmp 7], #[110]⟩ (dB c68)) :=
 call_fnD1 Tryd.func68 rfl rfl rfl rfl (c := c68) (o := dO c68) rfl _ _
noncomputable def c69 : Code := Tryd.f69.body.getD .skip
theorem call69 (args : List AV) (σ : List AObj) : call Tryd.prog T H (.fn 69) args σ = run Tryd.prog T H 69 σ.length 0 c69 { env := envOf 0 args, σ := σ } (endK Tryd.prog T H 69 [.cell 2 24] σ.length) :=
 call_fn Tryd.func69 rfl rfl rfl rfl _ _
noncomputable def L69_0 : Code := loopAt 0 c69
noncomputable def c70 : Code := Tryd.f70.body.getD .skip
theorem call70 (args : List AV) (σ : List AObj) : call Tryd.prog T H (.fn 70) args σ = run Tryd.prog T H 70 σ.length 0 c70 { env := envOf 0 args, σ := σ } (endK Tryd.prog T H 70 [] σ.length) :=
 call_fn Tryd.func70 rfl rfl rfl rfl _ _
noncomputable def L70_0 : Code := loopAt 0 c70
noncomputable def c71 : Code := Tryd.f71.body.getD .skip
theorem call71 (args : List AV) (σ : List AObj) : call Tryd.prog T H (.fn 71) args σ = run Tryd.prog T H 71 σ.length 0 c71 { env := envOf 0 args, σ := σ } (endK Tryd.prog T H 71 [.tmp 4] σ.length) :=
 call_fn Tryd.func71 rfl rfl rfl rfl _ _
noncomputable def L71_0 : Code := loopAt 0 c71
noncomputable def c72 : Code := Tryd.f72.body.getD .skip
theorem call72 (args : List AV) (σ : List AObj) : call Tryd.prog T H (.fn 72) args σ = run Tryd.prog T H 72 σ.length 0 c72 { env := envOf 0 args, σ := σ } (endK Tryd.prog T H 72 [.tmp 2] σ.length) :=
 call_fn Tryd.func72 rfl rfl rfl rfl _ _
noncomputable def L72_0 : Code := loopAt 0 c72
noncomputable def c73 : Code := Tryd.f73.body.getD .skip
theorem call73 (args : List AV) (σ : List AObj) : call Tryd.prog T H (.fn 73) args σ = run Tryd.prog T H 73 σ.length 0 c73 { env := envOf 0 args, σ := σ } (endK Tryd.prog T H 73 [.tmp 4] σ.length) :=
 call_fn Tryd.func73 rfl rfl rfl rfl _ _
noncomputable def c74 : Code := Tryd.f74.body.getD .skip
theorem call74 (args : List AV) (σ : List AObj) : call Tryd.prog T H (.fn 74) args σ = run Tryd.prog T H 74 σ.length 0 c74 { env := envOf 0 args, σ := σ } (endK Tryd.prog T H 74 [.tmp 6] σ.length) :=
 call_fn Tryd.func74 rfl rfl rfl rfl _ _
noncomputable def L74_0 : Code := loopAt 0 c74
noncomputable def c75 : Code := Tryd.f75.body.getD .skip
theorem call75 (args : List AV) (σ : List AObj) : call Tryd.prog T H (.fn 75) args σ = run Tryd.prog T H 75 σ.length 0 c75 { env := envOf 0 args, σ := σ } (endK Tryd.prog T H 75 [.tmp 6] σ.length) :=
 call_fn Tryd.func75 rfl rfl rfl rfl _ _
noncomputable def L75_0 : Code := loopAt 0 c75
noncomputable def c76 : Code := Tryd.f76.body.getD .skip
theorem call76 (args : List AV) (σ : List AObj) : call Tryd.prog T H (.fn 76) args σ = run Tryd.prog T H 76 σ.length 0 c76 { env := envOf 0 args, σ := σ } (endK Tryd.prog T H 76 [.tmp 6] σ.length) :=
 call_fn Tryd.func76 rfl rfl rfl rfl _ _
noncomputable def L76_0 : Code := loopAt 0 c76
noncomputable def L76_2 : Code := loopAt 2 c76
noncomputable def L76_4 : Code := loopAt 4 c76
noncomputable def c79 : Code := Tryd.f79.body.getD .skip
theorem call79 (args : List AV) (σ : List AObj) : call Tryd.prog T H (.fn 79) args σ = run Tryd.prog T H 79 σ.length 0 c79 { env := envOf 0 args, σ := σ } (endK Tryd.prog T H 79 [.tmp 4] σ.length) :=
 call_fn Tryd.func79 rfl rfl rfl rfl _ _
noncomputable def L79_0 : Code := loopAt 0 c79
noncomputable def c80 : Code := Tryd.f80.body.getD .skip
theorem call80 (args : List AV) (σ : List AObj) : call Tryd.prog T H (.fn 80) args σ = run Tryd.prog T H 80 σ.length 0 c80 { env := envOf 0 args, σ := σ } (endK Tryd.prog T H 80 [.tmp 2] σ.length) :=
 call_fn Tryd.func80 rfl rfl rfl rfl _ _
noncomputable def c81 : Code := Tryd.f81.body.getD .skip
theorem call81 (args : List AV) (σ : List AObj) : call Tryd.prog T H (.fn 81) args σ = run Tryd.prog T H 81 σ.length 0 c81 { env := envOf 0 args, σ := σ } (endK Tryd.prog T H 81 [.tmp 2] σ.length) :=
 call_fn Tryd.func81 rfl rfl rfl rfl _ _
noncomputable def c82 : Code := Tryd.f82.body.getD .skip
theorem call82 (args : List AV) (σ : List AObj) : call Tryd.prog T H (.fn 82) args σ = run Tryd.prog T H 82 σ.length 0 c82 { env := envOf 0 args, σ := σ } (endK Tryd.prog T H 82 [] σ.length) :=
 call_fn Tryd.func82 rfl rfl rfl rfl _ _
noncomputable def c83 : Code := Tryd.f83.body.getD .skip
theorem call83 (args : List AV) (σ : List AObj) : call Tryd.prog T H (.fn 83) args σ = run Tryd.prog T H 83 σ.length 0 c83 { env := envOf 0 args, σ := σ } (endK Tryd.prog T H 83 [.tmp 5] σ.length) :=
 call_fn Tryd.func83 rfl rfl rfl rfl _ _
noncomputable def L83_0 : Code := loopAt 0 c83
noncomputable def c84 : Code := Tryd.f84.body.getD .skip
theorem call84 (args : List AV) (σ : List AObj) : call Tryd.prog T H (.fn 84) args σ = run Tryd.prog T H 84 σ.length 0 c84 { env := envOf 0 args, σ := σ } (endK Tryd.prog T H 84 [.tmp 4] σ.length) :=
 call_fn Tryd.func84 rfl rfl rfl rfl _ _
noncomputable def c85 : Code := Tryd.f85.body.getD .skip
theorem call85 (args : List AV) (σ : List AObj) : call Tryd.prog T H (.fn 85) args σ = run Tryd.prog T H 85 σ.length 0 c85 { env := envOf 0 args, σ := σ } (endK Tryd.prog T H 85 [.tmp 4] σ.length) :=
 call_fn Tryd.func85 rfl rfl rfl rfl _ _
noncomputable def L85_0 : Code := loopAt 0 c85
noncomputable def c86 : Code := Tryd.f86.body.getD .skip
theorem call86 (args : List AV) (σ : List AObj) : call Tryd.prog T H (.fn 86) args σ = run Tryd.prog T H 86 σ.length 0 c86 { env := envOf 0 args, σ := σ } (endK Tryd.prog T H 86 [] σ.length) :=
 call_fn Tryd.func86 rfl rfl rfl rfl _ _
noncomputable def c87 : Code := Tryd.f87.body.getD .skip
theorem call87 (args : List AV) (σ : List AObj) : call Tryd.prog T H (.fn 87) args σ = run Tryd.prog T H 87 σ.length 0 c87 { env := envOf 0 args, σ := σ } (endK Tryd.prog T H 87 [.tmp 2] σ.length) :=
 call_fn Tryd.func87 rfl rfl rfl rfl _ _
noncomputable def c88 : Code := Tryd.f88.body.getD .skip
theorem call88 (args : List AV) (σ : List AObj) : call Tryd.prog T H (.fn 88) args σ = run Tryd.prog T H 88 σ.length 0 c88 { env := envOf 0 args, σ := σ } (endK Tryd.prog T H 88 [.cell 6 24] σ.length) :=
 call_fn Tryd.func88 rfl rfl rfl rfl _ _
noncomputable def L88_0 : Code := loopAt 0 c88
noncomputable def c89 : Code := Tryd.f89.body.getD .skip
theorem call89 (args : List AV) (σ : List AObj) : call Tryd.prog T H (.fn 89) args σ = run Tryd.prog T H 89 σ.length 0 c89 { env := envOf 0 args, σ := σ } (endK Tryd.prog T H 89 [.tmp 2] σ.length) :=
 call_fn Tryd.func89 rfl rfl rfl rfl _ _
noncomputable def c90 : Code := Tryd.f90.body.getD .skip
theorem call90 (args : List AV) (σ : List AObj) : call Tryd.prog T H (.fn 90) args σ = run Tryd.prog T H 90 σ.length 0 c90 { env := envOf 0 args, σ := σ } (endK Tryd.prog T H 90 [] σ.length) :=
 call_fn Tryd.func90 rfl rfl rfl rfl _ _
noncomputable def c91 : Code := Tryd.f91.body.getD .skip
theorem call91 (args : List AV) (σ : List AObj) : call Tryd.prog T H (.fn 91) args σ = run Tryd.prog T H 91 σ.length 0 c91 { env := envOf 0 args, σ := σ } (endK Tryd.prog T H 91 [.tmp 2] σ.length) :=
 call_fn Tryd.func91 rfl rfl rfl rfl _ _
noncomputable def c92 : Code := Tryd.f92.body.getD .skip
theorem call92 (args : List AV) (σ : List AObj) : call Tryd.prog T H (.fn 92) args σ = run Tryd.prog T H 92 σ.length 0 c92 { env := envOf 0 args, σ := σ } (endK Tryd.prog T H 92 [.tmp 4] σ.length) :=
 call_fn Tryd.func92 rfl rfl rfl rfl _ _
noncomputable def L92_0 : Code := loopAt 0 c92
noncomputable def c93 : Code := Tryd.f93.body.getD .skip
theorem call93 (args : List AV) (σ : List AObj) : call Tryd.prog T H (.fn 93) args σ = run Tryd.prog T H 93 σ.length 0 c93 { env := envOf 0 args, σ := σ } (endK Tryd.prog T H 93 [.tmp 4] σ.length) :=
 call_fn Tryd.func93 rfl rfl rfl rfl _ _
noncomputable def c94 : Code := Tryd.f94.body.getD .skip
theorem call94 (args : List AV) (σ : List AObj) : call Tryd.prog T H (.fn 94) args σ = run Tryd.prog T H 94 σ.length 0 c94 { env := envOf 0 args, σ := σ } (endK Tryd.prog T H 94 [.tmp 2] σ.length) :=
 call_fn Tryd.func94 rfl rfl rfl rfl _ _
noncomputable def L94_0 : Code := loopAt 0 c94
noncomputable def c95 : Code := Tryd.f95.body.getD .skip
theorem call95 (args : List AV) (σ : List AObj) : call Tryd.prog T H (.fn 95) args σ = run Tryd.prog T H 95 σ.length 0 c95 { env := envOf 0 args, σ := σ } (endK Tryd.prog T H 95 [] σ.length) :=
 call_fn Tryd.func95 rfl rfl rfl rfl _ _
noncomputable def c96 : Code := Tryd.f96.body.getD .skip
theorem call96 (args : List AV) (σ : List AObj) : call Tryd.prog T H (.fn 96) args σ = run Tryd.prog T H 96 σ.length 0 c96 { env := envOf 0 args, σ := σ } (endK Tryd.prog T H 96 [.tmp 2] σ.length) :=
 call_fn Tryd.func96 rfl rfl rfl rfl _ _
noncomputable def L96_0 : Code := loopAt 0 c96
noncomputable def c97 : Code := Tryd.f97.body.getD .skip
theorem call97 (args : List AV) (σ : List AObj) : call Tryd.prog T H (.fn 97) args σ = run Tryd.prog T H 97 σ.length 0 c97 { env := envOf 0 args, σ := σ } (endK Tryd.prog T H 97 [.tmp 4] σ.length) :=
 call_fn Tryd.func97 rfl rfl rfl rfl _ _
theorem yo27_0 : yldOk H 27 22 [14, 15] A27_0 B27_0 = true := by kernel_rfl
theorem ck_8 : fnCheck Tryd.prog H (8, { ok := true, mv := [35, 42, 49, 56, 89], sh := [19, 21, 36, 37, 38, 43, 44, 45, 50, 51, 52, 57, 58, 59, 72, 73, 90, 91, 92, 99, 100] }) = true := by kernel_rfl
theorem ck_9 : fnCheck Tryd.prog H (9, { ok := true, mv := [7], sh := [13], heads := [(0, [2, 7, 8, 9])], outs := [(0, [2]), (1, [2, 7, 8, 9])] }) = true := by kernel_rfl
theorem ck_10 : fnCheck Tryd.prog H (10, { ok := true, mv := [17, 22], sh := [7, 8, 9, 10, 12, 13, 14, 15, 18, 23, 24, 31, 34, 38, 39, 48, 53] }) = true := by kernel_rfl
theorem ck_11 : fnCheck Tryd.prog H (11, { ok := true, sh := [5, 6, 7, 8] }) = true := by kernel_rfl
theorem ck_12 : fnCheck Tryd.prog H (12, { ok := true, mv := [23], sh := [7, 16, 17, 20, 21] }) = true := by kernel_rfl
theorem ck_14 : fnCheck Tryd.prog H (14, { ok := true, sh := [5, 19, 23], heads := [(0, [0, 1, 12, 13])], outs := [(0, []), (1, [0, 1, 12, 13])] }) = true := by kernel_rfl
theorem ck_15 : fnCheck Tryd.prog H (15, { ok := true, sh := [9] }) = true := by kernel_rfl
theorem ck_16 : fnCheck Tryd.prog H (16, { ok := true, heads := [(0, [10, 11, 12])], outs := [(0, []), (1, [10, 11, 12])] }) = true := by kernel_rfl
theorem ck_17 : fnCheck Tryd.prog H (17, { ok := true, sh := [5, 6, 9, 10] }) = true := by kernel_rfl
theorem ck_18 : fnCheck Tryd.prog H (18, { ok := true, sh := [5, 8, 12, 13] }) = true := by kernel_rfl
theorem ck_19 : fnCheck Tryd.prog H (19, { ok := true, sh := [14], heads := [(0, [3, 7, 8, 9])], outs := [(0, [3]), (1, [3, 7, 8, 9])] }) = true := by kernel_rfl
theorem ck_24 : fnCheck Tryd.prog H (24, { ok := true, sh := [5, 30, 35], heads := [(0, [2, 3, 22, 23])], outs := [(0, []), (1, [2, 3, 22, 23])] }) = true := by kernel_rfl
theorem ck_25 : fnCheck Tryd.prog H (25, { ok := true, sh := [13, 24, 30], heads := [(0, [0, 18, 19])], outs := [(0, []), (1, [0, 18, 19])] }) = true := by kernel_rfl
theorem ck_26 : fnCheck Tryd.prog H (26, { ok := true, sh := [11] }) = true := by kernel_rfl
theorem ck_27 : fnCheck Tryd.prog H (27, { ok := true, nw := [6, 20], sh := [6, 8, 9, 12, 17], outs := [(0, [6]), (1, [6])], nt := 22 }) = true := by kernel_rfl
theorem ck_33 : fnCheck Tryd.prog H (33, { ok := true, sh := [5, 19, 23], heads := [(0, [0, 1, 12, 13])], outs := [(0, []), (1, [0, 1, 12, 13])] }) = true := by kernel_rfl
theorem ck_34 : fnCheck Tryd.prog H (34, { ok := true, sh := [9, 10, 14, 17, 20, 21], outs := [(0, [1, 5])] }) = true := by kernel_rfl
theorem ck_35 : fnCheck Tryd.prog H (35, { ok := true, sh := [9, 10, 14, 17, 20, 21], outs := [(0, [1, 5])] }) = true := by kernel_rfl
theorem ck_36 : fnCheck Tryd.prog H (36, { ok := true, mv := [28], sh := [11, 16, 19, 29, 30, 31, 39], outs := [(0, [1, 2, 3, 6])] }) = true := by kernel_rfl
theorem ck_37 : fnCheck Tryd.prog H (37, { ok := true, mv := [29, 42], sh := [11, 16, 19, 33, 35, 49], outs := [(0, [1, 2, 3, 6])] }) = true := by kernel_rfl
theorem ck_38 : fnCheck Tryd.prog H (38, { ok := true, sh := [5, 6] }) = true := by kernel_rfl
theorem ck_39 : fnCheck Tryd.prog H (39, { ok := true }) = true := by kernel_rfl
theorem ck_40 : fnCheck Tryd.prog H (40, { ok := true }) = true := by kernel_rfl
theorem ck_41 : fnCheck Tryd.prog H (41, { ok := true, sh := [2, 3, 7, 9, 12, 14, 16, 22, 24] }) = true := by kernel_rfl
theorem ck_42 : fnCheck Tryd.prog H (42, { ok := true, mv := [26], sh := [17], heads := [(0, [2, 3, 11, 12, 13])], outs := [(0, [2, 3]), (1, [2, 3, 11, 12, 13])] }) = true := by kernel_rfl
theorem ck_43 : fnCheck Tryd.prog H (43, { ok := true, mv := [39], nw := [11], sh := [5, 6, 30, 31, 33], heads := [(0, [1, 2, 5, 6]), (2, [1, 2, 5, 6, 18, 19, 20])], outs := [(0, [1, 5]), (1, [1, 2, 5, 6]), (2, [1, 2, 5, 6]), (3, [1, 2, 5, 6, 18, 19, 20])] }) = true := by kernel_rfl
theorem ck_44 : fnCheck Tryd.prog H (44, { ok := true, mv := [33, 40, 47, 53], sh := [10, 21, 22, 24, 41], heads := [(0, [1, 2, 5, 14, 15, 16]), (2, [1, 2, 5, 6, 14, 15, 16, 25, 26, 27]), (4, [1, 2, 5, 6, 10, 14, 15, 16, 25, 26, 27, 33, 34, 35])], outs := [(0, [5]), (1, [1, 2, 5, 14, 15, 16]), (2, [1, 2, 5, 14, 15, 16]), (3, [1, 2, 5, 6, 14, 15, 16, 25, 26, 27]), (4, [1, 2, 5, 6, 10, 14, 15, 16, 25, 26, 27]), (5, [1, 2, 5, 6, 10, 14, 15, 16, 25, 26, 27, 33, 34, 35])] }) = true := by kernel_rfl
theorem ck_47 : fnCheck Tryd.prog H (47, { ok := true, sh := [5, 6], pu := false }) = true := by kernel_rfl
theorem ck_48 : fnCheck Tryd.prog H (48, { ok := true }) = true := by kernel_rfl
theorem ck_49 : fnCheck Tryd.prog H (49, { ok := true, sh := [3, 4, 50, 51, 52], heads := [(0, [2, 3, 44, 45, 46])], outs := [(0, []), (1, [2, 3, 44, 45, 46])], pu := false }) = true := by kernel_rfl
theorem ck_50 : fnCheck Tryd.prog H (50, { ok := true, sh := [2, 3, 37, 38], heads := [(0, [2, 31, 32, 33])], outs := [(0, []), (1, [2, 31, 32, 33])] }) = true := by kernel_rfl
theorem ck_52 : fnCheck Tryd.prog H (52, { ok := true }) = true := by kernel_rfl
theorem ck_53 : fnCheck Tryd.prog H (53, { ok := true }) = true := by kernel_rfl
theorem ck_54 : fnCheck Tryd.prog H (54, { ok := true, sh := [11, 19], heads := [(0, [0, 3])], outs := [(0, [3]), (1, [0, 3])] }) = true := by kernel_rfl
theorem ck_55 : fnCheck Tryd.prog H (55, { ok := true, pu := false, esc := true }) = true := by kernel_rfl
theorem ck_56 : fnCheck Tryd.prog H (56, { ok := true, mv := [6], pu := false, rd := true }) = true := by kernel_rfl
theorem ck_59 : fnCheck Tryd.prog H (59, { ok := true, mv := [17], sh := [3, 18], heads := [(0, [2, 3, 10, 11, 12])], outs := [(0, [2, 3]), (1, [2, 3, 10, 11, 12])] }) = true := by kernel_rfl
theorem ck_63 : fnCheck Tryd.prog H (63, { ok := true, sh := [5], heads := [(0, [0, 1, 12, 13])], outs := [(0, []), (1, [0, 1, 12, 13])] }) = true := by kernel_rfl
theorem ck_64 : fnCheck Tryd.prog H (64, { ok := true, sh := [18, 24, 25], heads := [(0, [0, 11, 12, 13])], outs := [(0, []), (1, [0, 11, 12, 13])] }) = true := by kernel_rfl
theorem ck_65 : fnCheck Tryd.prog H (65, { ok := true, mv := [9, 26, 29, 31, 40, 43], sh := [32, 33], heads := [(0, [0, 1, 5, 17, 18, 19])], outs := [(0, [0, 5]), (1, [0, 1, 5, 17, 18, 19])], ro := true, op := [0] }) = true := by kernel_rfl
theorem ck_66 : fnCheck Tryd.prog H (66, { ok := true, sh := [18, 24, 25], heads := [(0, [0, 11, 12, 13])], outs := [(0, []), (1, [0, 11, 12, 13])] }) = true := by kernel_rfl
theorem ck_67 : fnCheck Tryd.prog H (67, { ok := true, sh := [28, 29], heads := [(0, [0, 3, 5, 14, 15, 16])], outs := [(0, [3, 5]), (1, [0, 3, 5, 14, 15, 16])] }) = true := by kernel_rfl
theorem ck_68 : fnCheck Tryd.prog H (68, { ok := true, sh := [9, 11, 12, 13, 15], df := true }) = true := by kernel_rfl
theorem ck_69 : fnCheck Tryd.prog H (69, { ok := true, mv := [27, 65], sh := [0, 5, 7, 12, 17, 23, 55, 57, 66, 86], heads := [(0, [0, 2, 4, 5, 49, 50])], outs := [(0, [0, 2, 4, 5]), (1, [0, 2, 4, 5, 49, 50])], pu := false, fr := [(67, 1001)], lm := [(65, 1001)] }) = true := by kernel_rfl
theorem ck_70 : fnCheck Tryd.prog H (70, { ok := true, heads := [(0, [0])], outs := [(0, []), (1, [0])], pu := false }) = true := by kernel_rfl
theorem ck_71 : fnCheck Tryd.prog H (71, { ok := true, sh := [19, 22], heads := [(0, [1, 5, 9, 10, 11])], outs := [(0, [5]), (1, [1, 5, 9, 10, 11])] }) = true := by kernel_rfl
theorem ck_72 : fnCheck Tryd.prog H (72, { ok := true, mv := [6], heads := [(0, [3, 6, 7, 8])], outs := [(0, [3]), (1, [3, 6, 7, 8])] }) = true := by kernel_rfl
theorem ck_73 : fnCheck Tryd.prog H (73, { ok := true, sh := [7, 9] }) = true := by kernel_rfl
theorem ck_74 : fnCheck Tryd.prog H (74, { ok := true, mv := [34, 36], sh := [27, 28], heads := [(0, [0, 1, 2, 11, 12, 13])], outs := [(0, [0, 1]), (1, [0, 1, 2, 11, 12, 13])], pu := false }) = true := by kernel_rfl
theorem ck_75 : fnCheck Tryd.prog H (75, { ok := true, sh := [0, 8, 28, 30, 33], heads := [(0, [0, 1, 2, 7, 8])], outs := [(0, [7]), (1, [0, 1, 2, 7, 8])], pu := false, rd := true }) = true := by kernel_rfl
theorem ck_76 : fnCheck Tryd.prog H (76, { ok := true, mv := [51, 54, 60], sh := [27, 29, 32, 37, 38], heads := [(0, [1, 2, 3, 7, 8]), (2, [1, 2, 3, 7, 8, 9, 39, 40, 41]), (4, [1, 2, 3, 7, 8, 9, 11, 39, 40, 41, 45, 46, 47])], outs := [(0, [7]), (1, [1, 2, 3, 7, 8]), (2, [1, 2, 3, 7, 8]), (3, [1, 2, 3, 7, 8, 9, 39, 40, 41]), (4, [1, 2, 3, 7, 8, 9, 39, 40, 41]), (5, [1, 2, 3, 7, 8, 9, 11, 39, 40, 41, 45, 46, 47])] }) = true := by kernel_rfl
theorem ck_79 : fnCheck Tryd.prog H (79, { ok := true, sh := [15], heads := [(0, [0, 1, 7, 8])], outs := [(0, []), (1, [0, 1, 7, 8])], pu := false }) = true := by kernel_rfl
theorem ck_80 : fnCheck Tryd.prog H (80, { ok := true }) = true := by kernel_rfl
theorem ck_81 : fnCheck Tryd.prog H (81, { ok := true }) = true := by kernel_rfl
theorem ck_82 : fnCheck Tryd.prog H (82, { ok := true, nw := [3], sh := [7], pu := false }) = true := by kernel_rfl
theorem ck_83 : fnCheck Tryd.prog H (83, { ok := true, nw := [24], sh := [9, 10, 26], heads := [(0, [2, 3, 14, 15, 16])], outs := [(0, []), (1, [2, 3, 14, 15, 16])], pu := false }) = true := by kernel_rfl
theorem ck_84 : fnCheck Tryd.prog H (84, { ok := true, sh := [5, 6] }) = true := by kernel_rfl
theorem ck_85 : fnCheck Tryd.prog H (85, { ok := true, mv := [7], heads := [(0, [1, 7, 8, 9])], outs := [(0, []), (1, [1, 7, 8, 9])] }) = true := by kernel_rfl
theorem ck_86 : fnCheck Tryd.prog H (86, { ok := true, mv := [11], outs := [(0, [])], pu := false }) = true := by kernel_rfl
theorem ck_87 : fnCheck Tryd.prog H (87, { ok := true, pu := false, esc := true }) = true := by kernel_rfl
theorem ck_88 : fnCheck Tryd.prog H (88, { ok := true, mv := [35], sh := [7, 10, 11, 12, 24, 32, 36, 37, 38, 44], heads := [(0, [0, 2, 4, 6, 7, 26, 27])], outs := [(0, [0, 6, 7]), (1, [0, 2, 4, 6, 7, 26, 27])], pu := false, fr := [(39, 1001)], lm := [(35, 1001)], dp := [(11, 1001)] }) = true := by kernel_rfl
theorem ck_89 : fnCheck Tryd.prog H (89, { ok := true, mv := [9], sh := [0, 3], pu := false }) = true := by kernel_rfl
theorem ck_90 : fnCheck Tryd.prog H (90, { ok := true, mv := [20, 24], sh := [4], pu := false }) = true := by kernel_rfl
theorem ck_91 : fnCheck Tryd.prog H (91, { ok := true }) = true := by kernel_rfl
theorem ck_92 : fnCheck Tryd.prog H (92, { ok := true, heads := [(0, [0, 1, 7, 8])], outs := [(0, []), (1, [0, 1, 7, 8])] }) = true := by kernel_rfl
theorem ck_93 : fnCheck Tryd.prog H (93, { ok := true, sh := [6, 7] }) = true := by kernel_rfl
theorem ck_94 : fnCheck Tryd.prog H (94, { ok := true, mv := [57], sh := [0, 5, 30, 41, 62], heads := [(0, [0, 3])], outs := [(0, [0, 3]), (1, [0, 3])], pu := false }) = true := by kernel_rfl
theorem ck_95 : fnCheck Tryd.prog H (95, { ok := true, sh := [4, 5], pu := false }) = true := by kernel_rfl
theorem ck_96 : fnCheck Tryd.prog H (96, { ok := true, mv := [37], sh := [0], heads := [(0, [0, 3])], outs := [(0, [0, 3]), (1, [0, 3])], pu := false }) = true := by kernel_rfl
theorem ck_97 : fnCheck Tryd.prog H (97, { ok := true, mv := [30], sh := [0, 5], pu := false }) = true := by kernel_rfl
theorem fnsOk : FnsOk Tryd.prog H := by
 refine fnsOk_of (by kernel_rfl) ?_
 show HL.all (fnCheck Tryd.prog H) = true
 unfold HL
 simp only [List.all_cons, List.all_nil, Bool.and_true, Bool.and_eq_true]
 exact ⟨ck_8, ck_9, ck_10, ck_11, ck_12, ck_14, ck_15, ck_16, ck_17, ck_18, ck_19, ck_24, ck_25, ck_26, ck_27, ck_33, ck_34, ck_35, ck_36, ck_37, ck_38, ck_39, ck_40, ck_41, ck_42, ck_43, ck_44, ck_47, ck_48, ck_49, ck_50, ck_52, ck_53, ck_54, ck_55, ck_56, ck_59, ck_63, ck_64, ck_65, ck_66, ck_67, ck_68, ck_69, ck_70, ck_71, ck_72, ck_73, ck_74, ck_75, ck_76, ck_79, ck_80, ck_81, ck_82, ck_83, ck_84, ck_85, ck_86, ck_87, ck_88, ck_89, ck_90, ck_91, ck_92, ck_93, ck_94, ck_95, ck_96, ck_97⟩
theorem tabOk : TabOk Tryd.prog ⟨TY, GL⟩ := tabOk_of (by kernel_rfl) (by kernel_rfl)
end Go.AM.S01
