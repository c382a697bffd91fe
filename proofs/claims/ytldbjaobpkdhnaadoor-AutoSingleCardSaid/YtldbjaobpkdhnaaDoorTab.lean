/- The types and functions of this seat as the abstract machine takes them, and the check that they are in order. -/
import Derived.Test.YtldbjaobpkdhnaaDoorAmEntry
import Derived.Test.YtldbjaobpkdhnaaDoorAmData
import Derived.Test.YtldbjaobpkdhnaaDoorAmClone
import Derived.Test.YtldbjaobpkdhnaaDoorProg
import Derived.KernelRfl
set_option linter.unusedVariables false
set_option linter.unusedSimpArgs false
namespace Go.AM.S03
open Go Go.Proofs Go.AM
set_option maxRecDepth 100000
noncomputable def TY : List TI := [
  ⟨.tup [], 1, 0, [], false⟩,
  ⟨.fn, 1, 8, [.lit .nilFunc], false⟩,
  ⟨.int .i64, 1, 8, [.lit (.int .i64 0)], false⟩,
  ⟨.int .i64, 1, 8, [.lit (.int .i64 0)], false⟩,
  ⟨.bool, 1, 1, [.lit (.bool false)], false⟩,
  ⟨.int .u8, 1, 1, [.lit (.int .u8 0)], false⟩,
  ⟨.int .u8, 1, 1, [.lit (.int .u8 0)], false⟩,
  ⟨.st [(0, 2), (1, 3), (2, 4), (3, 6)], 4, 24, [.lit (.int .i64 0), .lit (.int .i64 0), .lit (.bool false), .lit (.int .u8 0)], true⟩,
  ⟨.st [(0, 2), (1, 3), (2, 4), (3, 6)], 4, 24, [.lit (.int .i64 0), .lit (.int .i64 0), .lit (.bool false), .lit (.int .u8 0)], true⟩,
  ⟨.str, 1, 16, [.lit (.string ByteArray.empty)], false⟩,
  ⟨.str, 1, 16, [.lit (.string ByteArray.empty)], false⟩,
  ⟨.str, 1, 16, [.lit (.string ByteArray.empty)], false⟩,
  ⟨.int .u64, 1, 8, [.lit (.int .u64 0)], false⟩,
  ⟨.st [(0, 9), (1, 12)], 2, 24, [.lit (.string ByteArray.empty), .lit (.int .u64 0)], false⟩,
  ⟨.st [(0, 9), (1, 12)], 2, 24, [.lit (.string ByteArray.empty), .lit (.int .u64 0)], false⟩,
  ⟨.ptr 151, 1, 8, [.lit (.pointer none)], false⟩,
  ⟨.ptr 154, 1, 8, [.lit (.pointer none)], false⟩,
  ⟨.ptr 163, 1, 8, [.lit (.pointer none)], false⟩,
  ⟨.st [(0, 17)], 1, 8, [.lit (.pointer none)], false⟩,
  ⟨.st [(0, 17)], 1, 8, [.lit (.pointer none)], false⟩,
  ⟨.ifc, 1, 16, [.lit .nilIface], false⟩,
  ⟨.int .i32, 1, 4, [.lit (.int .i32 0)], false⟩,
  ⟨.sl 3, 1, 24, [.sl none 1 []], false⟩,
  ⟨.st [(0, 22)], 1, 24, [.sl none 1 []], false⟩,
  ⟨.st [(0, 22)], 1, 24, [.sl none 1 []], false⟩,
  ⟨.sl 83, 1, 24, [.sl none 3 []], false⟩,
  ⟨.st [(0, 3), (1, 22), (2, 25)], 3, 56, [.lit (.int .i64 0), .sl none 1 [], .sl none 3 []], false⟩,
  ⟨.st [(0, 3), (1, 22), (2, 25)], 3, 56, [.lit (.int .i64 0), .sl none 1 [], .sl none 3 []], false⟩,
  ⟨.sl 30, 1, 24, [.sl none 2 []], false⟩,
  ⟨.st [(0, 3), (1, 28)], 2, 32, [.lit (.int .i64 0), .sl none 2 []], false⟩,
  ⟨.st [(0, 3), (1, 28)], 2, 32, [.lit (.int .i64 0), .sl none 2 []], false⟩,
  ⟨.fn, 1, 8, [.lit .nilFunc], false⟩,
  ⟨.fn, 1, 8, [.lit .nilFunc], false⟩,
  ⟨.int .i64, 1, 8, [.lit (.int .i64 0)], false⟩,
  ⟨.tup [22, 33], 1, 0, [.sl none 1 [], .lit (.int .i64 0)], false⟩,
  ⟨.fn, 1, 8, [.lit .nilFunc], false⟩,
  ⟨.tup [4, 33], 1, 0, [.lit (.bool false), .lit (.int .i64 0)], false⟩,
  ⟨.fn, 1, 8, [.lit .nilFunc], false⟩,
  ⟨.fn, 1, 8, [.lit .nilFunc], false⟩,
  ⟨.fn, 1, 8, [.lit .nilFunc], false⟩,
  ⟨.fn, 1, 8, [.lit .nilFunc], false⟩,
  ⟨.tup [30, 4], 1, 0, [.lit (.int .i64 0), .sl none 2 [], .lit (.bool false)], false⟩,
  ⟨.fn, 1, 8, [.lit .nilFunc], false⟩,
  ⟨.fn, 1, 8, [.lit .nilFunc], false⟩,
  ⟨.fn, 1, 8, [.lit .nilFunc], false⟩,
  ⟨.fn, 1, 8, [.lit .nilFunc], false⟩,
  ⟨.fn, 1, 8, [.lit .nilFunc], false⟩,
  ⟨.tup [27, 33], 1, 0, [.lit (.int .i64 0), .sl none 1 [], .sl none 3 [], .lit (.int .i64 0)], false⟩,
  ⟨.fn, 1, 8, [.lit .nilFunc], false⟩,
  ⟨.fn, 1, 8, [.lit .nilFunc], false⟩,
  ⟨.fn, 1, 8, [.lit .nilFunc], false⟩,
  ⟨.fn, 1, 8, [.lit .nilFunc], false⟩,
  ⟨.fn, 1, 8, [.lit .nilFunc], false⟩,
  ⟨.fn, 1, 8, [.lit .nilFunc], false⟩,
  ⟨.fn, 1, 8, [.lit .nilFunc], false⟩,
  ⟨.fn, 1, 8, [.lit .nilFunc], false⟩,
  ⟨.fn, 1, 8, [.lit .nilFunc], false⟩,
  ⟨.fn, 1, 8, [.lit .nilFunc], false⟩,
  ⟨.sl 4, 1, 24, [.sl none 1 []], false⟩,
  ⟨.tup [58, 33], 1, 0, [.sl none 1 [], .lit (.int .i64 0)], false⟩,
  ⟨.fn, 1, 8, [.lit .nilFunc], false⟩,
  ⟨.fn, 1, 8, [.lit .nilFunc], false⟩,
  ⟨.fn, 1, 8, [.lit .nilFunc], false⟩,
  ⟨.fn, 1, 8, [.lit .nilFunc], false⟩,
  ⟨.fn, 1, 8, [.lit .nilFunc], false⟩,
  ⟨.fn, 1, 8, [.lit .nilFunc], false⟩,
  ⟨.fn, 1, 8, [.lit .nilFunc], false⟩,
  ⟨.fn, 1, 8, [.lit .nilFunc], false⟩,
  ⟨.fn, 1, 8, [.lit .nilFunc], false⟩,
  ⟨.sl 58, 1, 24, [.sl none 1 []], false⟩,
  ⟨.fn, 1, 8, [.lit .nilFunc], false⟩,
  ⟨.sl 22, 1, 24, [.sl none 1 []], false⟩,
  ⟨.fn, 1, 8, [.lit .nilFunc], false⟩,
  ⟨.fn, 1, 8, [.lit .nilFunc], false⟩,
  ⟨.fn, 1, 8, [.lit .nilFunc], false⟩,
  ⟨.fn, 1, 8, [.lit .nilFunc], false⟩,
  ⟨.fn, 1, 8, [.lit .nilFunc], false⟩,
  ⟨.fn, 1, 8, [.lit .nilFunc], false⟩,
  ⟨.fn, 1, 8, [.lit .nilFunc], false⟩,
  ⟨.map 9 3, 1, 8, [.lit (.map none)], false⟩,
  ⟨.fn, 1, 8, [.lit .nilFunc], false⟩,
  ⟨.tup [3, 4], 1, 0, [.lit (.int .i64 0), .lit (.bool false)], false⟩,
  ⟨.st [(0, 3), (1, 22), (2, 3)], 3, 40, [.lit (.int .i64 0), .sl none 1 [], .lit (.int .i64 0)], false⟩,
  ⟨.st [(0, 3), (1, 22), (2, 3)], 3, 40, [.lit (.int .i64 0), .sl none 1 [], .lit (.int .i64 0)], false⟩,
  ⟨.fn, 1, 8, [.lit .nilFunc], false⟩,
  ⟨.map 9 4, 1, 8, [.lit (.map none)], false⟩,
  ⟨.fn, 1, 8, [.lit .nilFunc], false⟩,
  ⟨.fn, 1, 8, [.lit .nilFunc], false⟩,
  ⟨.ptr 3, 1, 8, [.lit (.pointer none)], false⟩,
  ⟨.fn, 1, 8, [.lit .nilFunc], false⟩,
  ⟨.tup [22, 4], 1, 0, [.sl none 1 [], .lit (.bool false)], false⟩,
  ⟨.fn, 1, 8, [.lit .nilFunc], false⟩,
  ⟨.fn, 1, 8, [.lit .nilFunc], false⟩,
  ⟨.sl 27, 1, 24, [.sl none 3 []], false⟩,
  ⟨.fn, 1, 8, [.lit .nilFunc], false⟩,
  ⟨.fn, 1, 8, [.lit .nilFunc], false⟩,
  ⟨.fn, 1, 8, [.lit .nilFunc], false⟩,
  ⟨.sl 5, 1, 24, [.sl none 1 []], false⟩,
  ⟨.fn, 1, 8, [.lit .nilFunc], false⟩,
  ⟨.fn, 1, 8, [.lit .nilFunc], false⟩,
  ⟨.fn, 1, 8, [.lit .nilFunc], false⟩,
  ⟨.map 3 4, 1, 8, [.lit (.map none)], false⟩,
  ⟨.st [(0, 22), (1, 101)], 2, 32, [.sl none 1 [], .lit (.map none)], false⟩,
  ⟨.st [(0, 22), (1, 101)], 2, 32, [.sl none 1 [], .lit (.map none)], false⟩,
  ⟨.fn, 1, 8, [.lit .nilFunc], false⟩,
  ⟨.fn, 1, 8, [.lit .nilFunc], false⟩,
  ⟨.fn, 1, 8, [.lit .nilFunc], false⟩,
  ⟨.fn, 1, 8, [.lit .nilFunc], false⟩,
  ⟨.fn, 1, 8, [.lit .nilFunc], false⟩,
  ⟨.fn, 1, 8, [.lit .nilFunc], false⟩,
  ⟨.fn, 1, 8, [.lit .nilFunc], false⟩,
  ⟨.fn, 1, 8, [.lit .nilFunc], false⟩,
  ⟨.ptr 103, 1, 8, [.lit (.pointer none)], false⟩,
  ⟨.fn, 1, 8, [.lit .nilFunc], false⟩,
  ⟨.int .u64, 1, 8, [.lit (.int .u64 0)], false⟩,
  ⟨.fn, 1, 8, [.lit .nilFunc], false⟩,
  ⟨.fn, 1, 8, [.lit .nilFunc], false⟩,
  ⟨.fn, 1, 8, [.lit .nilFunc], false⟩,
  ⟨.int .u64, 1, 8, [.lit (.int .u64 0)], false⟩,
  ⟨.fn, 1, 8, [.lit .nilFunc], false⟩,
  ⟨.fn, 1, 8, [.lit .nilFunc], false⟩,
  ⟨.arr 24 5, 24, 24, [.lit (.int .u8 0), .lit (.int .u8 0), .lit (.int .u8 0), .lit (.int .u8 0), .lit (.int .u8 0), .lit (.int .u8 0), .lit (.int .u8 0), .lit (.int .u8 0), .lit (.int .u8 0), .lit (.int .u8 0), .lit (.int .u8 0), .lit (.int .u8 0), .lit (.int .u8 0), .lit (.int .u8 0), .lit (.int .u8 0), .lit (.int .u8 0), .lit (.int .u8 0), .lit (.int .u8 0), .lit (.int .u8 0), .lit (.int .u8 0), .lit (.int .u8 0), .lit (.int .u8 0), .lit (.int .u8 0), .lit (.int .u8 0)], false⟩,
  ⟨.fn, 1, 8, [.lit .nilFunc], false⟩,
  ⟨.fn, 1, 8, [.lit .nilFunc], false⟩,
  ⟨.tup [97, 9], 1, 0, [.sl none 1 [], .lit (.string ByteArray.empty)], false⟩,
  ⟨.fn, 1, 8, [.lit .nilFunc], false⟩,
  ⟨.fn, 1, 8, [.lit .nilFunc], false⟩,
  ⟨.int .i64, 1, 8, [.lit (.int .i64 0)], false⟩,
  ⟨.tup [3, 127], 1, 0, [.lit (.int .i64 0), .lit (.int .i64 0)], false⟩,
  ⟨.fn, 1, 8, [.lit .nilFunc], false⟩,
  ⟨.fn, 1, 8, [.lit .nilFunc], false⟩,
  ⟨.fn, 1, 8, [.lit .nilFunc], false⟩,
  ⟨.fn, 1, 8, [.lit .nilFunc], false⟩,
  ⟨.fn, 1, 8, [.lit .nilFunc], false⟩,
  ⟨.int .u32, 1, 4, [.lit (.int .u32 0)], false⟩,
  ⟨.fn, 1, 8, [.lit .nilFunc], false⟩,
  ⟨.fn, 1, 8, [.lit .nilFunc], false⟩,
  ⟨.arr 20 114, 20, 160, [.lit (.int .u64 0), .lit (.int .u64 0), .lit (.int .u64 0), .lit (.int .u64 0), .lit (.int .u64 0), .lit (.int .u64 0), .lit (.int .u64 0), .lit (.int .u64 0), .lit (.int .u64 0), .lit (.int .u64 0), .lit (.int .u64 0), .lit (.int .u64 0), .lit (.int .u64 0), .lit (.int .u64 0), .lit (.int .u64 0), .lit (.int .u64 0), .lit (.int .u64 0), .lit (.int .u64 0), .lit (.int .u64 0), .lit (.int .u64 0)], false⟩,
  ⟨.arr 65 5, 65, 65, [.lit (.int .u8 0), .lit (.int .u8 0), .lit (.int .u8 0), .lit (.int .u8 0), .lit (.int .u8 0), .lit (.int .u8 0), .lit (.int .u8 0), .lit (.int .u8 0), .lit (.int .u8 0), .lit (.int .u8 0), .lit (.int .u8 0), .lit (.int .u8 0), .lit (.int .u8 0), .lit (.int .u8 0), .lit (.int .u8 0), .lit (.int .u8 0), .lit (.int .u8 0), .lit (.int .u8 0), .lit (.int .u8 0), .lit (.int .u8 0), .lit (.int .u8 0), .lit (.int .u8 0), .lit (.int .u8 0), .lit (.int .u8 0), .lit (.int .u8 0), .lit (.int .u8 0), .lit (.int .u8 0), .lit (.int .u8 0), .lit (.int .u8 0), .lit (.int .u8 0), .lit (.int .u8 0), .lit (.int .u8 0), .lit (.int .u8 0), .lit (.int .u8 0), .lit (.int .u8 0), .lit (.int .u8 0), .lit (.int .u8 0), .lit (.int .u8 0), .lit (.int .u8 0), .lit (.int .u8 0), .lit (.int .u8 0), .lit (.int .u8 0), .lit (.int .u8 0), .lit (.int .u8 0), .lit (.int .u8 0), .lit (.int .u8 0), .lit (.int .u8 0), .lit (.int .u8 0), .lit (.int .u8 0), .lit (.int .u8 0), .lit (.int .u8 0), .lit (.int .u8 0), .lit (.int .u8 0), .lit (.int .u8 0), .lit (.int .u8 0), .lit (.int .u8 0), .lit (.int .u8 0), .lit (.int .u8 0), .lit (.int .u8 0), .lit (.int .u8 0), .lit (.int .u8 0), .lit (.int .u8 0), .lit (.int .u8 0), .lit (.int .u8 0), .lit (.int .u8 0)], false⟩,
  ⟨.int .u64, 1, 8, [.lit (.int .u64 0)], false⟩,
  ⟨.fn, 1, 8, [.lit .nilFunc], false⟩,
  ⟨.fn, 1, 8, [.lit .nilFunc], false⟩,
  ⟨.fn, 1, 8, [.lit .nilFunc], false⟩,
  ⟨.fn, 1, 8, [.lit .nilFunc], false⟩,
  ⟨.ptr 139, 1, 8, [.lit (.pointer none)], false⟩,
  ⟨.tup [3, 3], 1, 0, [.lit (.int .i64 0), .lit (.int .i64 0)], false⟩,
  ⟨.fn, 1, 8, [.lit .nilFunc], false⟩,
  ⟨.arr 32 5, 32, 32, [.lit (.int .u8 0), .lit (.int .u8 0), .lit (.int .u8 0), .lit (.int .u8 0), .lit (.int .u8 0), .lit (.int .u8 0), .lit (.int .u8 0), .lit (.int .u8 0), .lit (.int .u8 0), .lit (.int .u8 0), .lit (.int .u8 0), .lit (.int .u8 0), .lit (.int .u8 0), .lit (.int .u8 0), .lit (.int .u8 0), .lit (.int .u8 0), .lit (.int .u8 0), .lit (.int .u8 0), .lit (.int .u8 0), .lit (.int .u8 0), .lit (.int .u8 0), .lit (.int .u8 0), .lit (.int .u8 0), .lit (.int .u8 0), .lit (.int .u8 0), .lit (.int .u8 0), .lit (.int .u8 0), .lit (.int .u8 0), .lit (.int .u8 0), .lit (.int .u8 0), .lit (.int .u8 0), .lit (.int .u8 0)], false⟩,
  ⟨.arr 64 5, 64, 64, [.lit (.int .u8 0), .lit (.int .u8 0), .lit (.int .u8 0), .lit (.int .u8 0), .lit (.int .u8 0), .lit (.int .u8 0), .lit (.int .u8 0), .lit (.int .u8 0), .lit (.int .u8 0), .lit (.int .u8 0), .lit (.int .u8 0), .lit (.int .u8 0), .lit (.int .u8 0), .lit (.int .u8 0), .lit (.int .u8 0), .lit (.int .u8 0), .lit (.int .u8 0), .lit (.int .u8 0), .lit (.int .u8 0), .lit (.int .u8 0), .lit (.int .u8 0), .lit (.int .u8 0), .lit (.int .u8 0), .lit (.int .u8 0), .lit (.int .u8 0), .lit (.int .u8 0), .lit (.int .u8 0), .lit (.int .u8 0), .lit (.int .u8 0), .lit (.int .u8 0), .lit (.int .u8 0), .lit (.int .u8 0), .lit (.int .u8 0), .lit (.int .u8 0), .lit (.int .u8 0), .lit (.int .u8 0), .lit (.int .u8 0), .lit (.int .u8 0), .lit (.int .u8 0), .lit (.int .u8 0), .lit (.int .u8 0), .lit (.int .u8 0), .lit (.int .u8 0), .lit (.int .u8 0), .lit (.int .u8 0), .lit (.int .u8 0), .lit (.int .u8 0), .lit (.int .u8 0), .lit (.int .u8 0), .lit (.int .u8 0), .lit (.int .u8 0), .lit (.int .u8 0), .lit (.int .u8 0), .lit (.int .u8 0), .lit (.int .u8 0), .lit (.int .u8 0), .lit (.int .u8 0), .lit (.int .u8 0), .lit (.int .u8 0), .lit (.int .u8 0), .lit (.int .u8 0), .lit (.int .u8 0), .lit (.int .u8 0), .lit (.int .u8 0)], false⟩,
  ⟨.fn, 1, 8, [.lit .nilFunc], false⟩,
  ⟨.st [(0, 17), (1, 17), (2, 17), (3, 9)], 4, 40, [.lit (.pointer none), .lit (.pointer none), .lit (.pointer none), .lit (.string ByteArray.empty)], false⟩,
  ⟨.st [(0, 17), (1, 17), (2, 17), (3, 9)], 4, 40, [.lit (.pointer none), .lit (.pointer none), .lit (.pointer none), .lit (.string ByteArray.empty)], false⟩,
  ⟨.arr 0 16, 0, 0, [], false⟩,
  ⟨.st [(0, 152)], 0, 0, [], false⟩,
  ⟨.st [(0, 152)], 0, 0, [], false⟩,
  ⟨.fn, 1, 8, [.lit .nilFunc], false⟩,
  ⟨.int .u8, 1, 1, [.lit (.int .u8 0)], false⟩,
  ⟨.int .u8, 1, 1, [.lit (.int .u8 0)], false⟩,
  ⟨.fn, 1, 8, [.lit .nilFunc], false⟩,
  ⟨.ptr 5, 1, 8, [.lit (.pointer none)], false⟩,
  ⟨.int .i32, 1, 4, [.lit (.int .i32 0)], false⟩,
  ⟨.int .i32, 1, 4, [.lit (.int .i32 0)], false⟩,
  ⟨.st [(0, 12), (1, 12), (2, 134), (3, 156), (4, 5), (5, 5), (6, 157), (7, 158), (8, 159), (9, 160), (10, 161)], 11, 48, [.lit (.int .u64 0), .lit (.int .u64 0), .lit (.int .u32 0), .lit (.int .u8 0), .lit (.int .u8 0), .lit (.int .u8 0), .lit (.int .u8 0), .lit .nilFunc, .lit (.pointer none), .lit (.int .i32 0), .lit (.int .i32 0)], false⟩,
  ⟨.st [(0, 12), (1, 12), (2, 134), (3, 156), (4, 5), (5, 5), (6, 157), (7, 158), (8, 159), (9, 160), (10, 161)], 11, 48, [.lit (.int .u64 0), .lit (.int .u64 0), .lit (.int .u32 0), .lit (.int .u8 0), .lit (.int .u8 0), .lit (.int .u8 0), .lit (.int .u8 0), .lit .nilFunc, .lit (.pointer none), .lit (.int .i32 0), .lit (.int .i32 0)], false⟩,
  ⟨.other, 1, 8, [.lit (.pointer none)], false⟩]
noncomputable def GL : List (Nat × List PV) := [(0, [.sl none 1 [[.lit (.int .i64 0)], [.lit (.int .i64 2)]]]), (1, [.lit (.int .u64 1), .lit (.int .u64 10), .lit (.int .u64 100), .lit (.int .u64 1000), .lit (.int .u64 10000), .lit (.int .u64 100000), .lit (.int .u64 1000000), .lit (.int .u64 10000000), .lit (.int .u64 100000000), .lit (.int .u64 1000000000), .lit (.int .u64 10000000000), .lit (.int .u64 100000000000), .lit (.int .u64 1000000000000), .lit (.int .u64 10000000000000), .lit (.int .u64 100000000000000), .lit (.int .u64 1000000000000000), .lit (.int .u64 10000000000000000), .lit (.int .u64 100000000000000000), .lit (.int .u64 1000000000000000000), .lit (.int .u64 10000000000000000000)])]
noncomputable def T : Tab := ⟨TY, GL⟩
theorem T_0 : T.at 0 = ⟨.tup [], 1, 0, [], false⟩ := rfl
theorem T_1 : T.at 1 = ⟨.fn, 1, 8, [.lit .nilFunc], false⟩ := rfl
theorem T_2 : T.at 2 = ⟨.int .i64, 1, 8, [.lit (.int .i64 0)], false⟩ := rfl
theorem T_3 : T.at 3 = ⟨.int .i64, 1, 8, [.lit (.int .i64 0)], false⟩ := rfl
theorem T_4 : T.at 4 = ⟨.bool, 1, 1, [.lit (.bool false)], false⟩ := rfl
theorem T_5 : T.at 5 = ⟨.int .u8, 1, 1, [.lit (.int .u8 0)], false⟩ := rfl
theorem T_6 : T.at 6 = ⟨.int .u8, 1, 1, [.lit (.int .u8 0)], false⟩ := rfl
theorem T_7 : T.at 7 = ⟨.st [(0, 2), (1, 3), (2, 4), (3, 6)], 4, 24, [.lit (.int .i64 0), .lit (.int .i64 0), .lit (.bool false), .lit (.int .u8 0)], true⟩ := rfl
theorem T_8 : T.at 8 = ⟨.st [(0, 2), (1, 3), (2, 4), (3, 6)], 4, 24, [.lit (.int .i64 0), .lit (.int .i64 0), .lit (.bool false), .lit (.int .u8 0)], true⟩ := rfl
theorem T_9 : T.at 9 = ⟨.str, 1, 16, [.lit (.string ByteArray.empty)], false⟩ := rfl
theorem T_10 : T.at 10 = ⟨.str, 1, 16, [.lit (.string ByteArray.empty)], false⟩ := rfl
theorem T_11 : T.at 11 = ⟨.str, 1, 16, [.lit (.string ByteArray.empty)], false⟩ := rfl
theorem T_12 : T.at 12 = ⟨.int .u64, 1, 8, [.lit (.int .u64 0)], false⟩ := rfl
theorem T_13 : T.at 13 = ⟨.st [(0, 9), (1, 12)], 2, 24, [.lit (.string ByteArray.empty), .lit (.int .u64 0)], false⟩ := rfl
theorem T_14 : T.at 14 = ⟨.st [(0, 9), (1, 12)], 2, 24, [.lit (.string ByteArray.empty), .lit (.int .u64 0)], false⟩ := rfl
theorem T_15 : T.at 15 = ⟨.ptr 151, 1, 8, [.lit (.pointer none)], false⟩ := rfl
theorem T_16 : T.at 16 = ⟨.ptr 154, 1, 8, [.lit (.pointer none)], false⟩ := rfl
theorem T_17 : T.at 17 = ⟨.ptr 163, 1, 8, [.lit (.pointer none)], false⟩ := rfl
theorem T_18 : T.at 18 = ⟨.st [(0, 17)], 1, 8, [.lit (.pointer none)], false⟩ := rfl
theorem T_19 : T.at 19 = ⟨.st [(0, 17)], 1, 8, [.lit (.pointer none)], false⟩ := rfl
theorem T_20 : T.at 20 = ⟨.ifc, 1, 16, [.lit .nilIface], false⟩ := rfl
theorem T_21 : T.at 21 = ⟨.int .i32, 1, 4, [.lit (.int .i32 0)], false⟩ := rfl
theorem T_22 : T.at 22 = ⟨.sl 3, 1, 24, [.sl none 1 []], false⟩ := rfl
theorem T_23 : T.at 23 = ⟨.st [(0, 22)], 1, 24, [.sl none 1 []], false⟩ := rfl
theorem T_24 : T.at 24 = ⟨.st [(0, 22)], 1, 24, [.sl none 1 []], false⟩ := rfl
theorem T_25 : T.at 25 = ⟨.sl 83, 1, 24, [.sl none 3 []], false⟩ := rfl
theorem T_26 : T.at 26 = ⟨.st [(0, 3), (1, 22), (2, 25)], 3, 56, [.lit (.int .i64 0), .sl none 1 [], .sl none 3 []], false⟩ := rfl
theorem T_27 : T.at 27 = ⟨.st [(0, 3), (1, 22), (2, 25)], 3, 56, [.lit (.int .i64 0), .sl none 1 [], .sl none 3 []], false⟩ := rfl
theorem T_28 : T.at 28 = ⟨.sl 30, 1, 24, [.sl none 2 []], false⟩ := rfl
theorem T_29 : T.at 29 = ⟨.st [(0, 3), (1, 28)], 2, 32, [.lit (.int .i64 0), .sl none 2 []], false⟩ := rfl
theorem T_30 : T.at 30 = ⟨.st [(0, 3), (1, 28)], 2, 32, [.lit (.int .i64 0), .sl none 2 []], false⟩ := rfl
theorem T_31 : T.at 31 = ⟨.fn, 1, 8, [.lit .nilFunc], false⟩ := rfl
theorem T_32 : T.at 32 = ⟨.fn, 1, 8, [.lit .nilFunc], false⟩ := rfl
theorem T_33 : T.at 33 = ⟨.int .i64, 1, 8, [.lit (.int .i64 0)], false⟩ := rfl
theorem T_34 : T.at 34 = ⟨.tup [22, 33], 1, 0, [.sl none 1 [], .lit (.int .i64 0)], false⟩ := rfl
theorem T_35 : T.at 35 = ⟨.fn, 1, 8, [.lit .nilFunc], false⟩ := rfl
theorem T_36 : T.at 36 = ⟨.tup [4, 33], 1, 0, [.lit (.bool false), .lit (.int .i64 0)], false⟩ := rfl
theorem T_37 : T.at 37 = ⟨.fn, 1, 8, [.lit .nilFunc], false⟩ := rfl
theorem T_38 : T.at 38 = ⟨.fn, 1, 8, [.lit .nilFunc], false⟩ := rfl
theorem T_39 : T.at 39 = ⟨.fn, 1, 8, [.lit .nilFunc], false⟩ := rfl
theorem T_40 : T.at 40 = ⟨.fn, 1, 8, [.lit .nilFunc], false⟩ := rfl
theorem T_41 : T.at 41 = ⟨.tup [30, 4], 1, 0, [.lit (.int .i64 0), .sl none 2 [], .lit (.bool false)], false⟩ := rfl
theorem T_42 : T.at 42 = ⟨.fn, 1, 8, [.lit .nilFunc], false⟩ := rfl
theorem T_43 : T.at 43 = ⟨.fn, 1, 8, [.lit .nilFunc], false⟩ := rfl
theorem T_44 : T.at 44 = ⟨.fn, 1, 8, [.lit .nilFunc], false⟩ := rfl
theorem T_45 : T.at 45 = ⟨.fn, 1, 8, [.lit .nilFunc], false⟩ := rfl
theorem T_46 : T.at 46 = ⟨.fn, 1, 8, [.lit .nilFunc], false⟩ := rfl
theorem T_47 : T.at 47 = ⟨.tup [27, 33], 1, 0, [.lit (.int .i64 0), .sl none 1 [], .sl none 3 [], .lit (.int .i64 0)], false⟩ := rfl
theorem T_48 : T.at 48 = ⟨.fn, 1, 8, [.lit .nilFunc], false⟩ := rfl
theorem T_49 : T.at 49 = ⟨.fn, 1, 8, [.lit .nilFunc], false⟩ := rfl
theorem T_50 : T.at 50 = ⟨.fn, 1, 8, [.lit .nilFunc], false⟩ := rfl
theorem T_51 : T.at 51 = ⟨.fn, 1, 8, [.lit .nilFunc], false⟩ := rfl
theorem T_52 : T.at 52 = ⟨.fn, 1, 8, [.lit .nilFunc], false⟩ := rfl
theorem T_53 : T.at 53 = ⟨.fn, 1, 8, [.lit .nilFunc], false⟩ := rfl
theorem T_54 : T.at 54 = ⟨.fn, 1, 8, [.lit .nilFunc], false⟩ := rfl
theorem T_55 : T.at 55 = ⟨.fn, 1, 8, [.lit .nilFunc], false⟩ := rfl
theorem T_56 : T.at 56 = ⟨.fn, 1, 8, [.lit .nilFunc], false⟩ := rfl
theorem T_57 : T.at 57 = ⟨.fn, 1, 8, [.lit .nilFunc], false⟩ := rfl
theorem T_58 : T.at 58 = ⟨.sl 4, 1, 24, [.sl none 1 []], false⟩ := rfl
theorem T_59 : T.at 59 = ⟨.tup [58, 33], 1, 0, [.sl none 1 [], .lit (.int .i64 0)], false⟩ := rfl
theorem T_60 : T.at 60 = ⟨.fn, 1, 8, [.lit .nilFunc], false⟩ := rfl
theorem T_61 : T.at 61 = ⟨.fn, 1, 8, [.lit .nilFunc], false⟩ := rfl
theorem T_62 : T.at 62 = ⟨.fn, 1, 8, [.lit .nilFunc], false⟩ := rfl
theorem T_63 : T.at 63 = ⟨.fn, 1, 8, [.lit .nilFunc], false⟩ := rfl
theorem T_64 : T.at 64 = ⟨.fn, 1, 8, [.lit .nilFunc], false⟩ := rfl
theorem T_65 : T.at 65 = ⟨.fn, 1, 8, [.lit .nilFunc], false⟩ := rfl
theorem T_66 : T.at 66 = ⟨.fn, 1, 8, [.lit .nilFunc], false⟩ := rfl
theorem T_67 : T.at 67 = ⟨.fn, 1, 8, [.lit .nilFunc], false⟩ := rfl
theorem T_68 : T.at 68 = ⟨.fn, 1, 8, [.lit .nilFunc], false⟩ := rfl
theorem T_69 : T.at 69 = ⟨.sl 58, 1, 24, [.sl none 1 []], false⟩ := rfl
theorem T_70 : T.at 70 = ⟨.fn, 1, 8, [.lit .nilFunc], false⟩ := rfl
theorem T_71 : T.at 71 = ⟨.sl 22, 1, 24, [.sl none 1 []], false⟩ := rfl
theorem T_72 : T.at 72 = ⟨.fn, 1, 8, [.lit .nilFunc], false⟩ := rfl
theorem T_73 : T.at 73 = ⟨.fn, 1, 8, [.lit .nilFunc], false⟩ := rfl
theorem T_74 : T.at 74 = ⟨.fn, 1, 8, [.lit .nilFunc], false⟩ := rfl
theorem T_75 : T.at 75 = ⟨.fn, 1, 8, [.lit .nilFunc], false⟩ := rfl
theorem T_76 : T.at 76 = ⟨.fn, 1, 8, [.lit .nilFunc], false⟩ := rfl
theorem T_77 : T.at 77 = ⟨.fn, 1, 8, [.lit .nilFunc], false⟩ := rfl
theorem T_78 : T.at 78 = ⟨.fn, 1, 8, [.lit .nilFunc], false⟩ := rfl
theorem T_79 : T.at 79 = ⟨.map 9 3, 1, 8, [.lit (.map none)], false⟩ := rfl
theorem T_80 : T.at 80 = ⟨.fn, 1, 8, [.lit .nilFunc], false⟩ := rfl
theorem T_81 : T.at 81 = ⟨.tup [3, 4], 1, 0, [.lit (.int .i64 0), .lit (.bool false)], false⟩ := rfl
theorem T_82 : T.at 82 = ⟨.st [(0, 3), (1, 22), (2, 3)], 3, 40, [.lit (.int .i64 0), .sl none 1 [], .lit (.int .i64 0)], false⟩ := rfl
theorem T_83 : T.at 83 = ⟨.st [(0, 3), (1, 22), (2, 3)], 3, 40, [.lit (.int .i64 0), .sl none 1 [], .lit (.int .i64 0)], false⟩ := rfl
theorem T_84 : T.at 84 = ⟨.fn, 1, 8, [.lit .nilFunc], false⟩ := rfl
theorem T_85 : T.at 85 = ⟨.map 9 4, 1, 8, [.lit (.map none)], false⟩ := rfl
theorem T_86 : T.at 86 = ⟨.fn, 1, 8, [.lit .nilFunc], false⟩ := rfl
theorem T_87 : T.at 87 = ⟨.fn, 1, 8, [.lit .nilFunc], false⟩ := rfl
theorem T_88 : T.at 88 = ⟨.ptr 3, 1, 8, [.lit (.pointer none)], false⟩ := rfl
theorem T_89 : T.at 89 = ⟨.fn, 1, 8, [.lit .nilFunc], false⟩ := rfl
theorem T_90 : T.at 90 = ⟨.tup [22, 4], 1, 0, [.sl none 1 [], .lit (.bool false)], false⟩ := rfl
theorem T_91 : T.at 91 = ⟨.fn, 1, 8, [.lit .nilFunc], false⟩ := rfl
theorem T_92 : T.at 92 = ⟨.fn, 1, 8, [.lit .nilFunc], false⟩ := rfl
theorem T_93 : T.at 93 = ⟨.sl 27, 1, 24, [.sl none 3 []], false⟩ := rfl
theorem T_94 : T.at 94 = ⟨.fn, 1, 8, [.lit .nilFunc], false⟩ := rfl
theorem T_95 : T.at 95 = ⟨.fn, 1, 8, [.lit .nilFunc], false⟩ := rfl
theorem T_96 : T.at 96 = ⟨.fn, 1, 8, [.lit .nilFunc], false⟩ := rfl
theorem T_97 : T.at 97 = ⟨.sl 5, 1, 24, [.sl none 1 []], false⟩ := rfl
theorem T_98 : T.at 98 = ⟨.fn, 1, 8, [.lit .nilFunc], false⟩ := rfl
theorem T_99 : T.at 99 = ⟨.fn, 1, 8, [.lit .nilFunc], false⟩ := rfl
theorem T_100 : T.at 100 = ⟨.fn, 1, 8, [.lit .nilFunc], false⟩ := rfl
theorem T_101 : T.at 101 = ⟨.map 3 4, 1, 8, [.lit (.map none)], false⟩ := rfl
theorem T_102 : T.at 102 = ⟨.st [(0, 22), (1, 101)], 2, 32, [.sl none 1 [], .lit (.map none)], false⟩ := rfl
theorem T_103 : T.at 103 = ⟨.st [(0, 22), (1, 101)], 2, 32, [.sl none 1 [], .lit (.map none)], false⟩ := rfl
theorem T_104 : T.at 104 = ⟨.fn, 1, 8, [.lit .nilFunc], false⟩ := rfl
theorem T_105 : T.at 105 = ⟨.fn, 1, 8, [.lit .nilFunc], false⟩ := rfl
theorem T_106 : T.at 106 = ⟨.fn, 1, 8, [.lit .nilFunc], false⟩ := rfl
theorem T_107 : T.at 107 = ⟨.fn, 1, 8, [.lit .nilFunc], false⟩ := rfl
theorem T_108 : T.at 108 = ⟨.fn, 1, 8, [.lit .nilFunc], false⟩ := rfl
theorem T_109 : T.at 109 = ⟨.fn, 1, 8, [.lit .nilFunc], false⟩ := rfl
theorem T_110 : T.at 110 = ⟨.fn, 1, 8, [.lit .nilFunc], false⟩ := rfl
theorem T_111 : T.at 111 = ⟨.fn, 1, 8, [.lit .nilFunc], false⟩ := rfl
theorem T_112 : T.at 112 = ⟨.ptr 103, 1, 8, [.lit (.pointer none)], false⟩ := rfl
theorem T_113 : T.at 113 = ⟨.fn, 1, 8, [.lit .nilFunc], false⟩ := rfl
theorem T_114 : T.at 114 = ⟨.int .u64, 1, 8, [.lit (.int .u64 0)], false⟩ := rfl
theorem T_115 : T.at 115 = ⟨.fn, 1, 8, [.lit .nilFunc], false⟩ := rfl
theorem T_116 : T.at 116 = ⟨.fn, 1, 8, [.lit .nilFunc], false⟩ := rfl
theorem T_117 : T.at 117 = ⟨.fn, 1, 8, [.lit .nilFunc], false⟩ := rfl
theorem T_118 : T.at 118 = ⟨.int .u64, 1, 8, [.lit (.int .u64 0)], false⟩ := rfl
theorem T_119 : T.at 119 = ⟨.fn, 1, 8, [.lit .nilFunc], false⟩ := rfl
theorem T_120 : T.at 120 = ⟨.fn, 1, 8, [.lit .nilFunc], false⟩ := rfl
theorem T_121 : T.at 121 = ⟨.arr 24 5, 24, 24, [.lit (.int .u8 0), .lit (.int .u8 0), .lit (.int .u8 0), .lit (.int .u8 0), .lit (.int .u8 0), .lit (.int .u8 0), .lit (.int .u8 0), .lit (.int .u8 0), .lit (.int .u8 0), .lit (.int .u8 0), .lit (.int .u8 0), .lit (.int .u8 0), .lit (.int .u8 0), .lit (.int .u8 0), .lit (.int .u8 0), .lit (.int .u8 0), .lit (.int .u8 0), .lit (.int .u8 0), .lit (.int .u8 0), .lit (.int .u8 0), .lit (.int .u8 0), .lit (.int .u8 0), .lit (.int .u8 0), .lit (.int .u8 0)], false⟩ := rfl
theorem T_122 : T.at 122 = ⟨.fn, 1, 8, [.lit .nilFunc], false⟩ := rfl
theorem T_123 : T.at 123 = ⟨.fn, 1, 8, [.lit .nilFunc], false⟩ := rfl
theorem T_124 : T.at 124 = ⟨.tup [97, 9], 1, 0, [.sl none 1 [], .lit (.string ByteArray.empty)], false⟩ := rfl
theorem T_125 : T.at 125 = ⟨.fn, 1, 8, [.lit .nilFunc], false⟩ := rfl
theorem T_126 : T.at 126 = ⟨.fn, 1, 8, [.lit .nilFunc], false⟩ := rfl
theorem T_127 : T.at 127 = ⟨.int .i64, 1, 8, [.lit (.int .i64 0)], false⟩ := rfl
theorem T_128 : T.at 128 = ⟨.tup [3, 127], 1, 0, [.lit (.int .i64 0), .lit (.int .i64 0)], false⟩ := rfl
theorem T_129 : T.at 129 = ⟨.fn, 1, 8, [.lit .nilFunc], false⟩ := rfl
theorem T_130 : T.at 130 = ⟨.fn, 1, 8, [.lit .nilFunc], false⟩ := rfl
theorem T_131 : T.at 131 = ⟨.fn, 1, 8, [.lit .nilFunc], false⟩ := rfl
theorem T_132 : T.at 132 = ⟨.fn, 1, 8, [.lit .nilFunc], false⟩ := rfl
theorem T_133 : T.at 133 = ⟨.fn, 1, 8, [.lit .nilFunc], false⟩ := rfl
theorem T_134 : T.at 134 = ⟨.int .u32, 1, 4, [.lit (.int .u32 0)], false⟩ := rfl
theorem T_135 : T.at 135 = ⟨.fn, 1, 8, [.lit .nilFunc], false⟩ := rfl
theorem T_136 : T.at 136 = ⟨.fn, 1, 8, [.lit .nilFunc], false⟩ := rfl
theorem T_137 : T.at 137 = ⟨.arr 20 114, 20, 160, [.lit (.int .u64 0), .lit (.int .u64 0), .lit (.int .u64 0), .lit (.int .u64 0), .lit (.int .u64 0), .lit (.int .u64 0), .lit (.int .u64 0), .lit (.int .u64 0), .lit (.int .u64 0), .lit (.int .u64 0), .lit (.int .u64 0), .lit (.int .u64 0), .lit (.int .u64 0), .lit (.int .u64 0), .lit (.int .u64 0), .lit (.int .u64 0), .lit (.int .u64 0), .lit (.int .u64 0), .lit (.int .u64 0), .lit (.int .u64 0)], false⟩ := rfl
theorem T_138 : T.at 138 = ⟨.arr 65 5, 65, 65, [.lit (.int .u8 0), .lit (.int .u8 0), .lit (.int .u8 0), .lit (.int .u8 0), .lit (.int .u8 0), .lit (.int .u8 0), .lit (.int .u8 0), .lit (.int .u8 0), .lit (.int .u8 0), .lit (.int .u8 0), .lit (.int .u8 0), .lit (.int .u8 0), .lit (.int .u8 0), .lit (.int .u8 0), .lit (.int .u8 0), .lit (.int .u8 0), .lit (.int .u8 0), .lit (.int .u8 0), .lit (.int .u8 0), .lit (.int .u8 0), .lit (.int .u8 0), .lit (.int .u8 0), .lit (.int .u8 0), .lit (.int .u8 0), .lit (.int .u8 0), .lit (.int .u8 0), .lit (.int .u8 0), .lit (.int .u8 0), .lit (.int .u8 0), .lit (.int .u8 0), .lit (.int .u8 0), .lit (.int .u8 0), .lit (.int .u8 0), .lit (.int .u8 0), .lit (.int .u8 0), .lit (.int .u8 0), .lit (.int .u8 0), .lit (.int .u8 0), .lit (.int .u8 0), .lit (.int .u8 0), .lit (.int .u8 0), .lit (.int .u8 0), .lit (.int .u8 0), .lit (.int .u8 0), .lit (.int .u8 0), .lit (.int .u8 0), .lit (.int .u8 0), .lit (.int .u8 0), .lit (.int .u8 0), .lit (.int .u8 0), .lit (.int .u8 0), .lit (.int .u8 0), .lit (.int .u8 0), .lit (.int .u8 0), .lit (.int .u8 0), .lit (.int .u8 0), .lit (.int .u8 0), .lit (.int .u8 0), .lit (.int .u8 0), .lit (.int .u8 0), .lit (.int .u8 0), .lit (.int .u8 0), .lit (.int .u8 0), .lit (.int .u8 0), .lit (.int .u8 0)], false⟩ := rfl
theorem T_139 : T.at 139 = ⟨.int .u64, 1, 8, [.lit (.int .u64 0)], false⟩ := rfl
theorem T_140 : T.at 140 = ⟨.fn, 1, 8, [.lit .nilFunc], false⟩ := rfl
theorem T_141 : T.at 141 = ⟨.fn, 1, 8, [.lit .nilFunc], false⟩ := rfl
theorem T_142 : T.at 142 = ⟨.fn, 1, 8, [.lit .nilFunc], false⟩ := rfl
theorem T_143 : T.at 143 = ⟨.fn, 1, 8, [.lit .nilFunc], false⟩ := rfl
theorem T_144 : T.at 144 = ⟨.ptr 139, 1, 8, [.lit (.pointer none)], false⟩ := rfl
theorem T_145 : T.at 145 = ⟨.tup [3, 3], 1, 0, [.lit (.int .i64 0), .lit (.int .i64 0)], false⟩ := rfl
theorem T_146 : T.at 146 = ⟨.fn, 1, 8, [.lit .nilFunc], false⟩ := rfl
theorem T_147 : T.at 147 = ⟨.arr 32 5, 32, 32, [.lit (.int .u8 0), .lit (.int .u8 0), .lit (.int .u8 0), .lit (.int .u8 0), .lit (.int .u8 0), .lit (.int .u8 0), .lit (.int .u8 0), .lit (.int .u8 0), .lit (.int .u8 0), .lit (.int .u8 0), .lit (.int .u8 0), .lit (.int .u8 0), .lit (.int .u8 0), .lit (.int .u8 0), .lit (.int .u8 0), .lit (.int .u8 0), .lit (.int .u8 0), .lit (.int .u8 0), .lit (.int .u8 0), .lit (.int .u8 0), .lit (.int .u8 0), .lit (.int .u8 0), .lit (.int .u8 0), .lit (.int .u8 0), .lit (.int .u8 0), .lit (.int .u8 0), .lit (.int .u8 0), .lit (.int .u8 0), .lit (.int .u8 0), .lit (.int .u8 0), .lit (.int .u8 0), .lit (.int .u8 0)], false⟩ := rfl
theorem T_148 : T.at 148 = ⟨.arr 64 5, 64, 64, [.lit (.int .u8 0), .lit (.int .u8 0), .lit (.int .u8 0), .lit (.int .u8 0), .lit (.int .u8 0), .lit (.int .u8 0), .lit (.int .u8 0), .lit (.int .u8 0), .lit (.int .u8 0), .lit (.int .u8 0), .lit (.int .u8 0), .lit (.int .u8 0), .lit (.int .u8 0), .lit (.int .u8 0), .lit (.int .u8 0), .lit (.int .u8 0), .lit (.int .u8 0), .lit (.int .u8 0), .lit (.int .u8 0), .lit (.int .u8 0), .lit (.int .u8 0), .lit (.int .u8 0), .lit (.int .u8 0), .lit (.int .u8 0), .lit (.int .u8 0), .lit (.int .u8 0), .lit (.int .u8 0), .lit (.int .u8 0), .lit (.int .u8 0), .lit (.int .u8 0), .lit (.int .u8 0), .lit (.int .u8 0), .lit (.int .u8 0), .lit (.int .u8 0), .lit (.int .u8 0), .lit (.int .u8 0), .lit (.int .u8 0), .lit (.int .u8 0), .lit (.int .u8 0), .lit (.int .u8 0), .lit (.int .u8 0), .lit (.int .u8 0), .lit (.int .u8 0), .lit (.int .u8 0), .lit (.int .u8 0), .lit (.int .u8 0), .lit (.int .u8 0), .lit (.int .u8 0), .lit (.int .u8 0), .lit (.int .u8 0), .lit (.int .u8 0), .lit (.int .u8 0), .lit (.int .u8 0), .lit (.int .u8 0), .lit (.int .u8 0), .lit (.int .u8 0), .lit (.int .u8 0), .lit (.int .u8 0), .lit (.int .u8 0), .lit (.int .u8 0), .lit (.int .u8 0), .lit (.int .u8 0), .lit (.int .u8 0), .lit (.int .u8 0)], false⟩ := rfl
theorem T_149 : T.at 149 = ⟨.fn, 1, 8, [.lit .nilFunc], false⟩ := rfl
theorem T_150 : T.at 150 = ⟨.st [(0, 17), (1, 17), (2, 17), (3, 9)], 4, 40, [.lit (.pointer none), .lit (.pointer none), .lit (.pointer none), .lit (.string ByteArray.empty)], false⟩ := rfl
theorem T_151 : T.at 151 = ⟨.st [(0, 17), (1, 17), (2, 17), (3, 9)], 4, 40, [.lit (.pointer none), .lit (.pointer none), .lit (.pointer none), .lit (.string ByteArray.empty)], false⟩ := rfl
theorem T_152 : T.at 152 = ⟨.arr 0 16, 0, 0, [], false⟩ := rfl
theorem T_153 : T.at 153 = ⟨.st [(0, 152)], 0, 0, [], false⟩ := rfl
theorem T_154 : T.at 154 = ⟨.st [(0, 152)], 0, 0, [], false⟩ := rfl
theorem T_155 : T.at 155 = ⟨.fn, 1, 8, [.lit .nilFunc], false⟩ := rfl
theorem T_156 : T.at 156 = ⟨.int .u8, 1, 1, [.lit (.int .u8 0)], false⟩ := rfl
theorem T_157 : T.at 157 = ⟨.int .u8, 1, 1, [.lit (.int .u8 0)], false⟩ := rfl
theorem T_158 : T.at 158 = ⟨.fn, 1, 8, [.lit .nilFunc], false⟩ := rfl
theorem T_159 : T.at 159 = ⟨.ptr 5, 1, 8, [.lit (.pointer none)], false⟩ := rfl
theorem T_160 : T.at 160 = ⟨.int .i32, 1, 4, [.lit (.int .i32 0)], false⟩ := rfl
theorem T_161 : T.at 161 = ⟨.int .i32, 1, 4, [.lit (.int .i32 0)], false⟩ := rfl
theorem T_162 : T.at 162 = ⟨.st [(0, 12), (1, 12), (2, 134), (3, 156), (4, 5), (5, 5), (6, 157), (7, 158), (8, 159), (9, 160), (10, 161)], 11, 48, [.lit (.int .u64 0), .lit (.int .u64 0), .lit (.int .u32 0), .lit (.int .u8 0), .lit (.int .u8 0), .lit (.int .u8 0), .lit (.int .u8 0), .lit .nilFunc, .lit (.pointer none), .lit (.int .i32 0), .lit (.int .i32 0)], false⟩ := rfl
theorem T_163 : T.at 163 = ⟨.st [(0, 12), (1, 12), (2, 134), (3, 156), (4, 5), (5, 5), (6, 157), (7, 158), (8, 159), (9, 160), (10, 161)], 11, 48, [.lit (.int .u64 0), .lit (.int .u64 0), .lit (.int .u32 0), .lit (.int .u8 0), .lit (.int .u8 0), .lit (.int .u8 0), .lit (.int .u8 0), .lit .nilFunc, .lit (.pointer none), .lit (.int .i32 0), .lit (.int .i32 0)], false⟩ := rfl
theorem T_164 : T.at 164 = ⟨.other, 1, 8, [.lit (.pointer none)], false⟩ := rfl
attribute [go_sem] T_0 T_1 T_2 T_3 T_4 T_5 T_6 T_7 T_8 T_9 T_10 T_11 T_12 T_13 T_14 T_15 T_16 T_17 T_18 T_19 T_20 T_21 T_22 T_23 T_24 T_25 T_26 T_27 T_28 T_29 T_30 T_31 T_32 T_33 T_34 T_35 T_36 T_37 T_38 T_39 T_40 T_41 T_42 T_43 T_44 T_45 T_46 T_47 T_48 T_49 T_50 T_51 T_52 T_53 T_54 T_55 T_56 T_57 T_58 T_59 T_60 T_61 T_62 T_63 T_64 T_65 T_66 T_67 T_68 T_69 T_70 T_71 T_72 T_73 T_74 T_75 T_76 T_77 T_78 T_79 T_80 T_81 T_82 T_83 T_84 T_85 T_86 T_87 T_88 T_89 T_90 T_91 T_92 T_93 T_94 T_95 T_96 T_97 T_98 T_99 T_100 T_101 T_102 T_103 T_104 T_105 T_106 T_107 T_108 T_109 T_110 T_111 T_112 T_113 T_114 T_115 T_116 T_117 T_118 T_119 T_120 T_121 T_122 T_123 T_124 T_125 T_126 T_127 T_128 T_129 T_130 T_131 T_132 T_133 T_134 T_135 T_136 T_137 T_138 T_139 T_140 T_141 T_142 T_143 T_144 T_145 T_146 T_147 T_148 T_149 T_150 T_151 T_152 T_153 T_154 T_155 T_156 T_157 T_158 T_159 T_160 T_161 T_162 T_163 T_164
noncomputable def HL : List (Nat × FH) := [
  (5, { ok := true, mv := [18], sh := [7, 13, 19, 20, 24, 25, 36, 37, 42, 47, 48, 52, 69, 74] }),
  (10, { ok := true, mv := [5, 14], sh := [5, 6, 7, 8, 9, 10, 14, 15, 16, 17, 18, 19, 20, 21] }),
  (11, { ok := true, mv := [34, 39], sh := [4, 12, 13, 14, 19, 20, 21, 22, 23], heads := [(0, [9, 26, 27, 28])], outs := [(0, [9]), (1, [9, 26, 27, 28])] }),
  (13, { ok := true, mv := [11], sh := [12, 13, 14, 21, 23, 24] }),
  (15, { ok := true, sh := [5], heads := [(0, [0, 1, 12, 13])], outs := [(0, []), (1, [0, 1, 12, 13])] }),
  (16, { ok := true, sh := [5, 8, 12, 13] }),
  (18, { ok := true, mv := [7], heads := [(0, [1, 7, 8, 9])], outs := [(0, []), (1, [1, 7, 8, 9])] }),
  (20, { ok := true, sh := [5, 6] }),
  (21, { ok := true, sh := [9, 10, 17] }),
  (22, { ok := true, sh := [2, 8, 11], heads := [(0, [2, 3, 31, 32, 33]), (2, [2, 3, 62, 63, 64]), (4, [2, 3, 62, 63, 64, 104, 105, 106])], outs := [(0, [2, 3]), (1, [2, 3, 31, 32, 33]), (2, []), (3, [2, 3, 62, 63, 64]), (4, [2, 3, 62, 63, 64]), (5, [2, 3, 62, 63, 64, 104, 105, 106])] }),
  (23, { ok := true, sh := [31, 33], heads := [(0, [1, 8, 9, 10]), (2, [1, 4, 8, 9, 10, 18, 19, 20])], outs := [(0, []), (1, [1, 8, 9, 10]), (2, [1, 8, 9, 10]), (3, [1, 4, 8, 9, 10, 18, 19, 20])] }),
  (24, { ok := true, sh := [2, 5, 6, 7, 9] }),
  (25, { ok := true, sh := [1, 3, 4, 5] }),
  (26, { ok := true, sh := [14], heads := [(0, [3, 7, 8, 9])], outs := [(0, [3]), (1, [3, 7, 8, 9])] }),
  (27, { ok := true, mv := [26], nw := [10], heads := [(0, [3, 12, 13, 14]), (2, [26, 27, 28])], outs := [(0, [3]), (1, [3, 12, 13, 14]), (2, []), (3, [26, 27, 28])] }),
  (35, { ok := true, sh := [2, 9, 12, 41, 92, 104], heads := [(0, [2, 3, 5, 33, 34, 35]), (2, [2, 5, 60, 61, 62]), (4, [2, 5, 60, 61, 62, 97, 98, 99])], outs := [(0, [2, 3, 5]), (1, [2, 3, 5, 33, 34, 35]), (2, []), (3, [2, 5, 60, 61, 62]), (4, [2, 5, 60, 61, 62]), (5, [2, 5, 60, 61, 62, 97, 98, 99])] }),
  (46, { ok := true }),
  (47, { ok := true }),
  (48, { ok := true }),
  (49, { ok := true, sh := [7, 8, 12, 13] }),
  (50, { ok := true, mv := [32, 38, 39, 42, 81], nw := [19], sh := [28, 29, 30], heads := [(0, [1, 3, 5, 7, 8, 22, 23, 24]), (2, [3, 7, 8, 46, 47, 48]), (4, [3, 7, 8, 14, 46, 47, 48, 58, 59, 60])], outs := [(0, [1, 3, 5, 7, 8]), (1, [1, 3, 5, 7, 8, 22, 23, 24]), (2, [7]), (3, [3, 7, 8, 46, 47, 48]), (4, [3, 7, 8, 14, 46, 47, 48]), (5, [3, 7, 8, 14, 46, 47, 48, 58, 59, 60])] }),
  (51, { ok := true, mv := [27, 33], nw := [11], sh := [5, 7], heads := [(0, [5, 13, 14, 15])], outs := [(0, [5]), (1, [5, 13, 14, 15])] }),
  (53, { ok := true, mv := [15], sh := [16, 17, 22, 24, 25], heads := [(0, [2, 3, 5, 9, 10, 11])], outs := [(0, [2, 3, 5]), (1, [2, 3, 5, 9, 10, 11])] }),
  (54, { ok := true, mv := [20], nw := [8], heads := [(0, [3, 10, 11, 12])], outs := [(0, [3]), (1, [3, 10, 11, 12])] }),
  (55, { ok := true, sh := [5, 6], pu := false }),
  (56, { ok := true, pu := false }),
  (57, { ok := true, heads := [(0, [10, 11, 12])], outs := [(0, []), (1, [10, 11, 12])] }),
  (58, { ok := true, sh := [2, 3, 37, 38], heads := [(0, [2, 31, 32, 33])], outs := [(0, []), (1, [2, 31, 32, 33])] }),
  (59, { ok := true, sh := [19, 22], heads := [(0, [1, 5, 9, 10, 11])], outs := [(0, [5]), (1, [1, 5, 9, 10, 11])] }),
  (60, { ok := true, sh := [5, 6, 9, 10] }),
  (61, { ok := true, mv := [19, 30, 48, 51], sh := [21, 27, 28], heads := [(0, [1, 2, 3, 4, 6, 13, 14, 15])], outs := [(0, [2, 3, 4, 6]), (1, [1, 2, 3, 4, 6, 13, 14, 15])], pu := false }),
  (62, { ok := true, mv := [10, 16, 22], sh := [8, 19], heads := [(0, [5, 10, 11, 12])], outs := [(0, [5]), (1, [5, 10, 11, 12])] }),
  (63, { ok := true, mv := [7], sh := [13, 14], heads := [(0, [1, 7, 8, 9])], outs := [(0, []), (1, [1, 7, 8, 9])] }),
  (64, { ok := true, mv := [50, 85, 95, 98], nw := [19], sh := [6, 12, 110], heads := [(0, [1, 2, 4, 5, 6, 20, 21, 22]), (2, [1, 2, 4, 5, 6, 39, 40, 41]), (4, [1, 4, 5, 6, 60, 61, 62]), (6, [1, 4, 5, 6, 12, 13, 14, 60, 61, 62, 72, 73, 74])], outs := [(0, [1, 2, 4, 5, 6]), (1, [1, 2, 4, 5, 6, 20, 21, 22]), (2, [1, 2, 4, 5, 6]), (3, [1, 2, 4, 5, 6, 39, 40, 41]), (4, [4, 6]), (5, [1, 4, 5, 6, 60, 61, 62]), (6, [1, 4, 5, 6, 12, 13, 14, 60, 61, 62]), (7, [1, 4, 5, 6, 12, 13, 14, 60, 61, 62, 72, 73, 74])] }),
  (65, { ok := true, mv := [83], nw := [19], sh := [15], heads := [(0, [1, 3, 4, 21, 22, 23]), (2, [1, 3, 4, 7]), (4, [1, 3, 4, 7, 37, 38, 39]), (6, [1, 3, 4, 7, 9, 10, 37, 38, 39, 49, 50, 51]), (8, [1, 3, 4, 7, 10, 37, 38, 39, 64, 65, 66])], outs := [(0, [1, 3, 4]), (1, [1, 3, 4, 21, 22, 23]), (2, [4]), (3, [1, 3, 4, 7]), (4, [1, 3, 4, 7]), (5, [1, 3, 4, 7, 37, 38, 39]), (6, [1, 3, 4, 7, 9, 10, 37, 38, 39]), (7, [1, 3, 4, 7, 9, 10, 37, 38, 39, 49, 50, 51]), (8, [1, 3, 4, 7, 37, 38, 39]), (9, [1, 3, 4, 7, 10, 37, 38, 39, 64, 65, 66])] }),
  (74, { ok := true, sh := [9] }),
  (75, { ok := true, pu := false }),
  (79, { ok := true, mv := [50], nw := [12], heads := [(0, [1, 3, 4]), (2, [1, 3, 4, 15, 16, 17]), (4, [1, 3, 4, 6, 7, 15, 16, 17, 22, 23, 24])], outs := [(0, [3]), (1, [1, 3, 4]), (2, [1, 3, 4]), (3, [1, 3, 4, 15, 16, 17]), (4, [1, 3, 4, 6, 7, 15, 16, 17]), (5, [1, 3, 4, 6, 7, 15, 16, 17, 22, 23, 24])] }),
  (80, { ok := true, mv := [48], sh := [11, 35, 40, 43, 45], heads := [(0, [1, 2, 7, 13, 14, 15]), (2, [1, 2, 7, 9, 10, 11, 13, 14, 15])], outs := [(0, [7]), (1, [1, 2, 7, 13, 14, 15]), (2, [1, 2, 7, 9, 10, 13, 14, 15]), (3, [1, 2, 7, 9, 10, 11, 13, 14, 15])], fz := [7] }),
  (81, { ok := true, sh := [15], heads := [(0, [0, 1, 7, 8])], outs := [(0, []), (1, [0, 1, 7, 8])], pu := false }),
  (82, { ok := true, sh := [3, 4, 50, 51, 52], heads := [(0, [2, 3, 44, 45, 46])], outs := [(0, []), (1, [2, 3, 44, 45, 46])], pu := false }),
  (83, { ok := true, mv := [7], sh := [8, 9], ro := true, op := [0] }),
  (84, { ok := true, mv := [9, 51, 68], nw := [3, 54], sh := [3, 6, 27, 28, 29, 30, 44, 45, 46, 47], heads := [(0, [3, 9, 10, 11]), (2, [3, 5, 6, 7, 9, 10, 11])], outs := [(0, [3]), (1, [3, 9, 10, 11]), (2, [3, 5, 6, 9, 10, 11]), (3, [3, 5, 6, 7, 9, 10, 11])], pu := false }),
  (90, { ok := true }),
  (92, { ok := true, mv := [32, 41], sh := [0, 5], heads := [(0, [0, 1, 5])], outs := [(0, [0, 1, 5]), (1, [0, 1, 5])] }),
  (93, { ok := true, mv := [12, 17], sh := [18, 19], ro := true, op := [0] }),
  (94, { ok := true, mv := [40, 42], sh := [5], heads := [(0, [0, 1, 10, 11])], outs := [(0, [0, 1]), (1, [0, 1, 10, 11]), (2, [])] }),
  (95, { ok := true, sh := [1] }),
  (101, { ok := true, mv := [13, 24, 28, 29, 35], nw := [7, 21, 26], sh := [15, 18, 21, 22, 30, 31], ro := true, op := [0] }),
  (107, { ok := true }),
  (108, { ok := true, sh := [4, 5, 12] }),
  (109, { ok := true, mv := [162], sh := [0, 4, 8, 9, 10, 11, 14, 15, 16], heads := [(0, [0, 1, 4])], outs := [(0, [0, 1, 4]), (1, [0, 1, 4])], pu := false }),
  (110, { ok := true, mv := [95], sh := [33, 36], heads := [(0, [0, 1, 3, 4, 10, 11, 12, 13, 14, 15, 16]), (2, [0, 1, 3, 4, 10, 11, 12, 13, 17])], outs := [(0, [0, 1, 3, 4, 10, 11, 12, 13]), (1, [0, 1, 3, 4, 10, 11, 12, 13, 14, 15, 16]), (2, [0, 1, 3, 4, 10, 11, 12, 13]), (3, [0, 1, 3, 4, 10, 11, 12, 13, 17])], op := [0] }),
  (120, { ok := true }),
  (122, { ok := true }),
  (123, { ok := true }),
  (124, { ok := true }),
  (125, { ok := true, sh := [4, 6] }),
  (131, { ok := true }),
  (132, { ok := true })]
noncomputable def H : FuncId → FH := hOf HL
theorem H_5 : H 5 = { ok := true, mv := [18], sh := [7, 13, 19, 20, 24, 25, 36, 37, 42, 47, 48, 52, 69, 74] } := rfl
theorem H_10 : H 10 = { ok := true, mv := [5, 14], sh := [5, 6, 7, 8, 9, 10, 14, 15, 16, 17, 18, 19, 20, 21] } := rfl
theorem H_11 : H 11 = { ok := true, mv := [34, 39], sh := [4, 12, 13, 14, 19, 20, 21, 22, 23], heads := [(0, [9, 26, 27, 28])], outs := [(0, [9]), (1, [9, 26, 27, 28])] } := rfl
theorem H_13 : H 13 = { ok := true, mv := [11], sh := [12, 13, 14, 21, 23, 24] } := rfl
theorem H_15 : H 15 = { ok := true, sh := [5], heads := [(0, [0, 1, 12, 13])], outs := [(0, []), (1, [0, 1, 12, 13])] } := rfl
theorem H_16 : H 16 = { ok := true, sh := [5, 8, 12, 13] } := rfl
theorem H_18 : H 18 = { ok := true, mv := [7], heads := [(0, [1, 7, 8, 9])], outs := [(0, []), (1, [1, 7, 8, 9])] } := rfl
theorem H_20 : H 20 = { ok := true, sh := [5, 6] } := rfl
theorem H_21 : H 21 = { ok := true, sh := [9, 10, 17] } := rfl
theorem H_22 : H 22 = { ok := true, sh := [2, 8, 11], heads := [(0, [2, 3, 31, 32, 33]), (2, [2, 3, 62, 63, 64]), (4, [2, 3, 62, 63, 64, 104, 105, 106])], outs := [(0, [2, 3]), (1, [2, 3, 31, 32, 33]), (2, []), (3, [2, 3, 62, 63, 64]), (4, [2, 3, 62, 63, 64]), (5, [2, 3, 62, 63, 64, 104, 105, 106])] } := rfl
theorem H_23 : H 23 = { ok := true, sh := [31, 33], heads := [(0, [1, 8, 9, 10]), (2, [1, 4, 8, 9, 10, 18, 19, 20])], outs := [(0, []), (1, [1, 8, 9, 10]), (2, [1, 8, 9, 10]), (3, [1, 4, 8, 9, 10, 18, 19, 20])] } := rfl
theorem H_24 : H 24 = { ok := true, sh := [2, 5, 6, 7, 9] } := rfl
theorem H_25 : H 25 = { ok := true, sh := [1, 3, 4, 5] } := rfl
theorem H_26 : H 26 = { ok := true, sh := [14], heads := [(0, [3, 7, 8, 9])], outs := [(0, [3]), (1, [3, 7, 8, 9])] } := rfl
theorem H_27 : H 27 = { ok := true, mv := [26], nw := [10], heads := [(0, [3, 12, 13, 14]), (2, [26, 27, 28])], outs := [(0, [3]), (1, [3, 12, 13, 14]), (2, []), (3, [26, 27, 28])] } := rfl
theorem H_35 : H 35 = { ok := true, sh := [2, 9, 12, 41, 92, 104], heads := [(0, [2, 3, 5, 33, 34, 35]), (2, [2, 5, 60, 61, 62]), (4, [2, 5, 60, 61, 62, 97, 98, 99])], outs := [(0, [2, 3, 5]), (1, [2, 3, 5, 33, 34, 35]), (2, []), (3, [2, 5, 60, 61, 62]), (4, [2, 5, 60, 61, 62]), (5, [2, 5, 60, 61, 62, 97, 98, 99])] } := rfl
theorem H_46 : H 46 = { ok := true } := rfl
theorem H_47 : H 47 = { ok := true } := rfl
theorem H_48 : H 48 = { ok := true } := rfl
theorem H_49 : H 49 = { ok := true, sh := [7, 8, 12, 13] } := rfl
theorem H_50 : H 50 = { ok := true, mv := [32, 38, 39, 42, 81], nw := [19], sh := [28, 29, 30], heads := [(0, [1, 3, 5, 7, 8, 22, 23, 24]), (2, [3, 7, 8, 46, 47, 48]), (4, [3, 7, 8, 14, 46, 47, 48, 58, 59, 60])], outs := [(0, [1, 3, 5, 7, 8]), (1, [1, 3, 5, 7, 8, 22, 23, 24]), (2, [7]), (3, [3, 7, 8, 46, 47, 48]), (4, [3, 7, 8, 14, 46, 47, 48]), (5, [3, 7, 8, 14, 46, 47, 48, 58, 59, 60])] } := rfl
theorem H_51 : H 51 = { ok := true, mv := [27, 33], nw := [11], sh := [5, 7], heads := [(0, [5, 13, 14, 15])], outs := [(0, [5]), (1, [5, 13, 14, 15])] } := rfl
theorem H_53 : H 53 = { ok := true, mv := [15], sh := [16, 17, 22, 24, 25], heads := [(0, [2, 3, 5, 9, 10, 11])], outs := [(0, [2, 3, 5]), (1, [2, 3, 5, 9, 10, 11])] } := rfl
theorem H_54 : H 54 = { ok := true, mv := [20], nw := [8], heads := [(0, [3, 10, 11, 12])], outs := [(0, [3]), (1, [3, 10, 11, 12])] } := rfl
theorem H_55 : H 55 = { ok := true, sh := [5, 6], pu := false } := rfl
theorem H_56 : H 56 = { ok := true, pu := false } := rfl
theorem H_57 : H 57 = { ok := true, heads := [(0, [10, 11, 12])], outs := [(0, []), (1, [10, 11, 12])] } := rfl
theorem H_58 : H 58 = { ok := true, sh := [2, 3, 37, 38], heads := [(0, [2, 31, 32, 33])], outs := [(0, []), (1, [2, 31, 32, 33])] } := rfl
theorem H_59 : H 59 = { ok := true, sh := [19, 22], heads := [(0, [1, 5, 9, 10, 11])], outs := [(0, [5]), (1, [1, 5, 9, 10, 11])] } := rfl
theorem H_60 : H 60 = { ok := true, sh := [5, 6, 9, 10] } := rfl
theorem H_61 : H 61 = { ok := true, mv := [19, 30, 48, 51], sh := [21, 27, 28], heads := [(0, [1, 2, 3, 4, 6, 13, 14, 15])], outs := [(0, [2, 3, 4, 6]), (1, [1, 2, 3, 4, 6, 13, 14, 15])], pu := false } := rfl
theorem H_62 : H 62 = { ok := true, mv := [10, 16, 22], sh := [8, 19], heads := [(0, [5, 10, 11, 12])], outs := [(0, [5]), (1, [5, 10, 11, 12])] } := rfl
theorem H_63 : H 63 = { ok := true, mv := [7], sh := [13, 14], heads := [(0, [1, 7, 8, 9])], outs := [(0, []), (1, [1, 7, 8, 9])] } := rfl
theorem H_64 : H 64 = { ok := true, mv := [50, 85, 95, 98], nw := [19], sh := [6, 12, 110], heads := [(0, [1, 2, 4, 5, 6, 20, 21, 22]), (2, [1, 2, 4, 5, 6, 39, 40, 41]), (4, [1, 4, 5, 6, 60, 61, 62]), (6, [1, 4, 5, 6, 12, 13, 14, 60, 61, 62, 72, 73, 74])], outs := [(0, [1, 2, 4, 5, 6]), (1, [1, 2, 4, 5, 6, 20, 21, 22]), (2, [1, 2, 4, 5, 6]), (3, [1, 2, 4, 5, 6, 39, 40, 41]), (4, [4, 6]), (5, [1, 4, 5, 6, 60, 61, 62]), (6, [1, 4, 5, 6, 12, 13, 14, 60, 61, 62]), (7, [1, 4, 5, 6, 12, 13, 14, 60, 61, 62, 72, 73, 74])] } := rfl
theorem H_65 : H 65 = { ok := true, mv := [83], nw := [19], sh := [15], heads := [(0, [1, 3, 4, 21, 22, 23]), (2, [1, 3, 4, 7]), (4, [1, 3, 4, 7, 37, 38, 39]), (6, [1, 3, 4, 7, 9, 10, 37, 38, 39, 49, 50, 51]), (8, [1, 3, 4, 7, 10, 37, 38, 39, 64, 65, 66])], outs := [(0, [1, 3, 4]), (1, [1, 3, 4, 21, 22, 23]), (2, [4]), (3, [1, 3, 4, 7]), (4, [1, 3, 4, 7]), (5, [1, 3, 4, 7, 37, 38, 39]), (6, [1, 3, 4, 7, 9, 10, 37, 38, 39]), (7, [1, 3, 4, 7, 9, 10, 37, 38, 39, 49, 50, 51]), (8, [1, 3, 4, 7, 37, 38, 39]), (9, [1, 3, 4, 7, 10, 37, 38, 39, 64, 65, 66])] } := rfl
theorem H_74 : H 74 = { ok := true, sh := [9] } := rfl
theorem H_75 : H 75 = { ok := true, pu := false } := rfl
theorem H_79 : H 79 = { ok := true, mv := [50], nw := [12], heads := [(0, [1, 3, 4]), (2, [1, 3, 4, 15, 16, 17]), (4, [1, 3, 4, 6, 7, 15, 16, 17, 22, 23, 24])], outs := [(0, [3]), (1, [1, 3, 4]), (2, [1, 3, 4]), (3, [1, 3, 4, 15, 16, 17]), (4, [1, 3, 4, 6, 7, 15, 16, 17]), (5, [1, 3, 4, 6, 7, 15, 16, 17, 22, 23, 24])] } := rfl
theorem H_80 : H 80 = { ok := true, mv := [48], sh := [11, 35, 40, 43, 45], heads := [(0, [1, 2, 7, 13, 14, 15]), (2, [1, 2, 7, 9, 10, 11, 13, 14, 15])], outs := [(0, [7]), (1, [1, 2, 7, 13, 14, 15]), (2, [1, 2, 7, 9, 10, 13, 14, 15]), (3, [1, 2, 7, 9, 10, 11, 13, 14, 15])], fz := [7] } := rfl
theorem H_81 : H 81 = { ok := true, sh := [15], heads := [(0, [0, 1, 7, 8])], outs := [(0, []), (1, [0, 1, 7, 8])], pu := false } := rfl
theorem H_82 : H 82 = { ok := true, sh := [3, 4, 50, 51, 52], heads := [(0, [2, 3, 44, 45, 46])], outs := [(0, []), (1, [2, 3, 44, 45, 46])], pu := false } := rfl
theorem H_83 : H 83 = { ok := true, mv := [7], sh := [8, 9], ro := true, op := [0] } := rfl
theorem H_84 : H 84 = { ok := true, mv := [9, 51, 68], nw := [3, 54], sh := [3, 6, 27, 28, 29, 30, 44, 45, 46, 47], heads := [(0, [3, 9, 10, 11]), (2, [3, 5, 6, 7, 9, 10, 11])], outs := [(0, [3]), (1, [3, 9, 10, 11]), (2, [3, 5, 6, 9, 10, 11]), (3, [3, 5, 6, 7, 9, 10, 11])], pu := false } := rfl
theorem H_90 : H 90 = { ok := true } := rfl
theorem H_92 : H 92 = { ok := true, mv := [32, 41], sh := [0, 5], heads := [(0, [0, 1, 5])], outs := [(0, [0, 1, 5]), (1, [0, 1, 5])] } := rfl
theorem H_93 : H 93 = { ok := true, mv := [12, 17], sh := [18, 19], ro := true, op := [0] } := rfl
theorem H_94 : H 94 = { ok := true, mv := [40, 42], sh := [5], heads := [(0, [0, 1, 10, 11])], outs := [(0, [0, 1]), (1, [0, 1, 10, 11]), (2, [])] } := rfl
theorem H_95 : H 95 = { ok := true, sh := [1] } := rfl
theorem H_101 : H 101 = { ok := true, mv := [13, 24, 28, 29, 35], nw := [7, 21, 26], sh := [15, 18, 21, 22, 30, 31], ro := true, op := [0] } := rfl
theorem H_107 : H 107 = { ok := true } := rfl
theorem H_108 : H 108 = { ok := true, sh := [4, 5, 12] } := rfl
theorem H_109 : H 109 = { ok := true, mv := [162], sh := [0, 4, 8, 9, 10, 11, 14, 15, 16], heads := [(0, [0, 1, 4])], outs := [(0, [0, 1, 4]), (1, [0, 1, 4])], pu := false } := rfl
theorem H_110 : H 110 = { ok := true, mv := [95], sh := [33, 36], heads := [(0, [0, 1, 3, 4, 10, 11, 12, 13, 14, 15, 16]), (2, [0, 1, 3, 4, 10, 11, 12, 13, 17])], outs := [(0, [0, 1, 3, 4, 10, 11, 12, 13]), (1, [0, 1, 3, 4, 10, 11, 12, 13, 14, 15, 16]), (2, [0, 1, 3, 4, 10, 11, 12, 13]), (3, [0, 1, 3, 4, 10, 11, 12, 13, 17])], op := [0] } := rfl
theorem H_120 : H 120 = { ok := true } := rfl
theorem H_122 : H 122 = { ok := true } := rfl
theorem H_123 : H 123 = { ok := true } := rfl
theorem H_124 : H 124 = { ok := true } := rfl
theorem H_125 : H 125 = { ok := true, sh := [4, 6] } := rfl
theorem H_131 : H 131 = { ok := true } := rfl
theorem H_132 : H 132 = { ok := true } := rfl
attribute [go_sem] H_5 H_10 H_11 H_13 H_15 H_16 H_18 H_20 H_21 H_22 H_23 H_24 H_25 H_26 H_27 H_35 H_46 H_47 H_48 H_49 H_50 H_51 H_53 H_54 H_55 H_56 H_57 H_58 H_59 H_60 H_61 H_62 H_63 H_64 H_65 H_74 H_75 H_79 H_80 H_81 H_82 H_83 H_84 H_90 H_92 H_93 H_94 H_95 H_101 H_107 H_108 H_109 H_110 H_120 H_122 H_123 H_124 H_125 H_131 H_132
noncomputable def c5 : Code := Tryd.f5.body.getD .skip
theorem call5 (args : List AV) (σ : List AObj) : call Tryd.prog T H (.fn 5) args σ = run Tryd.prog T H 5 σ.length 0 c5 { env := envOf 0 args, σ := σ } (endK Tryd.prog T H 5 [.tmp 4] σ.length) :=
  call_fn Tryd.func5 rfl rfl rfl _ _
noncomputable def c10 : Code := Tryd.f10.body.getD .skip
theorem call10 (args : List AV) (σ : List AObj) : call Tryd.prog T H (.fn 10) args σ = run Tryd.prog T H 10 σ.length 0 c10 { env := envOf 0 args, σ := σ } (endK Tryd.prog T H 10 [.tmp 0] σ.length) :=
  call_fn Tryd.func10 rfl rfl rfl _ _
noncomputable def c11 : Code := Tryd.f11.body.getD .skip
theorem call11 (args : List AV) (σ : List AObj) : call Tryd.prog T H (.fn 11) args σ = run Tryd.prog T H 11 σ.length 0 c11 { env := envOf 0 args, σ := σ } (endK Tryd.prog T H 11 [.tmp 6, .tmp 7] σ.length) :=
  call_fn Tryd.func11 rfl rfl rfl _ _
noncomputable def L11_0 : Code := loopAt 0 c11
noncomputable def c13 : Code := Tryd.f13.body.getD .skip
theorem call13 (args : List AV) (σ : List AObj) : call Tryd.prog T H (.fn 13) args σ = run Tryd.prog T H 13 σ.length 0 c13 { env := envOf 0 args, σ := σ } (endK Tryd.prog T H 13 [.tmp 6, .tmp 7] σ.length) :=
  call_fn Tryd.func13 rfl rfl rfl _ _
noncomputable def c15 : Code := Tryd.f15.body.getD .skip
theorem call15 (args : List AV) (σ : List AObj) : call Tryd.prog T H (.fn 15) args σ = run Tryd.prog T H 15 σ.length 0 c15 { env := envOf 0 args, σ := σ } (endK Tryd.prog T H 15 [.tmp 4] σ.length) :=
  call_fn Tryd.func15 rfl rfl rfl _ _
noncomputable def L15_0 : Code := loopAt 0 c15
noncomputable def c16 : Code := Tryd.f16.body.getD .skip
theorem call16 (args : List AV) (σ : List AObj) : call Tryd.prog T H (.fn 16) args σ = run Tryd.prog T H 16 σ.length 0 c16 { env := envOf 0 args, σ := σ } (endK Tryd.prog T H 16 [.tmp 4] σ.length) :=
  call_fn Tryd.func16 rfl rfl rfl _ _
noncomputable def c18 : Code := Tryd.f18.body.getD .skip
theorem call18 (args : List AV) (σ : List AObj) : call Tryd.prog T H (.fn 18) args σ = run Tryd.prog T H 18 σ.length 0 c18 { env := envOf 0 args, σ := σ } (endK Tryd.prog T H 18 [.tmp 4] σ.length) :=
  call_fn Tryd.func18 rfl rfl rfl _ _
noncomputable def L18_0 : Code := loopAt 0 c18
noncomputable def c20 : Code := Tryd.f20.body.getD .skip
theorem call20 (args : List AV) (σ : List AObj) : call Tryd.prog T H (.fn 20) args σ = run Tryd.prog T H 20 σ.length 0 c20 { env := envOf 0 args, σ := σ } (endK Tryd.prog T H 20 [.tmp 4] σ.length) :=
  call_fn Tryd.func20 rfl rfl rfl _ _
noncomputable def c21 : Code := Tryd.f21.body.getD .skip
theorem call21 (args : List AV) (σ : List AObj) : call Tryd.prog T H (.fn 21) args σ = run Tryd.prog T H 21 σ.length 0 c21 { env := envOf 0 args, σ := σ } (endK Tryd.prog T H 21 [.cell 4 27, .tmp 5] σ.length) :=
  call_fn Tryd.func21 rfl rfl rfl _ _
noncomputable def c22 : Code := Tryd.f22.body.getD .skip
theorem call22 (args : List AV) (σ : List AObj) : call Tryd.prog T H (.fn 22) args σ = run Tryd.prog T H 22 σ.length 0 c22 { env := envOf 0 args, σ := σ } (endK Tryd.prog T H 22 [.tmp 4] σ.length) :=
  call_fn Tryd.func22 rfl rfl rfl _ _
noncomputable def L22_0 : Code := loopAt 0 c22
noncomputable def L22_2 : Code := loopAt 2 c22
noncomputable def L22_4 : Code := loopAt 4 c22
noncomputable def c23 : Code := Tryd.f23.body.getD .skip
theorem call23 (args : List AV) (σ : List AObj) : call Tryd.prog T H (.fn 23) args σ = run Tryd.prog T H 23 σ.length 0 c23 { env := envOf 0 args, σ := σ } (endK Tryd.prog T H 23 [.tmp 2] σ.length) :=
  call_fn Tryd.func23 rfl rfl rfl _ _
noncomputable def L23_0 : Code := loopAt 0 c23
noncomputable def L23_2 : Code := loopAt 2 c23
noncomputable def c24 : Code := Tryd.f24.body.getD .skip
theorem call24 (args : List AV) (σ : List AObj) : call Tryd.prog T H (.fn 24) args σ = run Tryd.prog T H 24 σ.length 0 c24 { env := envOf 0 args, σ := σ } (endK Tryd.prog T H 24 [.tmp 4] σ.length) :=
  call_fn Tryd.func24 rfl rfl rfl _ _
noncomputable def c25 : Code := Tryd.f25.body.getD .skip
theorem call25 (args : List AV) (σ : List AObj) : call Tryd.prog T H (.fn 25) args σ = run Tryd.prog T H 25 σ.length 0 c25 { env := envOf 0 args, σ := σ } (endK Tryd.prog T H 25 [.cell 2 27] σ.length) :=
  call_fn Tryd.func25 rfl rfl rfl _ _
noncomputable def c26 : Code := Tryd.f26.body.getD .skip
theorem call26 (args : List AV) (σ : List AObj) : call Tryd.prog T H (.fn 26) args σ = run Tryd.prog T H 26 σ.length 0 c26 { env := envOf 0 args, σ := σ } (endK Tryd.prog T H 26 [.tmp 2] σ.length) :=
  call_fn Tryd.func26 rfl rfl rfl _ _
noncomputable def L26_0 : Code := loopAt 0 c26
noncomputable def c27 : Code := Tryd.f27.body.getD .skip
theorem call27 (args : List AV) (σ : List AObj) : call Tryd.prog T H (.fn 27) args σ = run Tryd.prog T H 27 σ.length 0 c27 { env := envOf 0 args, σ := σ } (endK Tryd.prog T H 27 [.tmp 2] σ.length) :=
  call_fn Tryd.func27 rfl rfl rfl _ _
noncomputable def L27_0 : Code := loopAt 0 c27
noncomputable def L27_2 : Code := loopAt 2 c27
noncomputable def c35 : Code := Tryd.f35.body.getD .skip
theorem call35 (args : List AV) (σ : List AObj) : call Tryd.prog T H (.fn 35) args σ = run Tryd.prog T H 35 σ.length 0 c35 { env := envOf 0 args, σ := σ } (endK Tryd.prog T H 35 [.tmp 4] σ.length) :=
  call_fn Tryd.func35 rfl rfl rfl _ _
noncomputable def L35_0 : Code := loopAt 0 c35
noncomputable def L35_2 : Code := loopAt 2 c35
noncomputable def L35_4 : Code := loopAt 4 c35
noncomputable def c46 : Code := Tryd.f46.body.getD .skip
theorem call46 (args : List AV) (σ : List AObj) : call Tryd.prog T H (.fn 46) args σ = run Tryd.prog T H 46 σ.length 0 c46 { env := envOf 0 args, σ := σ } (endK Tryd.prog T H 46 [.cell 0 27] σ.length) :=
  call_fn Tryd.func46 rfl rfl rfl _ _
noncomputable def c47 : Code := Tryd.f47.body.getD .skip
theorem call47 (args : List AV) (σ : List AObj) : call Tryd.prog T H (.fn 47) args σ = run Tryd.prog T H 47 σ.length 0 c47 { env := envOf 0 args, σ := σ } (endK Tryd.prog T H 47 [.cell 4 30] σ.length) :=
  call_fn Tryd.func47 rfl rfl rfl _ _
noncomputable def c48 : Code := Tryd.f48.body.getD .skip
theorem call48 (args : List AV) (σ : List AObj) : call Tryd.prog T H (.fn 48) args σ = run Tryd.prog T H 48 σ.length 0 c48 { env := envOf 0 args, σ := σ } (endK Tryd.prog T H 48 [.cell 0 30] σ.length) :=
  call_fn Tryd.func48 rfl rfl rfl _ _
noncomputable def c49 : Code := Tryd.f49.body.getD .skip
theorem call49 (args : List AV) (σ : List AObj) : call Tryd.prog T H (.fn 49) args σ = run Tryd.prog T H 49 σ.length 0 c49 { env := envOf 0 args, σ := σ } (endK Tryd.prog T H 49 [.tmp 6] σ.length) :=
  call_fn Tryd.func49 rfl rfl rfl _ _
noncomputable def c50 : Code := Tryd.f50.body.getD .skip
theorem call50 (args : List AV) (σ : List AObj) : call Tryd.prog T H (.fn 50) args σ = run Tryd.prog T H 50 σ.length 0 c50 { env := envOf 0 args, σ := σ } (endK Tryd.prog T H 50 [.tmp 6] σ.length) :=
  call_fn Tryd.func50 rfl rfl rfl _ _
noncomputable def L50_0 : Code := loopAt 0 c50
noncomputable def L50_2 : Code := loopAt 2 c50
noncomputable def L50_4 : Code := loopAt 4 c50
noncomputable def c51 : Code := Tryd.f51.body.getD .skip
theorem call51 (args : List AV) (σ : List AObj) : call Tryd.prog T H (.fn 51) args σ = run Tryd.prog T H 51 σ.length 0 c51 { env := envOf 0 args, σ := σ } (endK Tryd.prog T H 51 [.tmp 4] σ.length) :=
  call_fn Tryd.func51 rfl rfl rfl _ _
noncomputable def L51_0 : Code := loopAt 0 c51
noncomputable def c53 : Code := Tryd.f53.body.getD .skip
theorem call53 (args : List AV) (σ : List AObj) : call Tryd.prog T H (.fn 53) args σ = run Tryd.prog T H 53 σ.length 0 c53 { env := envOf 0 args, σ := σ } (endK Tryd.prog T H 53 [.tmp 4] σ.length) :=
  call_fn Tryd.func53 rfl rfl rfl _ _
noncomputable def L53_0 : Code := loopAt 0 c53
noncomputable def c54 : Code := Tryd.f54.body.getD .skip
theorem call54 (args : List AV) (σ : List AObj) : call Tryd.prog T H (.fn 54) args σ = run Tryd.prog T H 54 σ.length 0 c54 { env := envOf 0 args, σ := σ } (endK Tryd.prog T H 54 [.tmp 2] σ.length) :=
  call_fn Tryd.func54 rfl rfl rfl _ _
noncomputable def L54_0 : Code := loopAt 0 c54
noncomputable def c55 : Code := Tryd.f55.body.getD .skip
theorem call55 (args : List AV) (σ : List AObj) : call Tryd.prog T H (.fn 55) args σ = run Tryd.prog T H 55 σ.length 0 c55 { env := envOf 0 args, σ := σ } (endK Tryd.prog T H 55 [.tmp 4] σ.length) :=
  call_fn Tryd.func55 rfl rfl rfl _ _
noncomputable def c56 : Code := Tryd.f56.body.getD .skip
theorem call56 (args : List AV) (σ : List AObj) : call Tryd.prog T H (.fn 56) args σ = run Tryd.prog T H 56 σ.length 0 c56 { env := envOf 0 args, σ := σ } (endK Tryd.prog T H 56 [.tmp 3] σ.length) :=
  call_fn Tryd.func56 rfl rfl rfl _ _
noncomputable def c57 : Code := Tryd.f57.body.getD .skip
theorem call57 (args : List AV) (σ : List AObj) : call Tryd.prog T H (.fn 57) args σ = run Tryd.prog T H 57 σ.length 0 c57 { env := envOf 0 args, σ := σ } (endK Tryd.prog T H 57 [.tmp 2] σ.length) :=
  call_fn Tryd.func57 rfl rfl rfl _ _
noncomputable def L57_0 : Code := loopAt 0 c57
noncomputable def c58 : Code := Tryd.f58.body.getD .skip
theorem call58 (args : List AV) (σ : List AObj) : call Tryd.prog T H (.fn 58) args σ = run Tryd.prog T H 58 σ.length 0 c58 { env := envOf 0 args, σ := σ } (endK Tryd.prog T H 58 [.tmp 4] σ.length) :=
  call_fn Tryd.func58 rfl rfl rfl _ _
noncomputable def L58_0 : Code := loopAt 0 c58
noncomputable def c59 : Code := Tryd.f59.body.getD .skip
theorem call59 (args : List AV) (σ : List AObj) : call Tryd.prog T H (.fn 59) args σ = run Tryd.prog T H 59 σ.length 0 c59 { env := envOf 0 args, σ := σ } (endK Tryd.prog T H 59 [.tmp 4] σ.length) :=
  call_fn Tryd.func59 rfl rfl rfl _ _
noncomputable def L59_0 : Code := loopAt 0 c59
noncomputable def c60 : Code := Tryd.f60.body.getD .skip
theorem call60 (args : List AV) (σ : List AObj) : call Tryd.prog T H (.fn 60) args σ = run Tryd.prog T H 60 σ.length 0 c60 { env := envOf 0 args, σ := σ } (endK Tryd.prog T H 60 [.tmp 4] σ.length) :=
  call_fn Tryd.func60 rfl rfl rfl _ _
noncomputable def c61 : Code := Tryd.f61.body.getD .skip
theorem call61 (args : List AV) (σ : List AObj) : call Tryd.prog T H (.fn 61) args σ = run Tryd.prog T H 61 σ.length 0 c61 { env := envOf 0 args, σ := σ } (endK Tryd.prog T H 61 [.tmp 5] σ.length) :=
  call_fn Tryd.func61 rfl rfl rfl _ _
noncomputable def L61_0 : Code := loopAt 0 c61
noncomputable def c62 : Code := Tryd.f62.body.getD .skip
theorem call62 (args : List AV) (σ : List AObj) : call Tryd.prog T H (.fn 62) args σ = run Tryd.prog T H 62 σ.length 0 c62 { env := envOf 0 args, σ := σ } (endK Tryd.prog T H 62 [.tmp 4] σ.length) :=
  call_fn Tryd.func62 rfl rfl rfl _ _
noncomputable def L62_0 : Code := loopAt 0 c62
noncomputable def c63 : Code := Tryd.f63.body.getD .skip
theorem call63 (args : List AV) (σ : List AObj) : call Tryd.prog T H (.fn 63) args σ = run Tryd.prog T H 63 σ.length 0 c63 { env := envOf 0 args, σ := σ } (endK Tryd.prog T H 63 [.tmp 4] σ.length) :=
  call_fn Tryd.func63 rfl rfl rfl _ _
noncomputable def L63_0 : Code := loopAt 0 c63
noncomputable def c64 : Code := Tryd.f64.body.getD .skip
theorem call64 (args : List AV) (σ : List AObj) : call Tryd.prog T H (.fn 64) args σ = run Tryd.prog T H 64 σ.length 0 c64 { env := envOf 0 args, σ := σ } (endK Tryd.prog T H 64 [.cell 4 27] σ.length) :=
  call_fn Tryd.func64 rfl rfl rfl _ _
noncomputable def L64_0 : Code := loopAt 0 c64
noncomputable def L64_2 : Code := loopAt 2 c64
noncomputable def L64_4 : Code := loopAt 4 c64
noncomputable def L64_6 : Code := loopAt 6 c64
noncomputable def c65 : Code := Tryd.f65.body.getD .skip
theorem call65 (args : List AV) (σ : List AObj) : call Tryd.prog T H (.fn 65) args σ = run Tryd.prog T H 65 σ.length 0 c65 { env := envOf 0 args, σ := σ } (endK Tryd.prog T H 65 [.tmp 2] σ.length) :=
  call_fn Tryd.func65 rfl rfl rfl _ _
noncomputable def L65_0 : Code := loopAt 0 c65
noncomputable def L65_2 : Code := loopAt 2 c65
noncomputable def L65_4 : Code := loopAt 4 c65
noncomputable def L65_6 : Code := loopAt 6 c65
noncomputable def L65_8 : Code := loopAt 8 c65
noncomputable def c74 : Code := Tryd.f74.body.getD .skip
theorem call74 (args : List AV) (σ : List AObj) : call Tryd.prog T H (.fn 74) args σ = run Tryd.prog T H 74 σ.length 0 c74 { env := envOf 0 args, σ := σ } (endK Tryd.prog T H 74 [.tmp 2] σ.length) :=
  call_fn Tryd.func74 rfl rfl rfl _ _
noncomputable def c75 : Code := Tryd.f75.body.getD .skip
theorem call75 (args : List AV) (σ : List AObj) : call Tryd.prog T H (.fn 75) args σ = run Tryd.prog T H 75 σ.length 0 c75 { env := envOf 0 args, σ := σ } (endK Tryd.prog T H 75 [.tmp 3] σ.length) :=
  call_fn Tryd.func75 rfl rfl rfl _ _
noncomputable def c79 : Code := Tryd.f79.body.getD .skip
theorem call79 (args : List AV) (σ : List AObj) : call Tryd.prog T H (.fn 79) args σ = run Tryd.prog T H 79 σ.length 0 c79 { env := envOf 0 args, σ := σ } (endK Tryd.prog T H 79 [.tmp 2] σ.length) :=
  call_fn Tryd.func79 rfl rfl rfl _ _
noncomputable def L79_0 : Code := loopAt 0 c79
noncomputable def L79_2 : Code := loopAt 2 c79
noncomputable def L79_4 : Code := loopAt 4 c79
noncomputable def c80 : Code := Tryd.f80.body.getD .skip
theorem call80 (args : List AV) (σ : List AObj) : call Tryd.prog T H (.fn 80) args σ = run Tryd.prog T H 80 σ.length 0 c80 { env := envOf 0 args, σ := σ } (endK Tryd.prog T H 80 [.tmp 6] σ.length) :=
  call_fn Tryd.func80 rfl rfl rfl _ _
noncomputable def L80_0 : Code := loopAt 0 c80
noncomputable def L80_2 : Code := loopAt 2 c80
noncomputable def c81 : Code := Tryd.f81.body.getD .skip
theorem call81 (args : List AV) (σ : List AObj) : call Tryd.prog T H (.fn 81) args σ = run Tryd.prog T H 81 σ.length 0 c81 { env := envOf 0 args, σ := σ } (endK Tryd.prog T H 81 [.tmp 4] σ.length) :=
  call_fn Tryd.func81 rfl rfl rfl _ _
noncomputable def L81_0 : Code := loopAt 0 c81
noncomputable def c82 : Code := Tryd.f82.body.getD .skip
theorem call82 (args : List AV) (σ : List AObj) : call Tryd.prog T H (.fn 82) args σ = run Tryd.prog T H 82 σ.length 0 c82 { env := envOf 0 args, σ := σ } (endK Tryd.prog T H 82 [.tmp 6] σ.length) :=
  call_fn Tryd.func82 rfl rfl rfl _ _
noncomputable def L82_0 : Code := loopAt 0 c82
noncomputable def c83 : Code := Tryd.f83.body.getD .skip
theorem call83 (args : List AV) (σ : List AObj) : call Tryd.prog T H (.fn 83) args σ = run Tryd.prog T H 83 σ.length 0 c83 { env := envOf 0 args, σ := σ } (endK Tryd.prog T H 83 [.tmp 6] σ.length) :=
  call_fn Tryd.func83 rfl rfl rfl _ _
noncomputable def c84 : Code := Tryd.f84.body.getD .skip
theorem call84 (args : List AV) (σ : List AObj) : call Tryd.prog T H (.fn 84) args σ = run Tryd.prog T H 84 σ.length 0 c84 { env := envOf 0 args, σ := σ } (endK Tryd.prog T H 84 [.tmp 2] σ.length) :=
  call_fn Tryd.func84 rfl rfl rfl _ _
noncomputable def L84_0 : Code := loopAt 0 c84
noncomputable def L84_2 : Code := loopAt 2 c84
noncomputable def c90 : Code := Tryd.f90.body.getD .skip
theorem call90 (args : List AV) (σ : List AObj) : call Tryd.prog T H (.fn 90) args σ = run Tryd.prog T H 90 σ.length 0 c90 { env := envOf 0 args, σ := σ } (endK Tryd.prog T H 90 [.tmp 2] σ.length) :=
  call_fn Tryd.func90 rfl rfl rfl _ _
noncomputable def c92 : Code := Tryd.f92.body.getD .skip
theorem call92 (args : List AV) (σ : List AObj) : call Tryd.prog T H (.fn 92) args σ = run Tryd.prog T H 92 σ.length 0 c92 { env := envOf 0 args, σ := σ } (endK Tryd.prog T H 92 [.tmp 4] σ.length) :=
  call_fn Tryd.func92 rfl rfl rfl _ _
noncomputable def L92_0 : Code := loopAt 0 c92
noncomputable def c93 : Code := Tryd.f93.body.getD .skip
theorem call93 (args : List AV) (σ : List AObj) : call Tryd.prog T H (.fn 93) args σ = run Tryd.prog T H 93 σ.length 0 c93 { env := envOf 0 args, σ := σ } (endK Tryd.prog T H 93 [.tmp 6] σ.length) :=
  call_fn Tryd.func93 rfl rfl rfl _ _
noncomputable def c94 : Code := Tryd.f94.body.getD .skip
theorem call94 (args : List AV) (σ : List AObj) : call Tryd.prog T H (.fn 94) args σ = run Tryd.prog T H 94 σ.length 0 c94 { env := envOf 0 args, σ := σ } (endK Tryd.prog T H 94 [.tmp 4] σ.length) :=
  call_fn Tryd.func94 rfl rfl rfl _ _
noncomputable def L94_0 : Code := loopAt 0 c94
noncomputable def c95 : Code := Tryd.f95.body.getD .skip
theorem call95 (args : List AV) (σ : List AObj) : call Tryd.prog T H (.fn 95) args σ = run Tryd.prog T H 95 σ.length 0 c95 { env := envOf 0 args, σ := σ } (endK Tryd.prog T H 95 [.tmp 2] σ.length) :=
  call_fn Tryd.func95 rfl rfl rfl _ _
noncomputable def c101 : Code := Tryd.f101.body.getD .skip
theorem call101 (args : List AV) (σ : List AObj) : call Tryd.prog T H (.fn 101) args σ = run Tryd.prog T H 101 σ.length 0 c101 { env := envOf 0 args, σ := σ } (endK Tryd.prog T H 101 [.tmp 6] σ.length) :=
  call_fn Tryd.func101 rfl rfl rfl _ _
noncomputable def c107 : Code := Tryd.f107.body.getD .skip
theorem call107 (args : List AV) (σ : List AObj) : call Tryd.prog T H (.fn 107) args σ = run Tryd.prog T H 107 σ.length 0 c107 { env := envOf 0 args, σ := σ } (endK Tryd.prog T H 107 [.tmp 2] σ.length) :=
  call_fn Tryd.func107 rfl rfl rfl _ _
noncomputable def c108 : Code := Tryd.f108.body.getD .skip
theorem call108 (args : List AV) (σ : List AObj) : call Tryd.prog T H (.fn 108) args σ = run Tryd.prog T H 108 σ.length 0 c108 { env := envOf 0 args, σ := σ } (endK Tryd.prog T H 108 [.tmp 2] σ.length) :=
  call_fn Tryd.func108 rfl rfl rfl _ _
noncomputable def c109 : Code := Tryd.f109.body.getD .skip
theorem call109 (args : List AV) (σ : List AObj) : call Tryd.prog T H (.fn 109) args σ = run Tryd.prog T H 109 σ.length 0 c109 { env := envOf 0 args, σ := σ } (endK Tryd.prog T H 109 [] σ.length) :=
  call_fn Tryd.func109 rfl rfl rfl _ _
noncomputable def L109_0 : Code := loopAt 0 c109
noncomputable def c110 : Code := Tryd.f110.body.getD .skip
theorem call110 (args : List AV) (σ : List AObj) : call Tryd.prog T H (.fn 110) args σ = run Tryd.prog T H 110 σ.length 0 c110 { env := envOf 0 args, σ := σ } (endK Tryd.prog T H 110 [.tmp 10, .tmp 11] σ.length) :=
  call_fn Tryd.func110 rfl rfl rfl _ _
noncomputable def L110_0 : Code := loopAt 0 c110
noncomputable def L110_2 : Code := loopAt 2 c110
noncomputable def c120 : Code := Tryd.f120.body.getD .skip
theorem call120 (args : List AV) (σ : List AObj) : call Tryd.prog T H (.fn 120) args σ = run Tryd.prog T H 120 σ.length 0 c120 { env := envOf 0 args, σ := σ } (endK Tryd.prog T H 120 [.tmp 2] σ.length) :=
  call_fn Tryd.func120 rfl rfl rfl _ _
noncomputable def c122 : Code := Tryd.f122.body.getD .skip
theorem call122 (args : List AV) (σ : List AObj) : call Tryd.prog T H (.fn 122) args σ = run Tryd.prog T H 122 σ.length 0 c122 { env := envOf 0 args, σ := σ } (endK Tryd.prog T H 122 [.tmp 2] σ.length) :=
  call_fn Tryd.func122 rfl rfl rfl _ _
noncomputable def c123 : Code := Tryd.f123.body.getD .skip
theorem call123 (args : List AV) (σ : List AObj) : call Tryd.prog T H (.fn 123) args σ = run Tryd.prog T H 123 σ.length 0 c123 { env := envOf 0 args, σ := σ } (endK Tryd.prog T H 123 [.tmp 2] σ.length) :=
  call_fn Tryd.func123 rfl rfl rfl _ _
noncomputable def c124 : Code := Tryd.f124.body.getD .skip
theorem call124 (args : List AV) (σ : List AObj) : call Tryd.prog T H (.fn 124) args σ = run Tryd.prog T H 124 σ.length 0 c124 { env := envOf 0 args, σ := σ } (endK Tryd.prog T H 124 [.tmp 2] σ.length) :=
  call_fn Tryd.func124 rfl rfl rfl _ _
noncomputable def c125 : Code := Tryd.f125.body.getD .skip
theorem call125 (args : List AV) (σ : List AObj) : call Tryd.prog T H (.fn 125) args σ = run Tryd.prog T H 125 σ.length 0 c125 { env := envOf 0 args, σ := σ } (endK Tryd.prog T H 125 [.tmp 2] σ.length) :=
  call_fn Tryd.func125 rfl rfl rfl _ _
noncomputable def c131 : Code := Tryd.f131.body.getD .skip
theorem call131 (args : List AV) (σ : List AObj) : call Tryd.prog T H (.fn 131) args σ = run Tryd.prog T H 131 σ.length 0 c131 { env := envOf 0 args, σ := σ } (endK Tryd.prog T H 131 [.tmp 2] σ.length) :=
  call_fn Tryd.func131 rfl rfl rfl _ _
noncomputable def c132 : Code := Tryd.f132.body.getD .skip
theorem call132 (args : List AV) (σ : List AObj) : call Tryd.prog T H (.fn 132) args σ = run Tryd.prog T H 132 σ.length 0 c132 { env := envOf 0 args, σ := σ } (endK Tryd.prog T H 132 [.tmp 2] σ.length) :=
  call_fn Tryd.func132 rfl rfl rfl _ _
theorem ck_5 : fnCheck Tryd.prog H (5, { ok := true, mv := [18], sh := [7, 13, 19, 20, 24, 25, 36, 37, 42, 47, 48, 52, 69, 74] }) = true := by kernel_rfl
theorem ck_10 : fnCheck Tryd.prog H (10, { ok := true, mv := [5, 14], sh := [5, 6, 7, 8, 9, 10, 14, 15, 16, 17, 18, 19, 20, 21] }) = true := by kernel_rfl
theorem ck_11 : fnCheck Tryd.prog H (11, { ok := true, mv := [34, 39], sh := [4, 12, 13, 14, 19, 20, 21, 22, 23], heads := [(0, [9, 26, 27, 28])], outs := [(0, [9]), (1, [9, 26, 27, 28])] }) = true := by kernel_rfl
theorem ck_13 : fnCheck Tryd.prog H (13, { ok := true, mv := [11], sh := [12, 13, 14, 21, 23, 24] }) = true := by kernel_rfl
theorem ck_15 : fnCheck Tryd.prog H (15, { ok := true, sh := [5], heads := [(0, [0, 1, 12, 13])], outs := [(0, []), (1, [0, 1, 12, 13])] }) = true := by kernel_rfl
theorem ck_16 : fnCheck Tryd.prog H (16, { ok := true, sh := [5, 8, 12, 13] }) = true := by kernel_rfl
theorem ck_18 : fnCheck Tryd.prog H (18, { ok := true, mv := [7], heads := [(0, [1, 7, 8, 9])], outs := [(0, []), (1, [1, 7, 8, 9])] }) = true := by kernel_rfl
theorem ck_20 : fnCheck Tryd.prog H (20, { ok := true, sh := [5, 6] }) = true := by kernel_rfl
theorem ck_21 : fnCheck Tryd.prog H (21, { ok := true, sh := [9, 10, 17] }) = true := by kernel_rfl
theorem ck_22 : fnCheck Tryd.prog H (22, { ok := true, sh := [2, 8, 11], heads := [(0, [2, 3, 31, 32, 33]), (2, [2, 3, 62, 63, 64]), (4, [2, 3, 62, 63, 64, 104, 105, 106])], outs := [(0, [2, 3]), (1, [2, 3, 31, 32, 33]), (2, []), (3, [2, 3, 62, 63, 64]), (4, [2, 3, 62, 63, 64]), (5, [2, 3, 62, 63, 64, 104, 105, 106])] }) = true := by kernel_rfl
theorem ck_23 : fnCheck Tryd.prog H (23, { ok := true, sh := [31, 33], heads := [(0, [1, 8, 9, 10]), (2, [1, 4, 8, 9, 10, 18, 19, 20])], outs := [(0, []), (1, [1, 8, 9, 10]), (2, [1, 8, 9, 10]), (3, [1, 4, 8, 9, 10, 18, 19, 20])] }) = true := by kernel_rfl
theorem ck_24 : fnCheck Tryd.prog H (24, { ok := true, sh := [2, 5, 6, 7, 9] }) = true := by kernel_rfl
theorem ck_25 : fnCheck Tryd.prog H (25, { ok := true, sh := [1, 3, 4, 5] }) = true := by kernel_rfl
theorem ck_26 : fnCheck Tryd.prog H (26, { ok := true, sh := [14], heads := [(0, [3, 7, 8, 9])], outs := [(0, [3]), (1, [3, 7, 8, 9])] }) = true := by kernel_rfl
theorem ck_27 : fnCheck Tryd.prog H (27, { ok := true, mv := [26], nw := [10], heads := [(0, [3, 12, 13, 14]), (2, [26, 27, 28])], outs := [(0, [3]), (1, [3, 12, 13, 14]), (2, []), (3, [26, 27, 28])] }) = true := by kernel_rfl
theorem ck_35 : fnCheck Tryd.prog H (35, { ok := true, sh := [2, 9, 12, 41, 92, 104], heads := [(0, [2, 3, 5, 33, 34, 35]), (2, [2, 5, 60, 61, 62]), (4, [2, 5, 60, 61, 62, 97, 98, 99])], outs := [(0, [2, 3, 5]), (1, [2, 3, 5, 33, 34, 35]), (2, []), (3, [2, 5, 60, 61, 62]), (4, [2, 5, 60, 61, 62]), (5, [2, 5, 60, 61, 62, 97, 98, 99])] }) = true := by kernel_rfl
theorem ck_46 : fnCheck Tryd.prog H (46, { ok := true }) = true := by kernel_rfl
theorem ck_47 : fnCheck Tryd.prog H (47, { ok := true }) = true := by kernel_rfl
theorem ck_48 : fnCheck Tryd.prog H (48, { ok := true }) = true := by kernel_rfl
theorem ck_49 : fnCheck Tryd.prog H (49, { ok := true, sh := [7, 8, 12, 13] }) = true := by kernel_rfl
theorem ck_50 : fnCheck Tryd.prog H (50, { ok := true, mv := [32, 38, 39, 42, 81], nw := [19], sh := [28, 29, 30], heads := [(0, [1, 3, 5, 7, 8, 22, 23, 24]), (2, [3, 7, 8, 46, 47, 48]), (4, [3, 7, 8, 14, 46, 47, 48, 58, 59, 60])], outs := [(0, [1, 3, 5, 7, 8]), (1, [1, 3, 5, 7, 8, 22, 23, 24]), (2, [7]), (3, [3, 7, 8, 46, 47, 48]), (4, [3, 7, 8, 14, 46, 47, 48]), (5, [3, 7, 8, 14, 46, 47, 48, 58, 59, 60])] }) = true := by kernel_rfl
theorem ck_51 : fnCheck Tryd.prog H (51, { ok := true, mv := [27, 33], nw := [11], sh := [5, 7], heads := [(0, [5, 13, 14, 15])], outs := [(0, [5]), (1, [5, 13, 14, 15])] }) = true := by kernel_rfl
theorem ck_53 : fnCheck Tryd.prog H (53, { ok := true, mv := [15], sh := [16, 17, 22, 24, 25], heads := [(0, [2, 3, 5, 9, 10, 11])], outs := [(0, [2, 3, 5]), (1, [2, 3, 5, 9, 10, 11])] }) = true := by kernel_rfl
theorem ck_54 : fnCheck Tryd.prog H (54, { ok := true, mv := [20], nw := [8], heads := [(0, [3, 10, 11, 12])], outs := [(0, [3]), (1, [3, 10, 11, 12])] }) = true := by kernel_rfl
theorem ck_55 : fnCheck Tryd.prog H (55, { ok := true, sh := [5, 6], pu := false }) = true := by kernel_rfl
theorem ck_56 : fnCheck Tryd.prog H (56, { ok := true, pu := false }) = true := by kernel_rfl
theorem ck_57 : fnCheck Tryd.prog H (57, { ok := true, heads := [(0, [10, 11, 12])], outs := [(0, []), (1, [10, 11, 12])] }) = true := by kernel_rfl
theorem ck_58 : fnCheck Tryd.prog H (58, { ok := true, sh := [2, 3, 37, 38], heads := [(0, [2, 31, 32, 33])], outs := [(0, []), (1, [2, 31, 32, 33])] }) = true := by kernel_rfl
theorem ck_59 : fnCheck Tryd.prog H (59, { ok := true, sh := [19, 22], heads := [(0, [1, 5, 9, 10, 11])], outs := [(0, [5]), (1, [1, 5, 9, 10, 11])] }) = true := by kernel_rfl
theorem ck_60 : fnCheck Tryd.prog H (60, { ok := true, sh := [5, 6, 9, 10] }) = true := by kernel_rfl
theorem ck_61 : fnCheck Tryd.prog H (61, { ok := true, mv := [19, 30, 48, 51], sh := [21, 27, 28], heads := [(0, [1, 2, 3, 4, 6, 13, 14, 15])], outs := [(0, [2, 3, 4, 6]), (1, [1, 2, 3, 4, 6, 13, 14, 15])], pu := false }) = true := by kernel_rfl
theorem ck_62 : fnCheck Tryd.prog H (62, { ok := true, mv := [10, 16, 22], sh := [8, 19], heads := [(0, [5, 10, 11, 12])], outs := [(0, [5]), (1, [5, 10, 11, 12])] }) = true := by kernel_rfl
theorem ck_63 : fnCheck Tryd.prog H (63, { ok := true, mv := [7], sh := [13, 14], heads := [(0, [1, 7, 8, 9])], outs := [(0, []), (1, [1, 7, 8, 9])] }) = true := by kernel_rfl
theorem ck_64 : fnCheck Tryd.prog H (64, { ok := true, mv := [50, 85, 95, 98], nw := [19], sh := [6, 12, 110], heads := [(0, [1, 2, 4, 5, 6, 20, 21, 22]), (2, [1, 2, 4, 5, 6, 39, 40, 41]), (4, [1, 4, 5, 6, 60, 61, 62]), (6, [1, 4, 5, 6, 12, 13, 14, 60, 61, 62, 72, 73, 74])], outs := [(0, [1, 2, 4, 5, 6]), (1, [1, 2, 4, 5, 6, 20, 21, 22]), (2, [1, 2, 4, 5, 6]), (3, [1, 2, 4, 5, 6, 39, 40, 41]), (4, [4, 6]), (5, [1, 4, 5, 6, 60, 61, 62]), (6, [1, 4, 5, 6, 12, 13, 14, 60, 61, 62]), (7, [1, 4, 5, 6, 12, 13, 14, 60, 61, 62, 72, 73, 74])] }) = true := by kernel_rfl
theorem ck_65 : fnCheck Tryd.prog H (65, { ok := true, mv := [83], nw := [19], sh := [15], heads := [(0, [1, 3, 4, 21, 22, 23]), (2, [1, 3, 4, 7]), (4, [1, 3, 4, 7, 37, 38, 39]), (6, [1, 3, 4, 7, 9, 10, 37, 38, 39, 49, 50, 51]), (8, [1, 3, 4, 7, 10, 37, 38, 39, 64, 65, 66])], outs := [(0, [1, 3, 4]), (1, [1, 3, 4, 21, 22, 23]), (2, [4]), (3, [1, 3, 4, 7]), (4, [1, 3, 4, 7]), (5, [1, 3, 4, 7, 37, 38, 39]), (6, [1, 3, 4, 7, 9, 10, 37, 38, 39]), (7, [1, 3, 4, 7, 9, 10, 37, 38, 39, 49, 50, 51]), (8, [1, 3, 4, 7, 37, 38, 39]), (9, [1, 3, 4, 7, 10, 37, 38, 39, 64, 65, 66])] }) = true := by kernel_rfl
theorem ck_74 : fnCheck Tryd.prog H (74, { ok := true, sh := [9] }) = true := by kernel_rfl
theorem ck_75 : fnCheck Tryd.prog H (75, { ok := true, pu := false }) = true := by kernel_rfl
theorem ck_79 : fnCheck Tryd.prog H (79, { ok := true, mv := [50], nw := [12], heads := [(0, [1, 3, 4]), (2, [1, 3, 4, 15, 16, 17]), (4, [1, 3, 4, 6, 7, 15, 16, 17, 22, 23, 24])], outs := [(0, [3]), (1, [1, 3, 4]), (2, [1, 3, 4]), (3, [1, 3, 4, 15, 16, 17]), (4, [1, 3, 4, 6, 7, 15, 16, 17]), (5, [1, 3, 4, 6, 7, 15, 16, 17, 22, 23, 24])] }) = true := by kernel_rfl
theorem ck_80 : fnCheck Tryd.prog H (80, { ok := true, mv := [48], sh := [11, 35, 40, 43, 45], heads := [(0, [1, 2, 7, 13, 14, 15]), (2, [1, 2, 7, 9, 10, 11, 13, 14, 15])], outs := [(0, [7]), (1, [1, 2, 7, 13, 14, 15]), (2, [1, 2, 7, 9, 10, 13, 14, 15]), (3, [1, 2, 7, 9, 10, 11, 13, 14, 15])], fz := [7] }) = true := by kernel_rfl
theorem ck_81 : fnCheck Tryd.prog H (81, { ok := true, sh := [15], heads := [(0, [0, 1, 7, 8])], outs := [(0, []), (1, [0, 1, 7, 8])], pu := false }) = true := by kernel_rfl
theorem ck_82 : fnCheck Tryd.prog H (82, { ok := true, sh := [3, 4, 50, 51, 52], heads := [(0, [2, 3, 44, 45, 46])], outs := [(0, []), (1, [2, 3, 44, 45, 46])], pu := false }) = true := by kernel_rfl
theorem ck_83 : fnCheck Tryd.prog H (83, { ok := true, mv := [7], sh := [8, 9], ro := true, op := [0] }) = true := by kernel_rfl
theorem ck_84 : fnCheck Tryd.prog H (84, { ok := true, mv := [9, 51, 68], nw := [3, 54], sh := [3, 6, 27, 28, 29, 30, 44, 45, 46, 47], heads := [(0, [3, 9, 10, 11]), (2, [3, 5, 6, 7, 9, 10, 11])], outs := [(0, [3]), (1, [3, 9, 10, 11]), (2, [3, 5, 6, 9, 10, 11]), (3, [3, 5, 6, 7, 9, 10, 11])], pu := false }) = true := by kernel_rfl
theorem ck_90 : fnCheck Tryd.prog H (90, { ok := true }) = true := by kernel_rfl
theorem ck_92 : fnCheck Tryd.prog H (92, { ok := true, mv := [32, 41], sh := [0, 5], heads := [(0, [0, 1, 5])], outs := [(0, [0, 1, 5]), (1, [0, 1, 5])] }) = true := by kernel_rfl
theorem ck_93 : fnCheck Tryd.prog H (93, { ok := true, mv := [12, 17], sh := [18, 19], ro := true, op := [0] }) = true := by kernel_rfl
theorem ck_94 : fnCheck Tryd.prog H (94, { ok := true, mv := [40, 42], sh := [5], heads := [(0, [0, 1, 10, 11])], outs := [(0, [0, 1]), (1, [0, 1, 10, 11]), (2, [])] }) = true := by kernel_rfl
theorem ck_95 : fnCheck Tryd.prog H (95, { ok := true, sh := [1] }) = true := by kernel_rfl
theorem ck_101 : fnCheck Tryd.prog H (101, { ok := true, mv := [13, 24, 28, 29, 35], nw := [7, 21, 26], sh := [15, 18, 21, 22, 30, 31], ro := true, op := [0] }) = true := by kernel_rfl
theorem ck_107 : fnCheck Tryd.prog H (107, { ok := true }) = true := by kernel_rfl
theorem ck_108 : fnCheck Tryd.prog H (108, { ok := true, sh := [4, 5, 12] }) = true := by kernel_rfl
theorem ck_109 : fnCheck Tryd.prog H (109, { ok := true, mv := [162], sh := [0, 4, 8, 9, 10, 11, 14, 15, 16], heads := [(0, [0, 1, 4])], outs := [(0, [0, 1, 4]), (1, [0, 1, 4])], pu := false }) = true := by kernel_rfl
theorem ck_110 : fnCheck Tryd.prog H (110, { ok := true, mv := [95], sh := [33, 36], heads := [(0, [0, 1, 3, 4, 10, 11, 12, 13, 14, 15, 16]), (2, [0, 1, 3, 4, 10, 11, 12, 13, 17])], outs := [(0, [0, 1, 3, 4, 10, 11, 12, 13]), (1, [0, 1, 3, 4, 10, 11, 12, 13, 14, 15, 16]), (2, [0, 1, 3, 4, 10, 11, 12, 13]), (3, [0, 1, 3, 4, 10, 11, 12, 13, 17])], op := [0] }) = true := by kernel_rfl
theorem ck_120 : fnCheck Tryd.prog H (120, { ok := true }) = true := by kernel_rfl
theorem ck_122 : fnCheck Tryd.prog H (122, { ok := true }) = true := by kernel_rfl
theorem ck_123 : fnCheck Tryd.prog H (123, { ok := true }) = true := by kernel_rfl
theorem ck_124 : fnCheck Tryd.prog H (124, { ok := true }) = true := by kernel_rfl
theorem ck_125 : fnCheck Tryd.prog H (125, { ok := true, sh := [4, 6] }) = true := by kernel_rfl
theorem ck_131 : fnCheck Tryd.prog H (131, { ok := true }) = true := by kernel_rfl
theorem ck_132 : fnCheck Tryd.prog H (132, { ok := true }) = true := by kernel_rfl
theorem fnsOk : FnsOk Tryd.prog H := by
  refine fnsOk_of (by kernel_rfl) ?_
  show HL.all (fnCheck Tryd.prog H) = true
  unfold HL
  simp only [List.all_cons, List.all_nil, Bool.and_true, Bool.and_eq_true]
  exact ⟨ck_5, ck_10, ck_11, ck_13, ck_15, ck_16, ck_18, ck_20, ck_21, ck_22, ck_23, ck_24, ck_25, ck_26, ck_27, ck_35, ck_46, ck_47, ck_48, ck_49, ck_50, ck_51, ck_53, ck_54, ck_55, ck_56, ck_57, ck_58, ck_59, ck_60, ck_61, ck_62, ck_63, ck_64, ck_65, ck_74, ck_75, ck_79, ck_80, ck_81, ck_82, ck_83, ck_84, ck_90, ck_92, ck_93, ck_94, ck_95, ck_101, ck_107, ck_108, ck_109, ck_110, ck_120, ck_122, ck_123, ck_124, ck_125, ck_131, ck_132⟩
theorem tabOk : TabOk Tryd.prog ⟨TY, GL⟩ := tabOk_of (by kernel_rfl) (by kernel_rfl)
end Go.AM.S03
