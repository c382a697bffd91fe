/- The types and functions of this seat as the abstract machine takes them, and the check that they are in order. -/
import Derived.Test.YtnfggookadgjiaaAmEntry
import Derived.Test.YtnfggookadgjiaaAmData
import Derived.Test.YtnfggookadgjiaaProg
import Derived.KernelRfl
set_option linter.unusedVariables false
set_option linter.unusedSimpArgs false
namespace Go.AM.S22
open Go Go.Proofs Go.AM
set_option maxRecDepth 100000
noncomputable def TY:List TI:=[
 ⟨.tup [],1,0,[],false⟩,
 ⟨.fn,1,8,[.lit .nilFunc],false⟩,
 ⟨.int .i64,1,8,[.lit (.int .i64 0)],false⟩,
 ⟨.int .i64,1,8,[.lit (.int .i64 0)],false⟩,
 ⟨.bool,1,1,[.lit (.bool false)],false⟩,
 ⟨.int .u8,1,1,[.lit (.int .u8 0)],false⟩,
 ⟨.int .u8,1,1,[.lit (.int .u8 0)],false⟩,
 ⟨.st [(0,2),(1,3),(2,4),(3,6)],4,24,[.lit (.int .i64 0),.lit (.int .i64 0),.lit (.bool false),.lit (.int .u8 0)],true⟩,
 ⟨.st [(0,2),(1,3),(2,4),(3,6)],4,24,[.lit (.int .i64 0),.lit (.int .i64 0),.lit (.bool false),.lit (.int .u8 0)],true⟩,
 ⟨.str,1,16,[.lit (.string ByteArray.empty)],false⟩,
 ⟨.str,1,16,[.lit (.string ByteArray.empty)],false⟩,
 ⟨.str,1,16,[.lit (.string ByteArray.empty)],false⟩,
 ⟨.int .u64,1,8,[.lit (.int .u64 0)],false⟩,
 ⟨.st [(0,9),(1,12)],2,24,[.lit (.string ByteArray.empty),.lit (.int .u64 0)],false⟩,
 ⟨.st [(0,9),(1,12)],2,24,[.lit (.string ByteArray.empty),.lit (.int .u64 0)],false⟩,
 ⟨.ptr 158,1,8,[.lit (.pointer none)],false⟩,
 ⟨.ptr 161,1,8,[.lit (.pointer none)],false⟩,
 ⟨.ptr 171,1,8,[.lit (.pointer none)],false⟩,
 ⟨.st [(0,17)],1,8,[.lit (.pointer none)],false⟩,
 ⟨.st [(0,17)],1,8,[.lit (.pointer none)],false⟩,
 ⟨.ifc,1,16,[.lit .nilIface],false⟩,
 ⟨.int .i32,1,4,[.lit (.int .i32 0)],false⟩,
 ⟨.sl 3,1,24,[.sl none 1 []],false⟩,
 ⟨.st [(0,22)],1,24,[.sl none 1 []],false⟩,
 ⟨.st [(0,22)],1,24,[.sl none 1 []],false⟩,
 ⟨.sl 64,1,24,[.sl none 3 []],false⟩,
 ⟨.st [(0,3),(1,22),(2,25)],3,56,[.lit (.int .i64 0),.sl none 1 [],.sl none 3 []],false⟩,
 ⟨.st [(0,3),(1,22),(2,25)],3,56,[.lit (.int .i64 0),.sl none 1 [],.sl none 3 []],false⟩,
 ⟨.sl 30,1,24,[.sl none 2 []],false⟩,
 ⟨.st [(0,3),(1,28)],2,32,[.lit (.int .i64 0),.sl none 2 []],false⟩,
 ⟨.st [(0,3),(1,28)],2,32,[.lit (.int .i64 0),.sl none 2 []],false⟩,
 ⟨.fn,1,8,[.lit .nilFunc],false⟩,
 ⟨.fn,1,8,[.lit .nilFunc],false⟩,
 ⟨.int .i64,1,8,[.lit (.int .i64 0)],false⟩,
 ⟨.tup [3,30,33],1,0,[.lit (.int .i64 0),.lit (.int .i64 0),.sl none 2 [],.lit (.int .i64 0)],false⟩,
 ⟨.fn,1,8,[.lit .nilFunc],false⟩,
 ⟨.fn,1,8,[.lit .nilFunc],false⟩,
 ⟨.fn,1,8,[.lit .nilFunc],false⟩,
 ⟨.sl 22,1,24,[.sl none 1 []],false⟩,
 ⟨.tup [38,33],1,0,[.sl none 1 [],.lit (.int .i64 0)],false⟩,
 ⟨.fn,1,8,[.lit .nilFunc],false⟩,
 ⟨.fn,1,8,[.lit .nilFunc],false⟩,
 ⟨.st [(0,3),(1,3),(2,3)],3,24,[.lit (.int .i64 0),.lit (.int .i64 0),.lit (.int .i64 0)],true⟩,
 ⟨.st [(0,3),(1,3),(2,3)],3,24,[.lit (.int .i64 0),.lit (.int .i64 0),.lit (.int .i64 0)],true⟩,
 ⟨.tup [3,33],1,0,[.lit (.int .i64 0),.lit (.int .i64 0)],false⟩,
 ⟨.fn,1,8,[.lit .nilFunc],false⟩,
 ⟨.st [(0,3),(1,3),(2,3)],3,24,[.lit (.int .i64 0),.lit (.int .i64 0),.lit (.int .i64 0)],true⟩,
 ⟨.fn,1,8,[.lit .nilFunc],false⟩,
 ⟨.fn,1,8,[.lit .nilFunc],false⟩,
 ⟨.tup [4,33],1,0,[.lit (.bool false),.lit (.int .i64 0)],false⟩,
 ⟨.fn,1,8,[.lit .nilFunc],false⟩,
 ⟨.fn,1,8,[.lit .nilFunc],false⟩,
 ⟨.fn,1,8,[.lit .nilFunc],false⟩,
 ⟨.fn,1,8,[.lit .nilFunc],false⟩,
 ⟨.tup [30,33],1,0,[.lit (.int .i64 0),.sl none 2 [],.lit (.int .i64 0)],false⟩,
 ⟨.fn,1,8,[.lit .nilFunc],false⟩,
 ⟨.fn,1,8,[.lit .nilFunc],false⟩,
 ⟨.fn,1,8,[.lit .nilFunc],false⟩,
 ⟨.fn,1,8,[.lit .nilFunc],false⟩,
 ⟨.fn,1,8,[.lit .nilFunc],false⟩,
 ⟨.fn,1,8,[.lit .nilFunc],false⟩,
 ⟨.fn,1,8,[.lit .nilFunc],false⟩,
 ⟨.fn,1,8,[.lit .nilFunc],false⟩,
 ⟨.st [(0,3),(1,22),(2,3)],3,40,[.lit (.int .i64 0),.sl none 1 [],.lit (.int .i64 0)],false⟩,
 ⟨.st [(0,3),(1,22),(2,3)],3,40,[.lit (.int .i64 0),.sl none 1 [],.lit (.int .i64 0)],false⟩,
 ⟨.fn,1,8,[.lit .nilFunc],false⟩,
 ⟨.sl 70,1,24,[.sl none 1 []],false⟩,
 ⟨.fn,1,8,[.lit .nilFunc],false⟩,
 ⟨.fn,1,8,[.lit .nilFunc],false⟩,
 ⟨.fn,1,8,[.lit .nilFunc],false⟩,
 ⟨.sl 72,1,24,[.sl none 3 []],false⟩,
 ⟨.st [(0,3),(1,30)],3,40,[.lit (.int .i64 0),.lit (.int .i64 0),.sl none 2 []],false⟩,
 ⟨.st [(0,3),(1,30)],3,40,[.lit (.int .i64 0),.lit (.int .i64 0),.sl none 2 []],false⟩,
 ⟨.tup [72,4],1,0,[.lit (.int .i64 0),.lit (.int .i64 0),.sl none 2 [],.lit (.bool false)],false⟩,
 ⟨.fn,1,8,[.lit .nilFunc],false⟩,
 ⟨.fn,1,8,[.lit .nilFunc],false⟩,
 ⟨.fn,1,8,[.lit .nilFunc],false⟩,
 ⟨.fn,1,8,[.lit .nilFunc],false⟩,
 ⟨.sl 81,1,24,[.sl none 4 []],false⟩,
 ⟨.fn,1,8,[.lit .nilFunc],false⟩,
 ⟨.st [(0,4),(1,3),(2,30)],4,48,[.lit (.bool false),.lit (.int .i64 0),.lit (.int .i64 0),.sl none 2 []],false⟩,
 ⟨.st [(0,4),(1,3),(2,30)],4,48,[.lit (.bool false),.lit (.int .i64 0),.lit (.int .i64 0),.sl none 2 []],false⟩,
 ⟨.fn,1,8,[.lit .nilFunc],false⟩,
 ⟨.tup [22,33],1,0,[.sl none 1 [],.lit (.int .i64 0)],false⟩,
 ⟨.fn,1,8,[.lit .nilFunc],false⟩,
 ⟨.sl 86,1,24,[.sl none 1 []],false⟩,
 ⟨.sl 88,1,24,[.sl none 3 []],false⟩,
 ⟨.st [(0,4),(1,3),(2,38)],3,40,[.lit (.bool false),.lit (.int .i64 0),.sl none 1 []],false⟩,
 ⟨.st [(0,4),(1,3),(2,38)],3,40,[.lit (.bool false),.lit (.int .i64 0),.sl none 1 []],false⟩,
 ⟨.tup [88,4],1,0,[.lit (.bool false),.lit (.int .i64 0),.sl none 1 [],.lit (.bool false)],false⟩,
 ⟨.fn,1,8,[.lit .nilFunc],false⟩,
 ⟨.fn,1,8,[.lit .nilFunc],false⟩,
 ⟨.sl 96,1,24,[.sl none 3 []],false⟩,
 ⟨.fn,1,8,[.lit .nilFunc],false⟩,
 ⟨.fn,1,8,[.lit .nilFunc],false⟩,
 ⟨.st [(0,4),(1,3),(2,38)],3,40,[.lit (.bool false),.lit (.int .i64 0),.sl none 1 []],false⟩,
 ⟨.st [(0,4),(1,3),(2,38)],3,40,[.lit (.bool false),.lit (.int .i64 0),.sl none 1 []],false⟩,
 ⟨.fn,1,8,[.lit .nilFunc],false⟩,
 ⟨.fn,1,8,[.lit .nilFunc],false⟩,
 ⟨.fn,1,8,[.lit .nilFunc],false⟩,
 ⟨.fn,1,8,[.lit .nilFunc],false⟩,
 ⟨.fn,1,8,[.lit .nilFunc],false⟩,
 ⟨.fn,1,8,[.lit .nilFunc],false⟩,
 ⟨.sl 4,1,24,[.sl none 1 []],false⟩,
 ⟨.fn,1,8,[.lit .nilFunc],false⟩,
 ⟨.fn,1,8,[.lit .nilFunc],false⟩,
 ⟨.fn,1,8,[.lit .nilFunc],false⟩,
 ⟨.ptr 112,1,8,[.lit (.pointer none)],false⟩,
 ⟨.tup [107,3,3,33],1,0,[.lit (.pointer none),.lit (.int .i64 0),.lit (.int .i64 0),.lit (.int .i64 0)],false⟩,
 ⟨.fn,1,8,[.lit .nilFunc],false⟩,
 ⟨.fn,1,8,[.lit .nilFunc],false⟩,
 ⟨.st [(0,27),(3,46),(6,22),(7,38),(8,38),(9,28)],10,176,[.lit (.int .i64 0),.sl none 1 [],.sl none 3 [],.lit (.int .i64 0),.lit (.int .i64 0),.lit (.int .i64 0),.sl none 1 [],.sl none 1 [],.sl none 1 [],.sl none 2 []],false⟩,
 ⟨.st [(0,27),(3,46),(6,22),(7,38),(8,38),(9,28)],10,176,[.lit (.int .i64 0),.sl none 1 [],.sl none 3 [],.lit (.int .i64 0),.lit (.int .i64 0),.lit (.int .i64 0),.sl none 1 [],.sl none 1 [],.sl none 1 [],.sl none 2 []],false⟩,
 ⟨.fn,1,8,[.lit .nilFunc],false⟩,
 ⟨.fn,1,8,[.lit .nilFunc],false⟩,
 ⟨.fn,1,8,[.lit .nilFunc],false⟩,
 ⟨.fn,1,8,[.lit .nilFunc],false⟩,
 ⟨.fn,1,8,[.lit .nilFunc],false⟩,
 ⟨.fn,1,8,[.lit .nilFunc],false⟩,
 ⟨.ptr 3,1,8,[.lit (.pointer none)],false⟩,
 ⟨.fn,1,8,[.lit .nilFunc],false⟩,
 ⟨.fn,1,8,[.lit .nilFunc],false⟩,
 ⟨.fn,1,8,[.lit .nilFunc],false⟩,
 ⟨.sl 78,1,24,[.sl none 1 []],false⟩,
 ⟨.fn,1,8,[.lit .nilFunc],false⟩,
 ⟨.fn,1,8,[.lit .nilFunc],false⟩,
 ⟨.sl 92,1,24,[.sl none 1 []],false⟩,
 ⟨.fn,1,8,[.lit .nilFunc],false⟩,
 ⟨.fn,1,8,[.lit .nilFunc],false⟩,
 ⟨.sl 103,1,24,[.sl none 1 []],false⟩,
 ⟨.fn,1,8,[.lit .nilFunc],false⟩,
 ⟨.fn,1,8,[.lit .nilFunc],false⟩,
 ⟨.fn,1,8,[.lit .nilFunc],false⟩,
 ⟨.tup [107,33],1,0,[.lit (.pointer none),.lit (.int .i64 0)],false⟩,
 ⟨.fn,1,8,[.lit .nilFunc],false⟩,
 ⟨.tup [3,3],1,0,[.lit (.int .i64 0),.lit (.int .i64 0)],false⟩,
 ⟨.fn,1,8,[.lit .nilFunc],false⟩,
 ⟨.fn,1,8,[.lit .nilFunc],false⟩,
 ⟨.fn,1,8,[.lit .nilFunc],false⟩,
 ⟨.fn,1,8,[.lit .nilFunc],false⟩,
 ⟨.fn,1,8,[.lit .nilFunc],false⟩,
 ⟨.fn,1,8,[.lit .nilFunc],false⟩,
 ⟨.sl 144,1,24,[.sl none 3 []],false⟩,
 ⟨.st [(0,3),(1,3),(2,142)],3,40,[.lit (.int .i64 0),.lit (.int .i64 0),.sl none 3 []],false⟩,
 ⟨.st [(0,3),(1,3),(2,142)],3,40,[.lit (.int .i64 0),.lit (.int .i64 0),.sl none 3 []],false⟩,
 ⟨.fn,1,8,[.lit .nilFunc],false⟩,
 ⟨.fn,1,8,[.lit .nilFunc],false⟩,
 ⟨.fn,1,8,[.lit .nilFunc],false⟩,
 ⟨.fn,1,8,[.lit .nilFunc],false⟩,
 ⟨.fn,1,8,[.lit .nilFunc],false⟩,
 ⟨.fn,1,8,[.lit .nilFunc],false⟩,
 ⟨.fn,1,8,[.lit .nilFunc],false⟩,
 ⟨.fn,1,8,[.lit .nilFunc],false⟩,
 ⟨.fn,1,8,[.lit .nilFunc],false⟩,
 ⟨.map 3 30,1,8,[.lit (.map none)],false⟩,
 ⟨.tup [30,4],1,0,[.lit (.int .i64 0),.sl none 2 [],.lit (.bool false)],false⟩,
 ⟨.fn,1,8,[.lit .nilFunc],false⟩,
 ⟨.st [(0,17),(1,17),(2,17),(3,9)],4,40,[.lit (.pointer none),.lit (.pointer none),.lit (.pointer none),.lit (.string ByteArray.empty)],false⟩,
 ⟨.st [(0,17),(1,17),(2,17),(3,9)],4,40,[.lit (.pointer none),.lit (.pointer none),.lit (.pointer none),.lit (.string ByteArray.empty)],false⟩,
 ⟨.arr 0 16,0,0,[],false⟩,
 ⟨.st [(0,159)],0,0,[],false⟩,
 ⟨.st [(0,159)],0,0,[],false⟩,
 ⟨.fn,1,8,[.lit .nilFunc],false⟩,
 ⟨.int .u32,1,4,[.lit (.int .u32 0)],false⟩,
 ⟨.int .u8,1,1,[.lit (.int .u8 0)],false⟩,
 ⟨.int .u8,1,1,[.lit (.int .u8 0)],false⟩,
 ⟨.fn,1,8,[.lit .nilFunc],false⟩,
 ⟨.ptr 5,1,8,[.lit (.pointer none)],false⟩,
 ⟨.int .i32,1,4,[.lit (.int .i32 0)],false⟩,
 ⟨.int .i32,1,4,[.lit (.int .i32 0)],false⟩,
 ⟨.st [(0,12),(1,12),(2,163),(3,164),(4,5),(5,5),(6,165),(7,166),(8,167),(9,168),(10,169)],11,48,[.lit (.int .u64 0),.lit (.int .u64 0),.lit (.int .u32 0),.lit (.int .u8 0),.lit (.int .u8 0),.lit (.int .u8 0),.lit (.int .u8 0),.lit .nilFunc,.lit (.pointer none),.lit (.int .i32 0),.lit (.int .i32 0)],false⟩,
 ⟨.st [(0,12),(1,12),(2,163),(3,164),(4,5),(5,5),(6,165),(7,166),(8,167),(9,168),(10,169)],11,48,[.lit (.int .u64 0),.lit (.int .u64 0),.lit (.int .u32 0),.lit (.int .u8 0),.lit (.int .u8 0),.lit (.int .u8 0),.lit (.int .u8 0),.lit .nilFunc,.lit (.pointer none),.lit (.int .i32 0),.lit (.int .i32 0)],false⟩,
 ⟨.other,1,8,[.lit (.pointer none)],false⟩]
noncomputable def GL:List (Nat×List PV):=[]
noncomputable def T:Tab:=⟨TY,GL⟩
theorem T_0:T.at 0 = ⟨.tup [],1,0,[],false⟩:=rfl
theorem T_1:T.at 1 = ⟨.fn,1,8,[.lit .nilFunc],false⟩:=rfl
theorem T_2:T.at 2 = ⟨.int .i64,1,8,[.lit (.int .i64 0)],false⟩:=rfl
theorem T_3:T.at 3 = ⟨.int .i64,1,8,[.lit (.int .i64 0)],false⟩:=rfl
theorem T_4:T.at 4 = ⟨.bool,1,1,[.lit (.bool false)],false⟩:=rfl
theorem T_5:T.at 5 = ⟨.int .u8,1,1,[.lit (.int .u8 0)],false⟩:=rfl
theorem T_6:T.at 6 = ⟨.int .u8,1,1,[.lit (.int .u8 0)],false⟩:=rfl
theorem T_7:T.at 7 = ⟨.st [(0,2),(1,3),(2,4),(3,6)],4,24,[.lit (.int .i64 0),.lit (.int .i64 0),.lit (.bool false),.lit (.int .u8 0)],true⟩:=rfl
theorem T_8:T.at 8 = ⟨.st [(0,2),(1,3),(2,4),(3,6)],4,24,[.lit (.int .i64 0),.lit (.int .i64 0),.lit (.bool false),.lit (.int .u8 0)],true⟩:=rfl
theorem T_9:T.at 9 = ⟨.str,1,16,[.lit (.string ByteArray.empty)],false⟩:=rfl
theorem T_10:T.at 10 = ⟨.str,1,16,[.lit (.string ByteArray.empty)],false⟩:=rfl
theorem T_11:T.at 11 = ⟨.str,1,16,[.lit (.string ByteArray.empty)],false⟩:=rfl
theorem T_12:T.at 12 = ⟨.int .u64,1,8,[.lit (.int .u64 0)],false⟩:=rfl
theorem T_13:T.at 13 = ⟨.st [(0,9),(1,12)],2,24,[.lit (.string ByteArray.empty),.lit (.int .u64 0)],false⟩:=rfl
theorem T_14:T.at 14 = ⟨.st [(0,9),(1,12)],2,24,[.lit (.string ByteArray.empty),.lit (.int .u64 0)],false⟩:=rfl
theorem T_15:T.at 15 = ⟨.ptr 158,1,8,[.lit (.pointer none)],false⟩:=rfl
theorem T_16:T.at 16 = ⟨.ptr 161,1,8,[.lit (.pointer none)],false⟩:=rfl
theorem T_17:T.at 17 = ⟨.ptr 171,1,8,[.lit (.pointer none)],false⟩:=rfl
theorem T_18:T.at 18 = ⟨.st [(0,17)],1,8,[.lit (.pointer none)],false⟩:=rfl
theorem T_19:T.at 19 = ⟨.st [(0,17)],1,8,[.lit (.pointer none)],false⟩:=rfl
theorem T_20:T.at 20 = ⟨.ifc,1,16,[.lit .nilIface],false⟩:=rfl
theorem T_21:T.at 21 = ⟨.int .i32,1,4,[.lit (.int .i32 0)],false⟩:=rfl
theorem T_22:T.at 22 = ⟨.sl 3,1,24,[.sl none 1 []],false⟩:=rfl
theorem T_23:T.at 23 = ⟨.st [(0,22)],1,24,[.sl none 1 []],false⟩:=rfl
theorem T_24:T.at 24 = ⟨.st [(0,22)],1,24,[.sl none 1 []],false⟩:=rfl
theorem T_25:T.at 25 = ⟨.sl 64,1,24,[.sl none 3 []],false⟩:=rfl
theorem T_26:T.at 26 = ⟨.st [(0,3),(1,22),(2,25)],3,56,[.lit (.int .i64 0),.sl none 1 [],.sl none 3 []],false⟩:=rfl
theorem T_27:T.at 27 = ⟨.st [(0,3),(1,22),(2,25)],3,56,[.lit (.int .i64 0),.sl none 1 [],.sl none 3 []],false⟩:=rfl
theorem T_28:T.at 28 = ⟨.sl 30,1,24,[.sl none 2 []],false⟩:=rfl
theorem T_29:T.at 29 = ⟨.st [(0,3),(1,28)],2,32,[.lit (.int .i64 0),.sl none 2 []],false⟩:=rfl
theorem T_30:T.at 30 = ⟨.st [(0,3),(1,28)],2,32,[.lit (.int .i64 0),.sl none 2 []],false⟩:=rfl
theorem T_31:T.at 31 = ⟨.fn,1,8,[.lit .nilFunc],false⟩:=rfl
theorem T_32:T.at 32 = ⟨.fn,1,8,[.lit .nilFunc],false⟩:=rfl
theorem T_33:T.at 33 = ⟨.int .i64,1,8,[.lit (.int .i64 0)],false⟩:=rfl
theorem T_34:T.at 34 = ⟨.tup [3,30,33],1,0,[.lit (.int .i64 0),.lit (.int .i64 0),.sl none 2 [],.lit (.int .i64 0)],false⟩:=rfl
theorem T_35:T.at 35 = ⟨.fn,1,8,[.lit .nilFunc],false⟩:=rfl
theorem T_36:T.at 36 = ⟨.fn,1,8,[.lit .nilFunc],false⟩:=rfl
theorem T_37:T.at 37 = ⟨.fn,1,8,[.lit .nilFunc],false⟩:=rfl
theorem T_38:T.at 38 = ⟨.sl 22,1,24,[.sl none 1 []],false⟩:=rfl
theorem T_39:T.at 39 = ⟨.tup [38,33],1,0,[.sl none 1 [],.lit (.int .i64 0)],false⟩:=rfl
theorem T_40:T.at 40 = ⟨.fn,1,8,[.lit .nilFunc],false⟩:=rfl
theorem T_41:T.at 41 = ⟨.fn,1,8,[.lit .nilFunc],false⟩:=rfl
theorem T_42:T.at 42 = ⟨.st [(0,3),(1,3),(2,3)],3,24,[.lit (.int .i64 0),.lit (.int .i64 0),.lit (.int .i64 0)],true⟩:=rfl
theorem T_43:T.at 43 = ⟨.st [(0,3),(1,3),(2,3)],3,24,[.lit (.int .i64 0),.lit (.int .i64 0),.lit (.int .i64 0)],true⟩:=rfl
theorem T_44:T.at 44 = ⟨.tup [3,33],1,0,[.lit (.int .i64 0),.lit (.int .i64 0)],false⟩:=rfl
theorem T_45:T.at 45 = ⟨.fn,1,8,[.lit .nilFunc],false⟩:=rfl
theorem T_46:T.at 46 = ⟨.st [(0,3),(1,3),(2,3)],3,24,[.lit (.int .i64 0),.lit (.int .i64 0),.lit (.int .i64 0)],true⟩:=rfl
theorem T_47:T.at 47 = ⟨.fn,1,8,[.lit .nilFunc],false⟩:=rfl
theorem T_48:T.at 48 = ⟨.fn,1,8,[.lit .nilFunc],false⟩:=rfl
theorem T_49:T.at 49 = ⟨.tup [4,33],1,0,[.lit (.bool false),.lit (.int .i64 0)],false⟩:=rfl
theorem T_50:T.at 50 = ⟨.fn,1,8,[.lit .nilFunc],false⟩:=rfl
theorem T_51:T.at 51 = ⟨.fn,1,8,[.lit .nilFunc],false⟩:=rfl
theorem T_52:T.at 52 = ⟨.fn,1,8,[.lit .nilFunc],false⟩:=rfl
theorem T_53:T.at 53 = ⟨.fn,1,8,[.lit .nilFunc],false⟩:=rfl
theorem T_54:T.at 54 = ⟨.tup [30,33],1,0,[.lit (.int .i64 0),.sl none 2 [],.lit (.int .i64 0)],false⟩:=rfl
theorem T_55:T.at 55 = ⟨.fn,1,8,[.lit .nilFunc],false⟩:=rfl
theorem T_56:T.at 56 = ⟨.fn,1,8,[.lit .nilFunc],false⟩:=rfl
theorem T_57:T.at 57 = ⟨.fn,1,8,[.lit .nilFunc],false⟩:=rfl
theorem T_58:T.at 58 = ⟨.fn,1,8,[.lit .nilFunc],false⟩:=rfl
theorem T_59:T.at 59 = ⟨.fn,1,8,[.lit .nilFunc],false⟩:=rfl
theorem T_60:T.at 60 = ⟨.fn,1,8,[.lit .nilFunc],false⟩:=rfl
theorem T_61:T.at 61 = ⟨.fn,1,8,[.lit .nilFunc],false⟩:=rfl
theorem T_62:T.at 62 = ⟨.fn,1,8,[.lit .nilFunc],false⟩:=rfl
theorem T_63:T.at 63 = ⟨.st [(0,3),(1,22),(2,3)],3,40,[.lit (.int .i64 0),.sl none 1 [],.lit (.int .i64 0)],false⟩:=rfl
theorem T_64:T.at 64 = ⟨.st [(0,3),(1,22),(2,3)],3,40,[.lit (.int .i64 0),.sl none 1 [],.lit (.int .i64 0)],false⟩:=rfl
theorem T_65:T.at 65 = ⟨.fn,1,8,[.lit .nilFunc],false⟩:=rfl
theorem T_66:T.at 66 = ⟨.sl 70,1,24,[.sl none 1 []],false⟩:=rfl
theorem T_67:T.at 67 = ⟨.fn,1,8,[.lit .nilFunc],false⟩:=rfl
theorem T_68:T.at 68 = ⟨.fn,1,8,[.lit .nilFunc],false⟩:=rfl
theorem T_69:T.at 69 = ⟨.fn,1,8,[.lit .nilFunc],false⟩:=rfl
theorem T_70:T.at 70 = ⟨.sl 72,1,24,[.sl none 3 []],false⟩:=rfl
theorem T_71:T.at 71 = ⟨.st [(0,3),(1,30)],3,40,[.lit (.int .i64 0),.lit (.int .i64 0),.sl none 2 []],false⟩:=rfl
theorem T_72:T.at 72 = ⟨.st [(0,3),(1,30)],3,40,[.lit (.int .i64 0),.lit (.int .i64 0),.sl none 2 []],false⟩:=rfl
theorem T_73:T.at 73 = ⟨.tup [72,4],1,0,[.lit (.int .i64 0),.lit (.int .i64 0),.sl none 2 [],.lit (.bool false)],false⟩:=rfl
theorem T_74:T.at 74 = ⟨.fn,1,8,[.lit .nilFunc],false⟩:=rfl
theorem T_75:T.at 75 = ⟨.fn,1,8,[.lit .nilFunc],false⟩:=rfl
theorem T_76:T.at 76 = ⟨.fn,1,8,[.lit .nilFunc],false⟩:=rfl
theorem T_77:T.at 77 = ⟨.fn,1,8,[.lit .nilFunc],false⟩:=rfl
theorem T_78:T.at 78 = ⟨.sl 81,1,24,[.sl none 4 []],false⟩:=rfl
theorem T_79:T.at 79 = ⟨.fn,1,8,[.lit .nilFunc],false⟩:=rfl
theorem T_80:T.at 80 = ⟨.st [(0,4),(1,3),(2,30)],4,48,[.lit (.bool false),.lit (.int .i64 0),.lit (.int .i64 0),.sl none 2 []],false⟩:=rfl
theorem T_81:T.at 81 = ⟨.st [(0,4),(1,3),(2,30)],4,48,[.lit (.bool false),.lit (.int .i64 0),.lit (.int .i64 0),.sl none 2 []],false⟩:=rfl
theorem T_82:T.at 82 = ⟨.fn,1,8,[.lit .nilFunc],false⟩:=rfl
theorem T_83:T.at 83 = ⟨.tup [22,33],1,0,[.sl none 1 [],.lit (.int .i64 0)],false⟩:=rfl
theorem T_84:T.at 84 = ⟨.fn,1,8,[.lit .nilFunc],false⟩:=rfl
theorem T_85:T.at 85 = ⟨.sl 86,1,24,[.sl none 1 []],false⟩:=rfl
theorem T_86:T.at 86 = ⟨.sl 88,1,24,[.sl none 3 []],false⟩:=rfl
theorem T_87:T.at 87 = ⟨.st [(0,4),(1,3),(2,38)],3,40,[.lit (.bool false),.lit (.int .i64 0),.sl none 1 []],false⟩:=rfl
theorem T_88:T.at 88 = ⟨.st [(0,4),(1,3),(2,38)],3,40,[.lit (.bool false),.lit (.int .i64 0),.sl none 1 []],false⟩:=rfl
theorem T_89:T.at 89 = ⟨.tup [88,4],1,0,[.lit (.bool false),.lit (.int .i64 0),.sl none 1 [],.lit (.bool false)],false⟩:=rfl
theorem T_90:T.at 90 = ⟨.fn,1,8,[.lit .nilFunc],false⟩:=rfl
theorem T_91:T.at 91 = ⟨.fn,1,8,[.lit .nilFunc],false⟩:=rfl
theorem T_92:T.at 92 = ⟨.sl 96,1,24,[.sl none 3 []],false⟩:=rfl
theorem T_93:T.at 93 = ⟨.fn,1,8,[.lit .nilFunc],false⟩:=rfl
theorem T_94:T.at 94 = ⟨.fn,1,8,[.lit .nilFunc],false⟩:=rfl
theorem T_95:T.at 95 = ⟨.st [(0,4),(1,3),(2,38)],3,40,[.lit (.bool false),.lit (.int .i64 0),.sl none 1 []],false⟩:=rfl
theorem T_96:T.at 96 = ⟨.st [(0,4),(1,3),(2,38)],3,40,[.lit (.bool false),.lit (.int .i64 0),.sl none 1 []],false⟩:=rfl
theorem T_97:T.at 97 = ⟨.fn,1,8,[.lit .nilFunc],false⟩:=rfl
theorem T_98:T.at 98 = ⟨.fn,1,8,[.lit .nilFunc],false⟩:=rfl
theorem T_99:T.at 99 = ⟨.fn,1,8,[.lit .nilFunc],false⟩:=rfl
theorem T_100:T.at 100 = ⟨.fn,1,8,[.lit .nilFunc],false⟩:=rfl
theorem T_101:T.at 101 = ⟨.fn,1,8,[.lit .nilFunc],false⟩:=rfl
theorem T_102:T.at 102 = ⟨.fn,1,8,[.lit .nilFunc],false⟩:=rfl
theorem T_103:T.at 103 = ⟨.sl 4,1,24,[.sl none 1 []],false⟩:=rfl
theorem T_104:T.at 104 = ⟨.fn,1,8,[.lit .nilFunc],false⟩:=rfl
theorem T_105:T.at 105 = ⟨.fn,1,8,[.lit .nilFunc],false⟩:=rfl
theorem T_106:T.at 106 = ⟨.fn,1,8,[.lit .nilFunc],false⟩:=rfl
theorem T_107:T.at 107 = ⟨.ptr 112,1,8,[.lit (.pointer none)],false⟩:=rfl
theorem T_108:T.at 108 = ⟨.tup [107,3,3,33],1,0,[.lit (.pointer none),.lit (.int .i64 0),.lit (.int .i64 0),.lit (.int .i64 0)],false⟩:=rfl
theorem T_109:T.at 109 = ⟨.fn,1,8,[.lit .nilFunc],false⟩:=rfl
theorem T_110:T.at 110 = ⟨.fn,1,8,[.lit .nilFunc],false⟩:=rfl
theorem T_111:T.at 111 = ⟨.st [(0,27),(3,46),(6,22),(7,38),(8,38),(9,28)],10,176,[.lit (.int .i64 0),.sl none 1 [],.sl none 3 [],.lit (.int .i64 0),.lit (.int .i64 0),.lit (.int .i64 0),.sl none 1 [],.sl none 1 [],.sl none 1 [],.sl none 2 []],false⟩:=rfl
theorem T_112:T.at 112 = ⟨.st [(0,27),(3,46),(6,22),(7,38),(8,38),(9,28)],10,176,[.lit (.int .i64 0),.sl none 1 [],.sl none 3 [],.lit (.int .i64 0),.lit (.int .i64 0),.lit (.int .i64 0),.sl none 1 [],.sl none 1 [],.sl none 1 [],.sl none 2 []],false⟩:=rfl
theorem T_113:T.at 113 = ⟨.fn,1,8,[.lit .nilFunc],false⟩:=rfl
theorem T_114:T.at 114 = ⟨.fn,1,8,[.lit .nilFunc],false⟩:=rfl
theorem T_115:T.at 115 = ⟨.fn,1,8,[.lit .nilFunc],false⟩:=rfl
theorem T_116:T.at 116 = ⟨.fn,1,8,[.lit .nilFunc],false⟩:=rfl
theorem T_117:T.at 117 = ⟨.fn,1,8,[.lit .nilFunc],false⟩:=rfl
theorem T_118:T.at 118 = ⟨.fn,1,8,[.lit .nilFunc],false⟩:=rfl
theorem T_119:T.at 119 = ⟨.ptr 3,1,8,[.lit (.pointer none)],false⟩:=rfl
theorem T_120:T.at 120 = ⟨.fn,1,8,[.lit .nilFunc],false⟩:=rfl
theorem T_121:T.at 121 = ⟨.fn,1,8,[.lit .nilFunc],false⟩:=rfl
theorem T_122:T.at 122 = ⟨.fn,1,8,[.lit .nilFunc],false⟩:=rfl
theorem T_123:T.at 123 = ⟨.sl 78,1,24,[.sl none 1 []],false⟩:=rfl
theorem T_124:T.at 124 = ⟨.fn,1,8,[.lit .nilFunc],false⟩:=rfl
theorem T_125:T.at 125 = ⟨.fn,1,8,[.lit .nilFunc],false⟩:=rfl
theorem T_126:T.at 126 = ⟨.sl 92,1,24,[.sl none 1 []],false⟩:=rfl
theorem T_127:T.at 127 = ⟨.fn,1,8,[.lit .nilFunc],false⟩:=rfl
theorem T_128:T.at 128 = ⟨.fn,1,8,[.lit .nilFunc],false⟩:=rfl
theorem T_129:T.at 129 = ⟨.sl 103,1,24,[.sl none 1 []],false⟩:=rfl
theorem T_130:T.at 130 = ⟨.fn,1,8,[.lit .nilFunc],false⟩:=rfl
theorem T_131:T.at 131 = ⟨.fn,1,8,[.lit .nilFunc],false⟩:=rfl
theorem T_132:T.at 132 = ⟨.fn,1,8,[.lit .nilFunc],false⟩:=rfl
theorem T_133:T.at 133 = ⟨.tup [107,33],1,0,[.lit (.pointer none),.lit (.int .i64 0)],false⟩:=rfl
theorem T_134:T.at 134 = ⟨.fn,1,8,[.lit .nilFunc],false⟩:=rfl
theorem T_135:T.at 135 = ⟨.tup [3,3],1,0,[.lit (.int .i64 0),.lit (.int .i64 0)],false⟩:=rfl
theorem T_136:T.at 136 = ⟨.fn,1,8,[.lit .nilFunc],false⟩:=rfl
theorem T_137:T.at 137 = ⟨.fn,1,8,[.lit .nilFunc],false⟩:=rfl
theorem T_138:T.at 138 = ⟨.fn,1,8,[.lit .nilFunc],false⟩:=rfl
theorem T_139:T.at 139 = ⟨.fn,1,8,[.lit .nilFunc],false⟩:=rfl
theorem T_140:T.at 140 = ⟨.fn,1,8,[.lit .nilFunc],false⟩:=rfl
theorem T_141:T.at 141 = ⟨.fn,1,8,[.lit .nilFunc],false⟩:=rfl
theorem T_142:T.at 142 = ⟨.sl 144,1,24,[.sl none 3 []],false⟩:=rfl
theorem T_143:T.at 143 = ⟨.st [(0,3),(1,3),(2,142)],3,40,[.lit (.int .i64 0),.lit (.int .i64 0),.sl none 3 []],false⟩:=rfl
theorem T_144:T.at 144 = ⟨.st [(0,3),(1,3),(2,142)],3,40,[.lit (.int .i64 0),.lit (.int .i64 0),.sl none 3 []],false⟩:=rfl
theorem T_145:T.at 145 = ⟨.fn,1,8,[.lit .nilFunc],false⟩:=rfl
theorem T_146:T.at 146 = ⟨.fn,1,8,[.lit .nilFunc],false⟩:=rfl
theorem T_147:T.at 147 = ⟨.fn,1,8,[.lit .nilFunc],false⟩:=rfl
theorem T_148:T.at 148 = ⟨.fn,1,8,[.lit .nilFunc],false⟩:=rfl
theorem T_149:T.at 149 = ⟨.fn,1,8,[.lit .nilFunc],false⟩:=rfl
theorem T_150:T.at 150 = ⟨.fn,1,8,[.lit .nilFunc],false⟩:=rfl
theorem T_151:T.at 151 = ⟨.fn,1,8,[.lit .nilFunc],false⟩:=rfl
theorem T_152:T.at 152 = ⟨.fn,1,8,[.lit .nilFunc],false⟩:=rfl
theorem T_153:T.at 153 = ⟨.fn,1,8,[.lit .nilFunc],false⟩:=rfl
theorem T_154:T.at 154 = ⟨.map 3 30,1,8,[.lit (.map none)],false⟩:=rfl
theorem T_155:T.at 155 = ⟨.tup [30,4],1,0,[.lit (.int .i64 0),.sl none 2 [],.lit (.bool false)],false⟩:=rfl
theorem T_156:T.at 156 = ⟨.fn,1,8,[.lit .nilFunc],false⟩:=rfl
theorem T_157:T.at 157 = ⟨.st [(0,17),(1,17),(2,17),(3,9)],4,40,[.lit (.pointer none),.lit (.pointer none),.lit (.pointer none),.lit (.string ByteArray.empty)],false⟩:=rfl
theorem T_158:T.at 158 = ⟨.st [(0,17),(1,17),(2,17),(3,9)],4,40,[.lit (.pointer none),.lit (.pointer none),.lit (.pointer none),.lit (.string ByteArray.empty)],false⟩:=rfl
theorem T_159:T.at 159 = ⟨.arr 0 16,0,0,[],false⟩:=rfl
theorem T_160:T.at 160 = ⟨.st [(0,159)],0,0,[],false⟩:=rfl
theorem T_161:T.at 161 = ⟨.st [(0,159)],0,0,[],false⟩:=rfl
theorem T_162:T.at 162 = ⟨.fn,1,8,[.lit .nilFunc],false⟩:=rfl
theorem T_163:T.at 163 = ⟨.int .u32,1,4,[.lit (.int .u32 0)],false⟩:=rfl
theorem T_164:T.at 164 = ⟨.int .u8,1,1,[.lit (.int .u8 0)],false⟩:=rfl
theorem T_165:T.at 165 = ⟨.int .u8,1,1,[.lit (.int .u8 0)],false⟩:=rfl
theorem T_166:T.at 166 = ⟨.fn,1,8,[.lit .nilFunc],false⟩:=rfl
theorem T_167:T.at 167 = ⟨.ptr 5,1,8,[.lit (.pointer none)],false⟩:=rfl
theorem T_168:T.at 168 = ⟨.int .i32,1,4,[.lit (.int .i32 0)],false⟩:=rfl
theorem T_169:T.at 169 = ⟨.int .i32,1,4,[.lit (.int .i32 0)],false⟩:=rfl
theorem T_170:T.at 170 = ⟨.st [(0,12),(1,12),(2,163),(3,164),(4,5),(5,5),(6,165),(7,166),(8,167),(9,168),(10,169)],11,48,[.lit (.int .u64 0),.lit (.int .u64 0),.lit (.int .u32 0),.lit (.int .u8 0),.lit (.int .u8 0),.lit (.int .u8 0),.lit (.int .u8 0),.lit .nilFunc,.lit (.pointer none),.lit (.int .i32 0),.lit (.int .i32 0)],false⟩:=rfl
theorem T_171:T.at 171 = ⟨.st [(0,12),(1,12),(2,163),(3,164),(4,5),(5,5),(6,165),(7,166),(8,167),(9,168),(10,169)],11,48,[.lit (.int .u64 0),.lit (.int .u64 0),.lit (.int .u32 0),.lit (.int .u8 0),.lit (.int .u8 0),.lit (.int .u8 0),.lit (.int .u8 0),.lit .nilFunc,.lit (.pointer none),.lit (.int .i32 0),.lit (.int .i32 0)],false⟩:=rfl
theorem T_172:T.at 172 = ⟨.other,1,8,[.lit (.pointer none)],false⟩:=rfl
attribute [go_sem] T_0 T_1 T_2 T_3 T_4 T_5 T_6 T_7 T_8 T_9 T_10 T_11 T_12 T_13 T_14 T_15 T_16 T_17 T_18 T_19 T_20 T_21 T_22 T_23 T_24 T_25 T_26 T_27 T_28 T_29 T_30 T_31 T_32 T_33 T_34 T_35 T_36 T_37 T_38 T_39 T_40 T_41 T_42 T_43 T_44 T_45 T_46 T_47 T_48 T_49 T_50 T_51 T_52 T_53 T_54 T_55 T_56 T_57 T_58 T_59 T_60 T_61 T_62 T_63 T_64 T_65 T_66 T_67 T_68 T_69 T_70 T_71 T_72 T_73 T_74 T_75 T_76 T_77 T_78 T_79 T_80 T_81 T_82 T_83 T_84 T_85 T_86 T_87 T_88 T_89 T_90 T_91 T_92 T_93 T_94 T_95 T_96 T_97 T_98 T_99 T_100 T_101 T_102 T_103 T_104 T_105 T_106 T_107 T_108 T_109 T_110 T_111 T_112 T_113 T_114 T_115 T_116 T_117 T_118 T_119 T_120 T_121 T_122 T_123 T_124 T_125 T_126 T_127 T_128 T_129 T_130 T_131 T_132 T_133 T_134 T_135 T_136 T_137 T_138 T_139 T_140 T_141 T_142 T_143 T_144 T_145 T_146 T_147 T_148 T_149 T_150 T_151 T_152 T_153 T_154 T_155 T_156 T_157 T_158 T_159 T_160 T_161 T_162 T_163 T_164 T_165 T_166 T_167 T_168 T_169 T_170 T_171 T_172
noncomputable def HL:List (Nat×FH):=[
 (7,{ ok:=true,mv:=[22,31,40],sh:=[15,16,18,22,23,24,25,26,27,31,32,33,34,35,36,41,42,43,44,71,82,83,87,88,92,93,94] }),
 (8,{ ok:=true,mv:=[11],sh:=[17],heads:=[(0,[3,4,11,12,13]),(2,[3,4,22,23,24])],outs:=[(0,[3,4]),(1,[3,4,11,12,13]),(2,[3,4]),(3,[3,4,22,23,24])] }),
 (9,{ ok:=true,mv:=[25,33],sh:=[26,27,28,34,35,36,48,55,63,66] }),
 (10,{ ok:=true,mv:=[64,92],nw:=[9,46,94],sh:=[19,23,24,28,29,34,64,65,66,69,75,80,95,113,114,126],heads:=[(2,[4,7,9,11,12,13,48,49]),(4,[4,7,9,11,12,13,58,59,60]),(6,[7,9,19,97,98,99])],outs:=[(0,[4,7,9]),(1,[4,7,9]),(2,[4,7,9,11,12,13]),(3,[4,7,9,11,12,13,48,49]),(4,[4,7,9,12,13]),(5,[4,7,9,11,12,13,58,59,60]),(6,[7,19]),(7,[7,9,19,97,98,99])],nt:=128,fz:=[46,92] }),
 (12,{ ok:=true,sh:=[5,30,35],heads:=[(0,[2,3,22,23])],outs:=[(0,[]),(1,[2,3,22,23])] }),
 (13,{ ok:=true,mv:=[34,82,110],nw:=[10,55,112],sh:=[15,24,25,29,30,35,36,43,68,82,83,84,87,93,98,129,130],heads:=[(2,[4,8,10,12,13,14,57,58]),(4,[4,8,10,12,13,14,76,77,78]),(6,[10,20,114,115,116])],outs:=[(0,[4,10]),(1,[4,8,10]),(2,[4,8,10,12,13,14]),(3,[4,8,10,12,13,14,57,58]),(4,[4,8,10,13,14]),(5,[4,8,10,12,13,14,76,77,78]),(6,[20]),(7,[10,20,114,115,116])],nt:=140,fz:=[20,55,110] }),
 (15,{ ok:=true,sh:=[5,19,23],heads:=[(0,[0,1,12,13])],outs:=[(0,[]),(1,[0,1,12,13])] }),
 (17,{ ok:=true }),
 (20,{ ok:=true,mv:=[14],sh:=[15,16,17,18] }),
 (21,{ ok:=true,mv:=[15,29,32],sh:=[10,16,17,18,19,29,30,31,37,38,45] }),
 (22,{ ok:=true,sh:=[5,15,16,17,21,25,27,28,29,30,31],heads:=[(1,[10,11,34,35,36])],outs:=[(0,[5,6,7]),(1,[11]),(2,[10,11,34,35,36])] }),
 (23,{ ok:=true,sh:=[14],heads:=[(0,[3,7,8,9])],outs:=[(0,[3]),(1,[3,7,8,9])] }),
 (24,{ ok:=true,sh:=[5,8,12,13] }),
 (25,{ ok:=true,sh:=[2,5,6,7,9] }),
 (26,{ ok:=true,sh:=[5,9,12,17,59,64,65],heads:=[(0,[3,4,5,7,8,50,51])],outs:=[(0,[7,8]),(1,[3,4,5,7,8,50,51])] }),
 (27,{ ok:=true,sh:=[5,6] }),
 (28,{ ok:=true,sh:=[2,9,12,41,92,104],heads:=[(0,[2,3,5,33,34,35]),(2,[2,5,60,61,62]),(4,[2,5,60,61,62,97,98,99])],outs:=[(0,[2,3,5]),(1,[2,3,5,33,34,35]),(2,[]),(3,[2,5,60,61,62]),(4,[2,5,60,61,62]),(5,[2,5,60,61,62,97,98,99])] }),
 (29,{ ok:=true,sh:=[5,6,9,10] }),
 (30,{ ok:=true,pu:=false,esc:=true }),
 (31,{ ok:=true,mv:=[56],heads:=[(0,[2,6,8,30,31,32])],outs:=[(0,[6,8]),(1,[2,6,8,30,31,32])],pu:=false,rm:=true,fz:=[6] }),
 (32,{ ok:=true,sh:=[23,25] }),
 (33,{ ok:=true,mv:=[17],sh:=[3,18],heads:=[(0,[2,3,10,11,12])],outs:=[(0,[2,3]),(1,[2,3,10,11,12])] }),
 (34,{ ok:=true,sh:=[7,8,12,13] }),
 (37,{ ok:=true,sh:=[6,7,10] }),
 (38,{ ok:=true,sh:=[14],heads:=[(0,[3,7,8,9])],outs:=[(0,[3]),(1,[3,7,8,9])] }),
 (39,{ ok:=true,mv:=[65,68],sh:=[8],heads:=[(0,[2,6,8,22,23,24]),(2,[2,6,8,9,22,23,24,58,59,60])],outs:=[(0,[6,8]),(1,[2,6,8,22,23,24]),(2,[2,6,8,22,23,24]),(3,[2,6,8,9,22,23,24,58,59,60])],pu:=false,rm:=true,fz:=[6,19],ap:=[69] }),
 (40,{ ok:=true,sh:=[42,44],outs:=[(0,[2,3])] }),
 (42,{ ok:=true,mv:=[65],nw:=[12],sh:=[33,37],heads:=[(0,[1,3,4]),(2,[1,3,4,15,16,17]),(4,[1,3,4,6,7,15,16,17,22,23,24])],outs:=[(0,[3]),(1,[1,3,4]),(2,[1,3,4]),(3,[1,3,4,15,16,17]),(4,[1,3,4,6,7,15,16,17]),(5,[1,3,4,6,7,15,16,17,22,23,24])] }),
 (44,{ ok:=true,sh:=[5],heads:=[(0,[0,1,12,13])],outs:=[(0,[]),(1,[0,1,12,13])] }),
 (45,{ ok:=true,mv:=[15],sh:=[6,11,17] }),
 (47,{ ok:=true }),
 (50,{ ok:=true,sh:=[5,6],pu:=false }),
 (52,{ ok:=true,mv:=[29,40,51],sh:=[16,17,21,22,26,30,31,32,33,41],outs:=[(0,[12,14,15])] }),
 (53,{ ok:=true,mv:=[59,81,90],sh:=[0,2,3,11,32,33,34,59,60,61,71,72,89,93,94,95],heads:=[(0,[0,2,3,5,8,21,22,23]),(2,[0,2,5,8,12,52,53,54])],outs:=[(0,[0,3,5,8]),(1,[0,2,3,5,8,21,22,23]),(2,[8,12]),(3,[0,2,5,8,12,52,53,54])] }),
 (54,{ ok:=true,sh:=[6],heads:=[(0,[3,9,10,11])],outs:=[(0,[]),(1,[3,9,10,11])] }),
 (55,{ ok:=true,mv:=[26,131],nw:=[37],sh:=[7,12,13,15,27,28,29,30,54,55,56,57,59,63,64,109,116],heads:=[(0,[1,4,6,7,9,20,21,22]),(2,[1,4,6,7,9,12,39,40]),(4,[6,7,9,12,69,70,71]),(6,[6,7,9,12,15,16,69,70,71,102,103,104])],outs:=[(0,[1,4,6,7,9]),(1,[1,4,6,7,9,20,21,22]),(2,[4,6,7,9,12]),(3,[1,4,6,7,9,12,39,40]),(4,[12]),(5,[6,7,9,12,69,70,71]),(6,[6,7,9,12,15,16,69,70,71]),(7,[6,7,9,12,15,16,69,70,71,102,103,104])] }),
 (56,{ ok:=true,heads:=[(0,[10,11,12])],outs:=[(0,[]),(1,[10,11,12])] }),
 (57,{ ok:=true,sh:=[2,3,37,38],heads:=[(0,[2,31,32,33])],outs:=[(0,[]),(1,[2,31,32,33])] }),
 (58,{ ok:=true,mv:=[7],sh:=[13,14],heads:=[(0,[1,7,8,9])],outs:=[(0,[]),(1,[1,7,8,9])] }),
 (59,{ ok:=true,mv:=[15],sh:=[16,17,22,24,25],heads:=[(0,[2,3,5,9,10,11])],outs:=[(0,[2,3,5]),(1,[2,3,5,9,10,11])] }),
 (60,{ ok:=true,sh:=[19,22],heads:=[(0,[1,5,9,10,11])],outs:=[(0,[5]),(1,[1,5,9,10,11])] }),
 (61,{ ok:=true,sh:=[9] }),
 (62,{ ok:=true,pu:=false }),
 (63,{ ok:=true,sh:=[3,4,50,51,52],heads:=[(0,[2,3,44,45,46])],outs:=[(0,[]),(1,[2,3,44,45,46])],pu:=false }),
 (64,{ ok:=true,sh:=[7],pu:=false }),
 (65,{ ok:=true,sh:=[16,24,25],heads:=[(0,[1,2,3,4,9,10,11])],outs:=[(0,[2,3,4]),(1,[1,2,3,4,9,10,11])],pu:=false }),
 (66,{ ok:=true,sh:=[5,6,7,8] }),
 (67,{ ok:=true,sh:=[2,8,11],heads:=[(0,[2,3,31,32,33]),(2,[2,3,62,63,64]),(4,[2,3,62,63,64,104,105,106])],outs:=[(0,[2,3]),(1,[2,3,31,32,33]),(2,[]),(3,[2,3,62,63,64]),(4,[2,3,62,63,64]),(5,[2,3,62,63,64,104,105,106])] }),
 (69,{ ok:=true,mv:=[67],nw:=[12],sh:=[36,40],heads:=[(0,[1,3,14,15]),(2,[1,3,4,14,15,18,19,20]),(4,[1,3,4,6,7,14,15,18,19,20,25,26,27])],outs:=[(0,[3]),(1,[1,3,14,15]),(2,[1,3,4,14,15]),(3,[1,3,4,14,15,18,19,20]),(4,[1,3,4,6,7,14,15,18,19,20]),(5,[1,3,4,6,7,14,15,18,19,20,25,26,27])] }),
 (70,{ ok:=true,mv:=[34,36],sh:=[27,28],heads:=[(0,[0,1,2,11,12,13])],outs:=[(0,[0,1]),(1,[0,1,2,11,12,13])],pu:=false }),
 (71,{ ok:=true,sh:=[5,6] }),
 (72,{ ok:=true,mv:=[31,33],sh:=[24,25],heads:=[(0,[0,1,9,10,11])],outs:=[(0,[0,1]),(1,[0,1,9,10,11])] }),
 (73,{ ok:=true }),
 (75,{ ok:=true }),
 (76,{ ok:=true }),
 (80,{ ok:=true,sh:=[15],heads:=[(0,[0,1,7,8])],outs:=[(0,[]),(1,[0,1,7,8])],pu:=false }),
 (81,{ ok:=true,mv:=[22,33,51,58,124,125],nw:=[13,74,77],sh:=[12,17,21,23,24,36,61,80,91,92,94,112,113,114,115,116],heads:=[(2,[5,7,12,13,14,17,18,84,85]),(4,[5,7,12,13,14,17,99,100,101])],outs:=[(0,[12]),(1,[5,7,12,13]),(2,[5,7,12,13,14,17]),(3,[5,7,12,13,14,17,18,84,85]),(4,[5,7,12,13,17]),(5,[5,7,12,13,14,17,99,100,101])],nt:=131,fz:=[61,125],ap:=[54,64,127],lo:=[(51,9),(58,8),(47,0)],so:=[(66,9)],lm:=[(51,2004),(58,2004),(124,2004),(120,2005),(121,2005)] }),
 (82,{ ok:=true,sh:=[0,7],heads:=[(0,[0,4,5,12,13,14])],outs:=[(0,[4,5]),(1,[0,4,5,12,13,14])],pu:=false }),
 (83,{ ok:=true,sh:=[0,72],heads:=[(0,[0,2,7,45,46,47])],outs:=[(0,[7]),(1,[0,2,7,45,46,47])],pu:=false,rd:=true }),
 (84,{ ok:=true,sh:=[8,9,22,24] }),
 (85,{ ok:=true,mv:=[50],nw:=[12],heads:=[(0,[1,3,4]),(2,[1,3,4,15,16,17]),(4,[1,3,4,6,7,15,16,17,22,23,24])],outs:=[(0,[3]),(1,[1,3,4]),(2,[1,3,4]),(3,[1,3,4,15,16,17]),(4,[1,3,4,6,7,15,16,17]),(5,[1,3,4,6,7,15,16,17,22,23,24])] }),
 (86,{ ok:=true }),
 (87,{ ok:=true }),
 (88,{ ok:=true,mv:=[7],heads:=[(0,[1,7,8,9])],outs:=[(0,[]),(1,[1,7,8,9])] }),
 (89,{ ok:=true,mv:=[48],sh:=[11,35,40,43,45],heads:=[(0,[1,2,7,13,14,15]),(2,[1,2,7,9,10,11,13,14,15])],outs:=[(0,[7]),(1,[1,2,7,13,14,15]),(2,[1,2,7,9,10,13,14,15]),(3,[1,2,7,9,10,11,13,14,15])],fz:=[7] }),
 (90,{ ok:=true }),
 (91,{ ok:=true,sh:=[2,3,7,9,12,14,16,22,24] }),
 (92,{ ok:=true,mv:=[26],sh:=[17],heads:=[(0,[2,3,11,12,13])],outs:=[(0,[2,3]),(1,[2,3,11,12,13])] }),
 (94,{ ok:=true }),
 (95,{ ok:=true,sh:=[7,9] }),
 (97,{ ok:=true,mv:=[6],pu:=false,rm:=true }),
 (98,{ ok:=true,mv:=[14],outs:=[(0,[4])],pu:=false,rd:=true }),
 (99,{ ok:=true,mv:=[57],sh:=[16,54,55,70,75,76,82],heads:=[(0,[1,2,4,6,7,18,19,20]),(3,[4,6,7,10,11,12,57,58,59])],outs:=[(0,[1,2,4,6,7]),(1,[1,2,4,6,7,18,19,20]),(2,[1,2,4,6,7]),(3,[4,11]),(4,[4,6,7,10,11,12,57,58,59])],fz:=[11] }),
 (100,{ ok:=true,mv:=[32,41],sh:=[0,5],heads:=[(0,[0,1,5])],outs:=[(0,[0,1,5]),(1,[0,1,5])] }),
 (101,{ ok:=true,mv:=[6],heads:=[(0,[3,6,7,8])],outs:=[(0,[3]),(1,[3,6,7,8])] }),
 (102,{ ok:=true,mv:=[34,36],sh:=[27,28],heads:=[(0,[0,1,2,11,12,13])],outs:=[(0,[0,1]),(1,[0,1,2,11,12,13])],pu:=false }),
 (103,{ ok:=true }),
 (104,{ ok:=true,mv:=[61],nw:=[15],sh:=[5,7,36,40],heads:=[(0,[1,2,5,17,18,19]),(2,[1,2,5,6,7,8,17,18,19,25,26,27])],outs:=[(0,[2,5]),(1,[1,2,5,17,18,19]),(2,[1,2,5,6,7,8,17,18,19]),(3,[1,2,5,6,7,8,17,18,19,25,26,27])],pu:=false,esc:=true }),
 (105,{ ok:=true,mv:=[17],sh:=[3,18],heads:=[(0,[2,3,10,11,12])],outs:=[(0,[2,3]),(1,[2,3,10,11,12])] }),
 (106,{ ok:=true,mv:=[15,52],sh:=[12,54,63,64],heads:=[(0,[0,1,3,4,6,9,26,27,28]),(2,[0,1,3,4,6,9,10,12,26,27,28,45,46,47])],outs:=[(0,[0,1,6,9]),(1,[0,1,3,4,6,9,26,27,28]),(2,[0,1,3,4,6,9,10,12,26,27,28]),(3,[0,1,3,4,6,9,10,12,26,27,28,45,46,47])],pu:=false,fz:=[9],fr:=[(55,1001)],lm:=[(52,1001)] })]
noncomputable def H:FuncId→FH:=hOf HL
theorem H_7:H 7 = { ok:=true,mv:=[22,31,40],sh:=[15,16,18,22,23,24,25,26,27,31,32,33,34,35,36,41,42,43,44,71,82,83,87,88,92,93,94] }:=rfl
theorem H_8:H 8 = { ok:=true,mv:=[11],sh:=[17],heads:=[(0,[3,4,11,12,13]),(2,[3,4,22,23,24])],outs:=[(0,[3,4]),(1,[3,4,11,12,13]),(2,[3,4]),(3,[3,4,22,23,24])] }:=rfl
theorem H_9:H 9 = { ok:=true,mv:=[25,33],sh:=[26,27,28,34,35,36,48,55,63,66] }:=rfl
theorem H_10:H 10 = { ok:=true,mv:=[64,92],nw:=[9,46,94],sh:=[19,23,24,28,29,34,64,65,66,69,75,80,95,113,114,126],heads:=[(2,[4,7,9,11,12,13,48,49]),(4,[4,7,9,11,12,13,58,59,60]),(6,[7,9,19,97,98,99])],outs:=[(0,[4,7,9]),(1,[4,7,9]),(2,[4,7,9,11,12,13]),(3,[4,7,9,11,12,13,48,49]),(4,[4,7,9,12,13]),(5,[4,7,9,11,12,13,58,59,60]),(6,[7,19]),(7,[7,9,19,97,98,99])],nt:=128,fz:=[46,92] }:=rfl
theorem H_12:H 12 = { ok:=true,sh:=[5,30,35],heads:=[(0,[2,3,22,23])],outs:=[(0,[]),(1,[2,3,22,23])] }:=rfl
theorem H_13:H 13 = { ok:=true,mv:=[34,82,110],nw:=[10,55,112],sh:=[15,24,25,29,30,35,36,43,68,82,83,84,87,93,98,129,130],heads:=[(2,[4,8,10,12,13,14,57,58]),(4,[4,8,10,12,13,14,76,77,78]),(6,[10,20,114,115,116])],outs:=[(0,[4,10]),(1,[4,8,10]),(2,[4,8,10,12,13,14]),(3,[4,8,10,12,13,14,57,58]),(4,[4,8,10,13,14]),(5,[4,8,10,12,13,14,76,77,78]),(6,[20]),(7,[10,20,114,115,116])],nt:=140,fz:=[20,55,110] }:=rfl
theorem H_15:H 15 = { ok:=true,sh:=[5,19,23],heads:=[(0,[0,1,12,13])],outs:=[(0,[]),(1,[0,1,12,13])] }:=rfl
theorem H_17:H 17 = { ok:=true }:=rfl
theorem H_20:H 20 = { ok:=true,mv:=[14],sh:=[15,16,17,18] }:=rfl
theorem H_21:H 21 = { ok:=true,mv:=[15,29,32],sh:=[10,16,17,18,19,29,30,31,37,38,45] }:=rfl
theorem H_22:H 22 = { ok:=true,sh:=[5,15,16,17,21,25,27,28,29,30,31],heads:=[(1,[10,11,34,35,36])],outs:=[(0,[5,6,7]),(1,[11]),(2,[10,11,34,35,36])] }:=rfl
theorem H_23:H 23 = { ok:=true,sh:=[14],heads:=[(0,[3,7,8,9])],outs:=[(0,[3]),(1,[3,7,8,9])] }:=rfl
theorem H_24:H 24 = { ok:=true,sh:=[5,8,12,13] }:=rfl
theorem H_25:H 25 = { ok:=true,sh:=[2,5,6,7,9] }:=rfl
theorem H_26:H 26 = { ok:=true,sh:=[5,9,12,17,59,64,65],heads:=[(0,[3,4,5,7,8,50,51])],outs:=[(0,[7,8]),(1,[3,4,5,7,8,50,51])] }:=rfl
theorem H_27:H 27 = { ok:=true,sh:=[5,6] }:=rfl
theorem H_28:H 28 = { ok:=true,sh:=[2,9,12,41,92,104],heads:=[(0,[2,3,5,33,34,35]),(2,[2,5,60,61,62]),(4,[2,5,60,61,62,97,98,99])],outs:=[(0,[2,3,5]),(1,[2,3,5,33,34,35]),(2,[]),(3,[2,5,60,61,62]),(4,[2,5,60,61,62]),(5,[2,5,60,61,62,97,98,99])] }:=rfl
theorem H_29:H 29 = { ok:=true,sh:=[5,6,9,10] }:=rfl
theorem H_30:H 30 = { ok:=true,pu:=false,esc:=true }:=rfl
theorem H_31:H 31 = { ok:=true,mv:=[56],heads:=[(0,[2,6,8,30,31,32])],outs:=[(0,[6,8]),(1,[2,6,8,30,31,32])],pu:=false,rm:=true,fz:=[6] }:=rfl
theorem H_32:H 32 = { ok:=true,sh:=[23,25] }:=rfl
theorem H_33:H 33 = { ok:=true,mv:=[17],sh:=[3,18],heads:=[(0,[2,3,10,11,12])],outs:=[(0,[2,3]),(1,[2,3,10,11,12])] }:=rfl
theorem H_34:H 34 = { ok:=true,sh:=[7,8,12,13] }:=rfl
theorem H_37:H 37 = { ok:=true,sh:=[6,7,10] }:=rfl
theorem H_38:H 38 = { ok:=true,sh:=[14],heads:=[(0,[3,7,8,9])],outs:=[(0,[3]),(1,[3,7,8,9])] }:=rfl
theorem H_39:H 39 = { ok:=true,mv:=[65,68],sh:=[8],heads:=[(0,[2,6,8,22,23,24]),(2,[2,6,8,9,22,23,24,58,59,60])],outs:=[(0,[6,8]),(1,[2,6,8,22,23,24]),(2,[2,6,8,22,23,24]),(3,[2,6,8,9,22,23,24,58,59,60])],pu:=false,rm:=true,fz:=[6,19],ap:=[69] }:=rfl
theorem H_40:H 40 = { ok:=true,sh:=[42,44],outs:=[(0,[2,3])] }:=rfl
theorem H_42:H 42 = { ok:=true,mv:=[65],nw:=[12],sh:=[33,37],heads:=[(0,[1,3,4]),(2,[1,3,4,15,16,17]),(4,[1,3,4,6,7,15,16,17,22,23,24])],outs:=[(0,[3]),(1,[1,3,4]),(2,[1,3,4]),(3,[1,3,4,15,16,17]),(4,[1,3,4,6,7,15,16,17]),(5,[1,3,4,6,7,15,16,17,22,23,24])] }:=rfl
theorem H_44:H 44 = { ok:=true,sh:=[5],heads:=[(0,[0,1,12,13])],outs:=[(0,[]),(1,[0,1,12,13])] }:=rfl
theorem H_45:H 45 = { ok:=true,mv:=[15],sh:=[6,11,17] }:=rfl
theorem H_47:H 47 = { ok:=true }:=rfl
theorem H_50:H 50 = { ok:=true,sh:=[5,6],pu:=false }:=rfl
theorem H_52:H 52 = { ok:=true,mv:=[29,40,51],sh:=[16,17,21,22,26,30,31,32,33,41],outs:=[(0,[12,14,15])] }:=rfl
theorem H_53:H 53 = { ok:=true,mv:=[59,81,90],sh:=[0,2,3,11,32,33,34,59,60,61,71,72,89,93,94,95],heads:=[(0,[0,2,3,5,8,21,22,23]),(2,[0,2,5,8,12,52,53,54])],outs:=[(0,[0,3,5,8]),(1,[0,2,3,5,8,21,22,23]),(2,[8,12]),(3,[0,2,5,8,12,52,53,54])] }:=rfl
theorem H_54:H 54 = { ok:=true,sh:=[6],heads:=[(0,[3,9,10,11])],outs:=[(0,[]),(1,[3,9,10,11])] }:=rfl
theorem H_55:H 55 = { ok:=true,mv:=[26,131],nw:=[37],sh:=[7,12,13,15,27,28,29,30,54,55,56,57,59,63,64,109,116],heads:=[(0,[1,4,6,7,9,20,21,22]),(2,[1,4,6,7,9,12,39,40]),(4,[6,7,9,12,69,70,71]),(6,[6,7,9,12,15,16,69,70,71,102,103,104])],outs:=[(0,[1,4,6,7,9]),(1,[1,4,6,7,9,20,21,22]),(2,[4,6,7,9,12]),(3,[1,4,6,7,9,12,39,40]),(4,[12]),(5,[6,7,9,12,69,70,71]),(6,[6,7,9,12,15,16,69,70,71]),(7,[6,7,9,12,15,16,69,70,71,102,103,104])] }:=rfl
theorem H_56:H 56 = { ok:=true,heads:=[(0,[10,11,12])],outs:=[(0,[]),(1,[10,11,12])] }:=rfl
theorem H_57:H 57 = { ok:=true,sh:=[2,3,37,38],heads:=[(0,[2,31,32,33])],outs:=[(0,[]),(1,[2,31,32,33])] }:=rfl
theorem H_58:H 58 = { ok:=true,mv:=[7],sh:=[13,14],heads:=[(0,[1,7,8,9])],outs:=[(0,[]),(1,[1,7,8,9])] }:=rfl
theorem H_59:H 59 = { ok:=true,mv:=[15],sh:=[16,17,22,24,25],heads:=[(0,[2,3,5,9,10,11])],outs:=[(0,[2,3,5]),(1,[2,3,5,9,10,11])] }:=rfl
theorem H_60:H 60 = { ok:=true,sh:=[19,22],heads:=[(0,[1,5,9,10,11])],outs:=[(0,[5]),(1,[1,5,9,10,11])] }:=rfl
theorem H_61:H 61 = { ok:=true,sh:=[9] }:=rfl
theorem H_62:H 62 = { ok:=true,pu:=false }:=rfl
theorem H_63:H 63 = { ok:=true,sh:=[3,4,50,51,52],heads:=[(0,[2,3,44,45,46])],outs:=[(0,[]),(1,[2,3,44,45,46])],pu:=false }:=rfl
theorem H_64:H 64 = { ok:=true,sh:=[7],pu:=false }:=rfl
theorem H_65:H 65 = { ok:=true,sh:=[16,24,25],heads:=[(0,[1,2,3,4,9,10,11])],outs:=[(0,[2,3,4]),(1,[1,2,3,4,9,10,11])],pu:=false }:=rfl
theorem H_66:H 66 = { ok:=true,sh:=[5,6,7,8] }:=rfl
theorem H_67:H 67 = { ok:=true,sh:=[2,8,11],heads:=[(0,[2,3,31,32,33]),(2,[2,3,62,63,64]),(4,[2,3,62,63,64,104,105,106])],outs:=[(0,[2,3]),(1,[2,3,31,32,33]),(2,[]),(3,[2,3,62,63,64]),(4,[2,3,62,63,64]),(5,[2,3,62,63,64,104,105,106])] }:=rfl
theorem H_69:H 69 = { ok:=true,mv:=[67],nw:=[12],sh:=[36,40],heads:=[(0,[1,3,14,15]),(2,[1,3,4,14,15,18,19,20]),(4,[1,3,4,6,7,14,15,18,19,20,25,26,27])],outs:=[(0,[3]),(1,[1,3,14,15]),(2,[1,3,4,14,15]),(3,[1,3,4,14,15,18,19,20]),(4,[1,3,4,6,7,14,15,18,19,20]),(5,[1,3,4,6,7,14,15,18,19,20,25,26,27])] }:=rfl
theorem H_70:H 70 = { ok:=true,mv:=[34,36],sh:=[27,28],heads:=[(0,[0,1,2,11,12,13])],outs:=[(0,[0,1]),(1,[0,1,2,11,12,13])],pu:=false }:=rfl
theorem H_71:H 71 = { ok:=true,sh:=[5,6] }:=rfl
theorem H_72:H 72 = { ok:=true,mv:=[31,33],sh:=[24,25],heads:=[(0,[0,1,9,10,11])],outs:=[(0,[0,1]),(1,[0,1,9,10,11])] }:=rfl
theorem H_73:H 73 = { ok:=true }:=rfl
theorem H_75:H 75 = { ok:=true }:=rfl
theorem H_76:H 76 = { ok:=true }:=rfl
theorem H_80:H 80 = { ok:=true,sh:=[15],heads:=[(0,[0,1,7,8])],outs:=[(0,[]),(1,[0,1,7,8])],pu:=false }:=rfl
theorem H_81:H 81 = { ok:=true,mv:=[22,33,51,58,124,125],nw:=[13,74,77],sh:=[12,17,21,23,24,36,61,80,91,92,94,112,113,114,115,116],heads:=[(2,[5,7,12,13,14,17,18,84,85]),(4,[5,7,12,13,14,17,99,100,101])],outs:=[(0,[12]),(1,[5,7,12,13]),(2,[5,7,12,13,14,17]),(3,[5,7,12,13,14,17,18,84,85]),(4,[5,7,12,13,17]),(5,[5,7,12,13,14,17,99,100,101])],nt:=131,fz:=[61,125],ap:=[54,64,127],lo:=[(51,9),(58,8),(47,0)],so:=[(66,9)],lm:=[(51,2004),(58,2004),(124,2004),(120,2005),(121,2005)] }:=rfl
theorem H_82:H 82 = { ok:=true,sh:=[0,7],heads:=[(0,[0,4,5,12,13,14])],outs:=[(0,[4,5]),(1,[0,4,5,12,13,14])],pu:=false }:=rfl
theorem H_83:H 83 = { ok:=true,sh:=[0,72],heads:=[(0,[0,2,7,45,46,47])],outs:=[(0,[7]),(1,[0,2,7,45,46,47])],pu:=false,rd:=true }:=rfl
theorem H_84:H 84 = { ok:=true,sh:=[8,9,22,24] }:=rfl
theorem H_85:H 85 = { ok:=true,mv:=[50],nw:=[12],heads:=[(0,[1,3,4]),(2,[1,3,4,15,16,17]),(4,[1,3,4,6,7,15,16,17,22,23,24])],outs:=[(0,[3]),(1,[1,3,4]),(2,[1,3,4]),(3,[1,3,4,15,16,17]),(4,[1,3,4,6,7,15,16,17]),(5,[1,3,4,6,7,15,16,17,22,23,24])] }:=rfl
theorem H_86:H 86 = { ok:=true }:=rfl
theorem H_87:H 87 = { ok:=true }:=rfl
theorem H_88:H 88 = { ok:=true,mv:=[7],heads:=[(0,[1,7,8,9])],outs:=[(0,[]),(1,[1,7,8,9])] }:=rfl
theorem H_89:H 89 = { ok:=true,mv:=[48],sh:=[11,35,40,43,45],heads:=[(0,[1,2,7,13,14,15]),(2,[1,2,7,9,10,11,13,14,15])],outs:=[(0,[7]),(1,[1,2,7,13,14,15]),(2,[1,2,7,9,10,13,14,15]),(3,[1,2,7,9,10,11,13,14,15])],fz:=[7] }:=rfl
theorem H_90:H 90 = { ok:=true }:=rfl
theorem H_91:H 91 = { ok:=true,sh:=[2,3,7,9,12,14,16,22,24] }:=rfl
theorem H_92:H 92 = { ok:=true,mv:=[26],sh:=[17],heads:=[(0,[2,3,11,12,13])],outs:=[(0,[2,3]),(1,[2,3,11,12,13])] }:=rfl
theorem H_94:H 94 = { ok:=true }:=rfl
theorem H_95:H 95 = { ok:=true,sh:=[7,9] }:=rfl
theorem H_97:H 97 = { ok:=true,mv:=[6],pu:=false,rm:=true }:=rfl
theorem H_98:H 98 = { ok:=true,mv:=[14],outs:=[(0,[4])],pu:=false,rd:=true }:=rfl
theorem H_99:H 99 = { ok:=true,mv:=[57],sh:=[16,54,55,70,75,76,82],heads:=[(0,[1,2,4,6,7,18,19,20]),(3,[4,6,7,10,11,12,57,58,59])],outs:=[(0,[1,2,4,6,7]),(1,[1,2,4,6,7,18,19,20]),(2,[1,2,4,6,7]),(3,[4,11]),(4,[4,6,7,10,11,12,57,58,59])],fz:=[11] }:=rfl
theorem H_100:H 100 = { ok:=true,mv:=[32,41],sh:=[0,5],heads:=[(0,[0,1,5])],outs:=[(0,[0,1,5]),(1,[0,1,5])] }:=rfl
theorem H_101:H 101 = { ok:=true,mv:=[6],heads:=[(0,[3,6,7,8])],outs:=[(0,[3]),(1,[3,6,7,8])] }:=rfl
theorem H_102:H 102 = { ok:=true,mv:=[34,36],sh:=[27,28],heads:=[(0,[0,1,2,11,12,13])],outs:=[(0,[0,1]),(1,[0,1,2,11,12,13])],pu:=false }:=rfl
theorem H_103:H 103 = { ok:=true }:=rfl
theorem H_104:H 104 = { ok:=true,mv:=[61],nw:=[15],sh:=[5,7,36,40],heads:=[(0,[1,2,5,17,18,19]),(2,[1,2,5,6,7,8,17,18,19,25,26,27])],outs:=[(0,[2,5]),(1,[1,2,5,17,18,19]),(2,[1,2,5,6,7,8,17,18,19]),(3,[1,2,5,6,7,8,17,18,19,25,26,27])],pu:=false,esc:=true }:=rfl
theorem H_105:H 105 = { ok:=true,mv:=[17],sh:=[3,18],heads:=[(0,[2,3,10,11,12])],outs:=[(0,[2,3]),(1,[2,3,10,11,12])] }:=rfl
theorem H_106:H 106 = { ok:=true,mv:=[15,52],sh:=[12,54,63,64],heads:=[(0,[0,1,3,4,6,9,26,27,28]),(2,[0,1,3,4,6,9,10,12,26,27,28,45,46,47])],outs:=[(0,[0,1,6,9]),(1,[0,1,3,4,6,9,26,27,28]),(2,[0,1,3,4,6,9,10,12,26,27,28]),(3,[0,1,3,4,6,9,10,12,26,27,28,45,46,47])],pu:=false,fz:=[9],fr:=[(55,1001)],lm:=[(52,1001)] }:=rfl
attribute [go_sem] H_7 H_8 H_9 H_10 H_12 H_13 H_15 H_17 H_20 H_21 H_22 H_23 H_24 H_25 H_26 H_27 H_28 H_29 H_30 H_31 H_32 H_33 H_34 H_37 H_38 H_39 H_40 H_42 H_44 H_45 H_47 H_50 H_52 H_53 H_54 H_55 H_56 H_57 H_58 H_59 H_60 H_61 H_62 H_63 H_64 H_65 H_66 H_67 H_69 H_70 H_71 H_72 H_73 H_75 H_76 H_80 H_81 H_82 H_83 H_84 H_85 H_86 H_87 H_88 H_89 H_90 H_91 H_92 H_94 H_95 H_97 H_98 H_99 H_100 H_101 H_102 H_103 H_104 H_105 H_106
noncomputable def c7:Code:=Try.f7.body.getD .skip
theorem call7 (args:List AV) (σ:List AObj):call Try.prog T H (.fn 7) args σ = run Try.prog T H 7 σ.length 0 c7 { env:=envOf 0 args,σ:=σ } (endK Try.prog T H 7 [.tmp 8] σ.length) :=
 call_fn Try.func7 rfl rfl rfl _ _
noncomputable def c8:Code:=Try.f8.body.getD .skip
theorem call8 (args:List AV) (σ:List AObj):call Try.prog T H (.fn 8) args σ = run Try.prog T H 8 σ.length 0 c8 { env:=envOf 0 args,σ:=σ } (endK Try.prog T H 8 [.tmp 6] σ.length) :=
 call_fn Try.func8 rfl rfl rfl _ _
noncomputable def L8_0:Code:=loopAt 0 c8
noncomputable def L8_2:Code:=loopAt 2 c8
noncomputable def c9:Code:=Try.f9.body.getD .skip
theorem call9 (args:List AV) (σ:List AObj):call Try.prog T H (.fn 9) args σ = run Try.prog T H 9 σ.length 0 c9 { env:=envOf 0 args,σ:=σ } (endK Try.prog T H 9 [.tmp 0] σ.length) :=
 call_fn Try.func9 rfl rfl rfl _ _
noncomputable def c10:Code:=Try.f10.body.getD .skip
theorem call10 (args:List AV) (σ:List AObj):call Try.prog T H (.fn 10) args σ = run Try.prog T H 10 σ.length 0 c10 { env:=envOf 0 args,σ:=σ } (endK Try.prog T H 10 [.tmp 6,.cell 7 30,.tmp 8] σ.length) :=
 call_fn Try.func10 rfl rfl rfl _ _
noncomputable def L10_2:Code:=loopAt 2 c10
noncomputable def L10_4:Code:=loopAt 4 c10
noncomputable def L10_6:Code:=loopAt 6 c10
noncomputable def A10_0:Code:=rangeA 0 c10
noncomputable def B10_0:Code:=rangeB 0 c10
theorem cf10:c10 = foldR 0 A10_0 B10_0 (c10):=by kernel_rfl
noncomputable def c12:Code:=Try.f12.body.getD .skip
theorem call12 (args:List AV) (σ:List AObj):call Try.prog T H (.fn 12) args σ = run Try.prog T H 12 σ.length 0 c12 { env:=envOf 0 args,σ:=σ } (endK Try.prog T H 12 [.tmp 4] σ.length) :=
 call_fn Try.func12 rfl rfl rfl _ _
noncomputable def L12_0:Code:=loopAt 0 c12
noncomputable def c13:Code:=Try.f13.body.getD .skip
theorem call13 (args:List AV) (σ:List AObj):call Try.prog T H (.fn 13) args σ = run Try.prog T H 13 σ.length 0 c13 { env:=envOf 0 args,σ:=σ } (endK Try.prog T H 13 [.tmp 6,.tmp 7] σ.length) :=
 call_fn Try.func13 rfl rfl rfl _ _
noncomputable def L13_2:Code:=loopAt 2 c13
noncomputable def L13_4:Code:=loopAt 4 c13
noncomputable def L13_6:Code:=loopAt 6 c13
noncomputable def A13_0:Code:=rangeA 0 c13
noncomputable def B13_0:Code:=rangeB 0 c13
theorem cf13:c13 = foldR 0 A13_0 B13_0 (c13):=by kernel_rfl
noncomputable def c15:Code:=Try.f15.body.getD .skip
theorem call15 (args:List AV) (σ:List AObj):call Try.prog T H (.fn 15) args σ = run Try.prog T H 15 σ.length 0 c15 { env:=envOf 0 args,σ:=σ } (endK Try.prog T H 15 [.tmp 4] σ.length) :=
 call_fn Try.func15 rfl rfl rfl _ _
noncomputable def L15_0:Code:=loopAt 0 c15
noncomputable def c17:Code:=Try.f17.body.getD .skip
theorem call17 (args:List AV) (σ:List AObj):call Try.prog T H (.fn 17) args σ = run Try.prog T H 17 σ.length 0 c17 { env:=envOf 0 args,σ:=σ } (endK Try.prog T H 17 [.cell 2 46] σ.length) :=
 call_fn Try.func17 rfl rfl rfl _ _
noncomputable def c20:Code:=Try.f20.body.getD .skip
theorem call20 (args:List AV) (σ:List AObj):call Try.prog T H (.fn 20) args σ = run Try.prog T H 20 σ.length 0 c20 { env:=envOf 0 args,σ:=σ } (endK Try.prog T H 20 [.tmp 8,.tmp 9] σ.length) :=
 call_fn Try.func20 rfl rfl rfl _ _
noncomputable def c21:Code:=Try.f21.body.getD .skip
theorem call21 (args:List AV) (σ:List AObj):call Try.prog T H (.fn 21) args σ = run Try.prog T H 21 σ.length 0 c21 { env:=envOf 0 args,σ:=σ } (endK Try.prog T H 21 [.cell 8 30,.tmp 9] σ.length) :=
 call_fn Try.func21 rfl rfl rfl _ _
noncomputable def c22:Code:=Try.f22.body.getD .skip
theorem call22 (args:List AV) (σ:List AObj):call Try.prog T H (.fn 22) args σ = run Try.prog T H 22 σ.length 0 c22 { env:=envOf 0 args,σ:=σ } (endK Try.prog T H 22 [.tmp 8,.tmp 9] σ.length) :=
 call_fn Try.func22 rfl rfl rfl _ _
noncomputable def L22_1:Code:=loopAt 1 c22
noncomputable def c23:Code:=Try.f23.body.getD .skip
theorem call23 (args:List AV) (σ:List AObj):call Try.prog T H (.fn 23) args σ = run Try.prog T H 23 σ.length 0 c23 { env:=envOf 0 args,σ:=σ } (endK Try.prog T H 23 [.tmp 2] σ.length) :=
 call_fn Try.func23 rfl rfl rfl _ _
noncomputable def L23_0:Code:=loopAt 0 c23
noncomputable def c24:Code:=Try.f24.body.getD .skip
theorem call24 (args:List AV) (σ:List AObj):call Try.prog T H (.fn 24) args σ = run Try.prog T H 24 σ.length 0 c24 { env:=envOf 0 args,σ:=σ } (endK Try.prog T H 24 [.tmp 4] σ.length) :=
 call_fn Try.func24 rfl rfl rfl _ _
noncomputable def c25:Code:=Try.f25.body.getD .skip
theorem call25 (args:List AV) (σ:List AObj):call Try.prog T H (.fn 25) args σ = run Try.prog T H 25 σ.length 0 c25 { env:=envOf 0 args,σ:=σ } (endK Try.prog T H 25 [.tmp 4] σ.length) :=
 call_fn Try.func25 rfl rfl rfl _ _
noncomputable def c26:Code:=Try.f26.body.getD .skip
theorem call26 (args:List AV) (σ:List AObj):call Try.prog T H (.fn 26) args σ = run Try.prog T H 26 σ.length 0 c26 { env:=envOf 0 args,σ:=σ } (endK Try.prog T H 26 [.tmp 6] σ.length) :=
 call_fn Try.func26 rfl rfl rfl _ _
noncomputable def L26_0:Code:=loopAt 0 c26
noncomputable def c27:Code:=Try.f27.body.getD .skip
theorem call27 (args:List AV) (σ:List AObj):call Try.prog T H (.fn 27) args σ = run Try.prog T H 27 σ.length 0 c27 { env:=envOf 0 args,σ:=σ } (endK Try.prog T H 27 [.tmp 4] σ.length) :=
 call_fn Try.func27 rfl rfl rfl _ _
noncomputable def c28:Code:=Try.f28.body.getD .skip
theorem call28 (args:List AV) (σ:List AObj):call Try.prog T H (.fn 28) args σ = run Try.prog T H 28 σ.length 0 c28 { env:=envOf 0 args,σ:=σ } (endK Try.prog T H 28 [.tmp 4] σ.length) :=
 call_fn Try.func28 rfl rfl rfl _ _
noncomputable def L28_0:Code:=loopAt 0 c28
noncomputable def L28_2:Code:=loopAt 2 c28
noncomputable def L28_4:Code:=loopAt 4 c28
noncomputable def c29:Code:=Try.f29.body.getD .skip
theorem call29 (args:List AV) (σ:List AObj):call Try.prog T H (.fn 29) args σ = run Try.prog T H 29 σ.length 0 c29 { env:=envOf 0 args,σ:=σ } (endK Try.prog T H 29 [.tmp 4] σ.length) :=
 call_fn Try.func29 rfl rfl rfl _ _
noncomputable def c30:Code:=Try.f30.body.getD .skip
theorem call30 (args:List AV) (σ:List AObj):call Try.prog T H (.fn 30) args σ = run Try.prog T H 30 σ.length 0 c30 { env:=envOf 0 args,σ:=σ } (endK Try.prog T H 30 [.tmp 2] σ.length) :=
 call_fn Try.func30 rfl rfl rfl _ _
noncomputable def c31:Code:=Try.f31.body.getD .skip
theorem call31 (args:List AV) (σ:List AObj):call Try.prog T H (.fn 31) args σ = run Try.prog T H 31 σ.length 0 c31 { env:=envOf 0 args,σ:=σ } (endK Try.prog T H 31 [.cell 6 72,.tmp 7] σ.length) :=
 call_fn Try.func31 rfl rfl rfl _ _
noncomputable def L31_0:Code:=loopAt 0 c31
noncomputable def c32:Code:=Try.f32.body.getD .skip
theorem call32 (args:List AV) (σ:List AObj):call Try.prog T H (.fn 32) args σ = run Try.prog T H 32 σ.length 0 c32 { env:=envOf 0 args,σ:=σ } (endK Try.prog T H 32 [.tmp 4] σ.length) :=
 call_fn Try.func32 rfl rfl rfl _ _
noncomputable def c33:Code:=Try.f33.body.getD .skip
theorem call33 (args:List AV) (σ:List AObj):call Try.prog T H (.fn 33) args σ = run Try.prog T H 33 σ.length 0 c33 { env:=envOf 0 args,σ:=σ } (endK Try.prog T H 33 [.cell 2 30] σ.length) :=
 call_fn Try.func33 rfl rfl rfl _ _
noncomputable def L33_0:Code:=loopAt 0 c33
noncomputable def c34:Code:=Try.f34.body.getD .skip
theorem call34 (args:List AV) (σ:List AObj):call Try.prog T H (.fn 34) args σ = run Try.prog T H 34 σ.length 0 c34 { env:=envOf 0 args,σ:=σ } (endK Try.prog T H 34 [.tmp 6] σ.length) :=
 call_fn Try.func34 rfl rfl rfl _ _
noncomputable def c37:Code:=Try.f37.body.getD .skip
theorem call37 (args:List AV) (σ:List AObj):call Try.prog T H (.fn 37) args σ = run Try.prog T H 37 σ.length 0 c37 { env:=envOf 0 args,σ:=σ } (endK Try.prog T H 37 [.tmp 4,.tmp 5] σ.length) :=
 call_fn Try.func37 rfl rfl rfl _ _
noncomputable def c38:Code:=Try.f38.body.getD .skip
theorem call38 (args:List AV) (σ:List AObj):call Try.prog T H (.fn 38) args σ = run Try.prog T H 38 σ.length 0 c38 { env:=envOf 0 args,σ:=σ } (endK Try.prog T H 38 [.tmp 2] σ.length) :=
 call_fn Try.func38 rfl rfl rfl _ _
noncomputable def L38_0:Code:=loopAt 0 c38
noncomputable def c39:Code:=Try.f39.body.getD .skip
theorem call39 (args:List AV) (σ:List AObj):call Try.prog T H (.fn 39) args σ = run Try.prog T H 39 σ.length 0 c39 { env:=envOf 0 args,σ:=σ } (endK Try.prog T H 39 [.cell 6 88,.tmp 7] σ.length) :=
 call_fn Try.func39 rfl rfl rfl _ _
noncomputable def L39_0:Code:=loopAt 0 c39
noncomputable def L39_2:Code:=loopAt 2 c39
noncomputable def c40:Code:=Try.f40.body.getD .skip
theorem call40 (args:List AV) (σ:List AObj):call Try.prog T H (.fn 40) args σ = run Try.prog T H 40 σ.length 0 c40 { env:=envOf 0 args,σ:=σ } (endK Try.prog T H 40 [.tmp 4] σ.length) :=
 call_fn Try.func40 rfl rfl rfl _ _
noncomputable def c42:Code:=Try.f42.body.getD .skip
theorem call42 (args:List AV) (σ:List AObj):call Try.prog T H (.fn 42) args σ = run Try.prog T H 42 σ.length 0 c42 { env:=envOf 0 args,σ:=σ } (endK Try.prog T H 42 [.tmp 2] σ.length) :=
 call_fn Try.func42 rfl rfl rfl _ _
noncomputable def L42_0:Code:=loopAt 0 c42
noncomputable def L42_2:Code:=loopAt 2 c42
noncomputable def L42_4:Code:=loopAt 4 c42
noncomputable def c44:Code:=Try.f44.body.getD .skip
theorem call44 (args:List AV) (σ:List AObj):call Try.prog T H (.fn 44) args σ = run Try.prog T H 44 σ.length 0 c44 { env:=envOf 0 args,σ:=σ } (endK Try.prog T H 44 [.tmp 4] σ.length) :=
 call_fn Try.func44 rfl rfl rfl _ _
noncomputable def L44_0:Code:=loopAt 0 c44
noncomputable def c45:Code:=Try.f45.body.getD .skip
theorem call45 (args:List AV) (σ:List AObj):call Try.prog T H (.fn 45) args σ = run Try.prog T H 45 σ.length 0 c45 { env:=envOf 0 args,σ:=σ } (endK Try.prog T H 45 [.tmp 2] σ.length) :=
 call_fn Try.func45 rfl rfl rfl _ _
noncomputable def c47:Code:=Try.f47.body.getD .skip
theorem call47 (args:List AV) (σ:List AObj):call Try.prog T H (.fn 47) args σ = run Try.prog T H 47 σ.length 0 c47 { env:=envOf 0 args,σ:=σ } (endK Try.prog T H 47 [.tmp 2] σ.length) :=
 call_fn Try.func47 rfl rfl rfl _ _
noncomputable def c50:Code:=Try.f50.body.getD .skip
theorem call50 (args:List AV) (σ:List AObj):call Try.prog T H (.fn 50) args σ = run Try.prog T H 50 σ.length 0 c50 { env:=envOf 0 args,σ:=σ } (endK Try.prog T H 50 [.tmp 4] σ.length) :=
 call_fn Try.func50 rfl rfl rfl _ _
noncomputable def c52:Code:=Try.f52.body.getD .skip
theorem call52 (args:List AV) (σ:List AObj):call Try.prog T H (.fn 52) args σ = run Try.prog T H 52 σ.length 0 c52 { env:=envOf 0 args,σ:=σ } (endK Try.prog T H 52 [.tmp 8,.tmp 9,.tmp 10,.tmp 11] σ.length) :=
 call_fn Try.func52 rfl rfl rfl _ _
noncomputable def c53:Code:=Try.f53.body.getD .skip
theorem call53 (args:List AV) (σ:List AObj):call Try.prog T H (.fn 53) args σ = run Try.prog T H 53 σ.length 0 c53 { env:=envOf 0 args,σ:=σ } (endK Try.prog T H 53 [.cell 8 30,.tmp 9] σ.length) :=
 call_fn Try.func53 rfl rfl rfl _ _
noncomputable def L53_0:Code:=loopAt 0 c53
noncomputable def L53_2:Code:=loopAt 2 c53
noncomputable def c54:Code:=Try.f54.body.getD .skip
theorem call54 (args:List AV) (σ:List AObj):call Try.prog T H (.fn 54) args σ = run Try.prog T H 54 σ.length 0 c54 { env:=envOf 0 args,σ:=σ } (endK Try.prog T H 54 [.tmp 2] σ.length) :=
 call_fn Try.func54 rfl rfl rfl _ _
noncomputable def L54_0:Code:=loopAt 0 c54
noncomputable def c55:Code:=Try.f55.body.getD .skip
theorem call55 (args:List AV) (σ:List AObj):call Try.prog T H (.fn 55) args σ = run Try.prog T H 55 σ.length 0 c55 { env:=envOf 0 args,σ:=σ } (endK Try.prog T H 55 [.tmp 8] σ.length) :=
 call_fn Try.func55 rfl rfl rfl _ _
noncomputable def L55_0:Code:=loopAt 0 c55
noncomputable def L55_2:Code:=loopAt 2 c55
noncomputable def L55_4:Code:=loopAt 4 c55
noncomputable def L55_6:Code:=loopAt 6 c55
noncomputable def c56:Code:=Try.f56.body.getD .skip
theorem call56 (args:List AV) (σ:List AObj):call Try.prog T H (.fn 56) args σ = run Try.prog T H 56 σ.length 0 c56 { env:=envOf 0 args,σ:=σ } (endK Try.prog T H 56 [.tmp 2] σ.length) :=
 call_fn Try.func56 rfl rfl rfl _ _
noncomputable def L56_0:Code:=loopAt 0 c56
noncomputable def c57:Code:=Try.f57.body.getD .skip
theorem call57 (args:List AV) (σ:List AObj):call Try.prog T H (.fn 57) args σ = run Try.prog T H 57 σ.length 0 c57 { env:=envOf 0 args,σ:=σ } (endK Try.prog T H 57 [.tmp 4] σ.length) :=
 call_fn Try.func57 rfl rfl rfl _ _
noncomputable def L57_0:Code:=loopAt 0 c57
noncomputable def c58:Code:=Try.f58.body.getD .skip
theorem call58 (args:List AV) (σ:List AObj):call Try.prog T H (.fn 58) args σ = run Try.prog T H 58 σ.length 0 c58 { env:=envOf 0 args,σ:=σ } (endK Try.prog T H 58 [.tmp 4] σ.length) :=
 call_fn Try.func58 rfl rfl rfl _ _
noncomputable def L58_0:Code:=loopAt 0 c58
noncomputable def c59:Code:=Try.f59.body.getD .skip
theorem call59 (args:List AV) (σ:List AObj):call Try.prog T H (.fn 59) args σ = run Try.prog T H 59 σ.length 0 c59 { env:=envOf 0 args,σ:=σ } (endK Try.prog T H 59 [.tmp 4] σ.length) :=
 call_fn Try.func59 rfl rfl rfl _ _
noncomputable def L59_0:Code:=loopAt 0 c59
noncomputable def c60:Code:=Try.f60.body.getD .skip
theorem call60 (args:List AV) (σ:List AObj):call Try.prog T H (.fn 60) args σ = run Try.prog T H 60 σ.length 0 c60 { env:=envOf 0 args,σ:=σ } (endK Try.prog T H 60 [.tmp 4] σ.length) :=
 call_fn Try.func60 rfl rfl rfl _ _
noncomputable def L60_0:Code:=loopAt 0 c60
noncomputable def c61:Code:=Try.f61.body.getD .skip
theorem call61 (args:List AV) (σ:List AObj):call Try.prog T H (.fn 61) args σ = run Try.prog T H 61 σ.length 0 c61 { env:=envOf 0 args,σ:=σ } (endK Try.prog T H 61 [.tmp 2] σ.length) :=
 call_fn Try.func61 rfl rfl rfl _ _
noncomputable def c62:Code:=Try.f62.body.getD .skip
theorem call62 (args:List AV) (σ:List AObj):call Try.prog T H (.fn 62) args σ = run Try.prog T H 62 σ.length 0 c62 { env:=envOf 0 args,σ:=σ } (endK Try.prog T H 62 [.tmp 3] σ.length) :=
 call_fn Try.func62 rfl rfl rfl _ _
noncomputable def c63:Code:=Try.f63.body.getD .skip
theorem call63 (args:List AV) (σ:List AObj):call Try.prog T H (.fn 63) args σ = run Try.prog T H 63 σ.length 0 c63 { env:=envOf 0 args,σ:=σ } (endK Try.prog T H 63 [.tmp 6] σ.length) :=
 call_fn Try.func63 rfl rfl rfl _ _
noncomputable def L63_0:Code:=loopAt 0 c63
noncomputable def c64:Code:=Try.f64.body.getD .skip
theorem call64 (args:List AV) (σ:List AObj):call Try.prog T H (.fn 64) args σ = run Try.prog T H 64 σ.length 0 c64 { env:=envOf 0 args,σ:=σ } (endK Try.prog T H 64 [] σ.length) :=
 call_fn Try.func64 rfl rfl rfl _ _
noncomputable def c65:Code:=Try.f65.body.getD .skip
theorem call65 (args:List AV) (σ:List AObj):call Try.prog T H (.fn 65) args σ = run Try.prog T H 65 σ.length 0 c65 { env:=envOf 0 args,σ:=σ } (endK Try.prog T H 65 [.tmp 5] σ.length) :=
 call_fn Try.func65 rfl rfl rfl _ _
noncomputable def L65_0:Code:=loopAt 0 c65
noncomputable def c66:Code:=Try.f66.body.getD .skip
theorem call66 (args:List AV) (σ:List AObj):call Try.prog T H (.fn 66) args σ = run Try.prog T H 66 σ.length 0 c66 { env:=envOf 0 args,σ:=σ } (endK Try.prog T H 66 [.tmp 4] σ.length) :=
 call_fn Try.func66 rfl rfl rfl _ _
noncomputable def c67:Code:=Try.f67.body.getD .skip
theorem call67 (args:List AV) (σ:List AObj):call Try.prog T H (.fn 67) args σ = run Try.prog T H 67 σ.length 0 c67 { env:=envOf 0 args,σ:=σ } (endK Try.prog T H 67 [.tmp 4] σ.length) :=
 call_fn Try.func67 rfl rfl rfl _ _
noncomputable def L67_0:Code:=loopAt 0 c67
noncomputable def L67_2:Code:=loopAt 2 c67
noncomputable def L67_4:Code:=loopAt 4 c67
noncomputable def c69:Code:=Try.f69.body.getD .skip
theorem call69 (args:List AV) (σ:List AObj):call Try.prog T H (.fn 69) args σ = run Try.prog T H 69 σ.length 0 c69 { env:=envOf 0 args,σ:=σ } (endK Try.prog T H 69 [.tmp 2] σ.length) :=
 call_fn Try.func69 rfl rfl rfl _ _
noncomputable def L69_0:Code:=loopAt 0 c69
noncomputable def L69_2:Code:=loopAt 2 c69
noncomputable def L69_4:Code:=loopAt 4 c69
noncomputable def c70:Code:=Try.f70.body.getD .skip
theorem call70 (args:List AV) (σ:List AObj):call Try.prog T H (.fn 70) args σ = run Try.prog T H 70 σ.length 0 c70 { env:=envOf 0 args,σ:=σ } (endK Try.prog T H 70 [.tmp 6] σ.length) :=
 call_fn Try.func70 rfl rfl rfl _ _
noncomputable def L70_0:Code:=loopAt 0 c70
noncomputable def c71:Code:=Try.f71.body.getD .skip
theorem call71 (args:List AV) (σ:List AObj):call Try.prog T H (.fn 71) args σ = run Try.prog T H 71 σ.length 0 c71 { env:=envOf 0 args,σ:=σ } (endK Try.prog T H 71 [.tmp 4] σ.length) :=
 call_fn Try.func71 rfl rfl rfl _ _
noncomputable def c72:Code:=Try.f72.body.getD .skip
theorem call72 (args:List AV) (σ:List AObj):call Try.prog T H (.fn 72) args σ = run Try.prog T H 72 σ.length 0 c72 { env:=envOf 0 args,σ:=σ } (endK Try.prog T H 72 [.tmp 4] σ.length) :=
 call_fn Try.func72 rfl rfl rfl _ _
noncomputable def L72_0:Code:=loopAt 0 c72
noncomputable def c73:Code:=Try.f73.body.getD .skip
theorem call73 (args:List AV) (σ:List AObj):call Try.prog T H (.fn 73) args σ = run Try.prog T H 73 σ.length 0 c73 { env:=envOf 0 args,σ:=σ } (endK Try.prog T H 73 [.tmp 4] σ.length) :=
 call_fn Try.func73 rfl rfl rfl _ _
noncomputable def c75:Code:=Try.f75.body.getD .skip
theorem call75 (args:List AV) (σ:List AObj):call Try.prog T H (.fn 75) args σ = run Try.prog T H 75 σ.length 0 c75 { env:=envOf 0 args,σ:=σ } (endK Try.prog T H 75 [.tmp 4] σ.length) :=
 call_fn Try.func75 rfl rfl rfl _ _
noncomputable def c76:Code:=Try.f76.body.getD .skip
theorem call76 (args:List AV) (σ:List AObj):call Try.prog T H (.fn 76) args σ = run Try.prog T H 76 σ.length 0 c76 { env:=envOf 0 args,σ:=σ } (endK Try.prog T H 76 [.tmp 4] σ.length) :=
 call_fn Try.func76 rfl rfl rfl _ _
noncomputable def c80:Code:=Try.f80.body.getD .skip
theorem call80 (args:List AV) (σ:List AObj):call Try.prog T H (.fn 80) args σ = run Try.prog T H 80 σ.length 0 c80 { env:=envOf 0 args,σ:=σ } (endK Try.prog T H 80 [.tmp 4] σ.length) :=
 call_fn Try.func80 rfl rfl rfl _ _
noncomputable def L80_0:Code:=loopAt 0 c80
noncomputable def c81:Code:=Try.f81.body.getD .skip
theorem call81 (args:List AV) (σ:List AObj):call Try.prog T H (.fn 81) args σ = run Try.prog T H 81 σ.length 0 c81 { env:=envOf 0 args,σ:=σ } (endK Try.prog T H 81 [.tmp 8,.tmp 9] σ.length) :=
 call_fn Try.func81 rfl rfl rfl _ _
noncomputable def L81_2:Code:=loopAt 2 c81
noncomputable def L81_4:Code:=loopAt 4 c81
noncomputable def A81_0:Code:=rangeA 0 c81
noncomputable def B81_0:Code:=rangeB 0 c81
theorem cf81:c81 = foldR 0 A81_0 B81_0 (c81):=by kernel_rfl
noncomputable def c82:Code:=Try.f82.body.getD .skip
theorem call82 (args:List AV) (σ:List AObj):call Try.prog T H (.fn 82) args σ = run Try.prog T H 82 σ.length 0 c82 { env:=envOf 0 args,σ:=σ } (endK Try.prog T H 82 [.tmp 2,.tmp 3] σ.length) :=
 call_fn Try.func82 rfl rfl rfl _ _
noncomputable def L82_0:Code:=loopAt 0 c82
noncomputable def c83:Code:=Try.f83.body.getD .skip
theorem call83 (args:List AV) (σ:List AObj):call Try.prog T H (.fn 83) args σ = run Try.prog T H 83 σ.length 0 c83 { env:=envOf 0 args,σ:=σ } (endK Try.prog T H 83 [.tmp 6] σ.length) :=
 call_fn Try.func83 rfl rfl rfl _ _
noncomputable def L83_0:Code:=loopAt 0 c83
noncomputable def c84:Code:=Try.f84.body.getD .skip
theorem call84 (args:List AV) (σ:List AObj):call Try.prog T H (.fn 84) args σ = run Try.prog T H 84 σ.length 0 c84 { env:=envOf 0 args,σ:=σ } (endK Try.prog T H 84 [.cell 6 30,.tmp 7] σ.length) :=
 call_fn Try.func84 rfl rfl rfl _ _
noncomputable def c85:Code:=Try.f85.body.getD .skip
theorem call85 (args:List AV) (σ:List AObj):call Try.prog T H (.fn 85) args σ = run Try.prog T H 85 σ.length 0 c85 { env:=envOf 0 args,σ:=σ } (endK Try.prog T H 85 [.tmp 2] σ.length) :=
 call_fn Try.func85 rfl rfl rfl _ _
noncomputable def L85_0:Code:=loopAt 0 c85
noncomputable def L85_2:Code:=loopAt 2 c85
noncomputable def L85_4:Code:=loopAt 4 c85
noncomputable def c86:Code:=Try.f86.body.getD .skip
theorem call86 (args:List AV) (σ:List AObj):call Try.prog T H (.fn 86) args σ = run Try.prog T H 86 σ.length 0 c86 { env:=envOf 0 args,σ:=σ } (endK Try.prog T H 86 [.tmp 4] σ.length) :=
 call_fn Try.func86 rfl rfl rfl _ _
noncomputable def c87:Code:=Try.f87.body.getD .skip
theorem call87 (args:List AV) (σ:List AObj):call Try.prog T H (.fn 87) args σ = run Try.prog T H 87 σ.length 0 c87 { env:=envOf 0 args,σ:=σ } (endK Try.prog T H 87 [.tmp 4] σ.length) :=
 call_fn Try.func87 rfl rfl rfl _ _
noncomputable def c88:Code:=Try.f88.body.getD .skip
theorem call88 (args:List AV) (σ:List AObj):call Try.prog T H (.fn 88) args σ = run Try.prog T H 88 σ.length 0 c88 { env:=envOf 0 args,σ:=σ } (endK Try.prog T H 88 [.tmp 4] σ.length) :=
 call_fn Try.func88 rfl rfl rfl _ _
noncomputable def L88_0:Code:=loopAt 0 c88
noncomputable def c89:Code:=Try.f89.body.getD .skip
theorem call89 (args:List AV) (σ:List AObj):call Try.prog T H (.fn 89) args σ = run Try.prog T H 89 σ.length 0 c89 { env:=envOf 0 args,σ:=σ } (endK Try.prog T H 89 [.tmp 6] σ.length) :=
 call_fn Try.func89 rfl rfl rfl _ _
noncomputable def L89_0:Code:=loopAt 0 c89
noncomputable def L89_2:Code:=loopAt 2 c89
noncomputable def c90:Code:=Try.f90.body.getD .skip
theorem call90 (args:List AV) (σ:List AObj):call Try.prog T H (.fn 90) args σ = run Try.prog T H 90 σ.length 0 c90 { env:=envOf 0 args,σ:=σ } (endK Try.prog T H 90 [.tmp 2] σ.length) :=
 call_fn Try.func90 rfl rfl rfl _ _
noncomputable def c91:Code:=Try.f91.body.getD .skip
theorem call91 (args:List AV) (σ:List AObj):call Try.prog T H (.fn 91) args σ = run Try.prog T H 91 σ.length 0 c91 { env:=envOf 0 args,σ:=σ } (endK Try.prog T H 91 [.tmp 4] σ.length) :=
 call_fn Try.func91 rfl rfl rfl _ _
noncomputable def c92:Code:=Try.f92.body.getD .skip
theorem call92 (args:List AV) (σ:List AObj):call Try.prog T H (.fn 92) args σ = run Try.prog T H 92 σ.length 0 c92 { env:=envOf 0 args,σ:=σ } (endK Try.prog T H 92 [.cell 2 144] σ.length) :=
 call_fn Try.func92 rfl rfl rfl _ _
noncomputable def L92_0:Code:=loopAt 0 c92
noncomputable def c94:Code:=Try.f94.body.getD .skip
theorem call94 (args:List AV) (σ:List AObj):call Try.prog T H (.fn 94) args σ = run Try.prog T H 94 σ.length 0 c94 { env:=envOf 0 args,σ:=σ } (endK Try.prog T H 94 [.tmp 4] σ.length) :=
 call_fn Try.func94 rfl rfl rfl _ _
noncomputable def c95:Code:=Try.f95.body.getD .skip
theorem call95 (args:List AV) (σ:List AObj):call Try.prog T H (.fn 95) args σ = run Try.prog T H 95 σ.length 0 c95 { env:=envOf 0 args,σ:=σ } (endK Try.prog T H 95 [.tmp 4] σ.length) :=
 call_fn Try.func95 rfl rfl rfl _ _
noncomputable def c97:Code:=Try.f97.body.getD .skip
theorem call97 (args:List AV) (σ:List AObj):call Try.prog T H (.fn 97) args σ = run Try.prog T H 97 σ.length 0 c97 { env:=envOf 0 args,σ:=σ } (endK Try.prog T H 97 [.tmp 2] σ.length) :=
 call_fn Try.func97 rfl rfl rfl _ _
noncomputable def c98:Code:=Try.f98.body.getD .skip
theorem call98 (args:List AV) (σ:List AObj):call Try.prog T H (.fn 98) args σ = run Try.prog T H 98 σ.length 0 c98 { env:=envOf 0 args,σ:=σ } (endK Try.prog T H 98 [.tmp 4] σ.length) :=
 call_fn Try.func98 rfl rfl rfl _ _
noncomputable def c99:Code:=Try.f99.body.getD .skip
theorem call99 (args:List AV) (σ:List AObj):call Try.prog T H (.fn 99) args σ = run Try.prog T H 99 σ.length 0 c99 { env:=envOf 0 args,σ:=σ } (endK Try.prog T H 99 [.cell 4 30,.tmp 5] σ.length) :=
 call_fn Try.func99 rfl rfl rfl _ _
noncomputable def L99_0:Code:=loopAt 0 c99
noncomputable def L99_3:Code:=loopAt 3 c99
noncomputable def c100:Code:=Try.f100.body.getD .skip
theorem call100 (args:List AV) (σ:List AObj):call Try.prog T H (.fn 100) args σ = run Try.prog T H 100 σ.length 0 c100 { env:=envOf 0 args,σ:=σ } (endK Try.prog T H 100 [.tmp 4] σ.length) :=
 call_fn Try.func100 rfl rfl rfl _ _
noncomputable def L100_0:Code:=loopAt 0 c100
noncomputable def c101:Code:=Try.f101.body.getD .skip
theorem call101 (args:List AV) (σ:List AObj):call Try.prog T H (.fn 101) args σ = run Try.prog T H 101 σ.length 0 c101 { env:=envOf 0 args,σ:=σ } (endK Try.prog T H 101 [.tmp 2] σ.length) :=
 call_fn Try.func101 rfl rfl rfl _ _
noncomputable def L101_0:Code:=loopAt 0 c101
noncomputable def c102:Code:=Try.f102.body.getD .skip
theorem call102 (args:List AV) (σ:List AObj):call Try.prog T H (.fn 102) args σ = run Try.prog T H 102 σ.length 0 c102 { env:=envOf 0 args,σ:=σ } (endK Try.prog T H 102 [.tmp 6] σ.length) :=
 call_fn Try.func102 rfl rfl rfl _ _
noncomputable def L102_0:Code:=loopAt 0 c102
noncomputable def c103:Code:=Try.f103.body.getD .skip
theorem call103 (args:List AV) (σ:List AObj):call Try.prog T H (.fn 103) args σ = run Try.prog T H 103 σ.length 0 c103 { env:=envOf 0 args,σ:=σ } (endK Try.prog T H 103 [.tmp 2] σ.length) :=
 call_fn Try.func103 rfl rfl rfl _ _
noncomputable def c104:Code:=Try.f104.body.getD .skip
theorem call104 (args:List AV) (σ:List AObj):call Try.prog T H (.fn 104) args σ = run Try.prog T H 104 σ.length 0 c104 { env:=envOf 0 args,σ:=σ } (endK Try.prog T H 104 [.tmp 4] σ.length) :=
 call_fn Try.func104 rfl rfl rfl _ _
noncomputable def L104_0:Code:=loopAt 0 c104
noncomputable def L104_2:Code:=loopAt 2 c104
noncomputable def c105:Code:=Try.f105.body.getD .skip
theorem call105 (args:List AV) (σ:List AObj):call Try.prog T H (.fn 105) args σ = run Try.prog T H 105 σ.length 0 c105 { env:=envOf 0 args,σ:=σ } (endK Try.prog T H 105 [.cell 2 30] σ.length) :=
 call_fn Try.func105 rfl rfl rfl _ _
noncomputable def L105_0:Code:=loopAt 0 c105
noncomputable def c106:Code:=Try.f106.body.getD .skip
theorem call106 (args:List AV) (σ:List AObj):call Try.prog T H (.fn 106) args σ = run Try.prog T H 106 σ.length 0 c106 { env:=envOf 0 args,σ:=σ } (endK Try.prog T H 106 [.cell 6 30] σ.length) :=
 call_fn Try.func106 rfl rfl rfl _ _
noncomputable def L106_0:Code:=loopAt 0 c106
noncomputable def L106_2:Code:=loopAt 2 c106
theorem yo10_0:yldOk H 10 128 [36,37] A10_0 B10_0 = true:=by kernel_rfl
theorem yo13_0:yldOk H 13 140 [45,46] A13_0 B13_0 = true:=by kernel_rfl
theorem yo81_0:yldOk H 81 131 [38,39] A81_0 B81_0 = true:=by kernel_rfl
theorem ck_7:fnCheck Try.prog H (7,{ ok:=true,mv:=[22,31,40],sh:=[15,16,18,22,23,24,25,26,27,31,32,33,34,35,36,41,42,43,44,71,82,83,87,88,92,93,94] }) = true:=by kernel_rfl
theorem ck_8:fnCheck Try.prog H (8,{ ok:=true,mv:=[11],sh:=[17],heads:=[(0,[3,4,11,12,13]),(2,[3,4,22,23,24])],outs:=[(0,[3,4]),(1,[3,4,11,12,13]),(2,[3,4]),(3,[3,4,22,23,24])] }) = true:=by kernel_rfl
theorem ck_9:fnCheck Try.prog H (9,{ ok:=true,mv:=[25,33],sh:=[26,27,28,34,35,36,48,55,63,66] }) = true:=by kernel_rfl
theorem ck_10:fnCheck Try.prog H (10,{ ok:=true,mv:=[64,92],nw:=[9,46,94],sh:=[19,23,24,28,29,34,64,65,66,69,75,80,95,113,114,126],heads:=[(2,[4,7,9,11,12,13,48,49]),(4,[4,7,9,11,12,13,58,59,60]),(6,[7,9,19,97,98,99])],outs:=[(0,[4,7,9]),(1,[4,7,9]),(2,[4,7,9,11,12,13]),(3,[4,7,9,11,12,13,48,49]),(4,[4,7,9,12,13]),(5,[4,7,9,11,12,13,58,59,60]),(6,[7,19]),(7,[7,9,19,97,98,99])],nt:=128,fz:=[46,92] }) = true:=by kernel_rfl
theorem ck_12:fnCheck Try.prog H (12,{ ok:=true,sh:=[5,30,35],heads:=[(0,[2,3,22,23])],outs:=[(0,[]),(1,[2,3,22,23])] }) = true:=by kernel_rfl
theorem ck_13:fnCheck Try.prog H (13,{ ok:=true,mv:=[34,82,110],nw:=[10,55,112],sh:=[15,24,25,29,30,35,36,43,68,82,83,84,87,93,98,129,130],heads:=[(2,[4,8,10,12,13,14,57,58]),(4,[4,8,10,12,13,14,76,77,78]),(6,[10,20,114,115,116])],outs:=[(0,[4,10]),(1,[4,8,10]),(2,[4,8,10,12,13,14]),(3,[4,8,10,12,13,14,57,58]),(4,[4,8,10,13,14]),(5,[4,8,10,12,13,14,76,77,78]),(6,[20]),(7,[10,20,114,115,116])],nt:=140,fz:=[20,55,110] }) = true:=by kernel_rfl
theorem ck_15:fnCheck Try.prog H (15,{ ok:=true,sh:=[5,19,23],heads:=[(0,[0,1,12,13])],outs:=[(0,[]),(1,[0,1,12,13])] }) = true:=by kernel_rfl
theorem ck_17:fnCheck Try.prog H (17,{ ok:=true }) = true:=by kernel_rfl
theorem ck_20:fnCheck Try.prog H (20,{ ok:=true,mv:=[14],sh:=[15,16,17,18] }) = true:=by kernel_rfl
theorem ck_21:fnCheck Try.prog H (21,{ ok:=true,mv:=[15,29,32],sh:=[10,16,17,18,19,29,30,31,37,38,45] }) = true:=by kernel_rfl
theorem ck_22:fnCheck Try.prog H (22,{ ok:=true,sh:=[5,15,16,17,21,25,27,28,29,30,31],heads:=[(1,[10,11,34,35,36])],outs:=[(0,[5,6,7]),(1,[11]),(2,[10,11,34,35,36])] }) = true:=by kernel_rfl
theorem ck_23:fnCheck Try.prog H (23,{ ok:=true,sh:=[14],heads:=[(0,[3,7,8,9])],outs:=[(0,[3]),(1,[3,7,8,9])] }) = true:=by kernel_rfl
theorem ck_24:fnCheck Try.prog H (24,{ ok:=true,sh:=[5,8,12,13] }) = true:=by kernel_rfl
theorem ck_25:fnCheck Try.prog H (25,{ ok:=true,sh:=[2,5,6,7,9] }) = true:=by kernel_rfl
theorem ck_26:fnCheck Try.prog H (26,{ ok:=true,sh:=[5,9,12,17,59,64,65],heads:=[(0,[3,4,5,7,8,50,51])],outs:=[(0,[7,8]),(1,[3,4,5,7,8,50,51])] }) = true:=by kernel_rfl
theorem ck_27:fnCheck Try.prog H (27,{ ok:=true,sh:=[5,6] }) = true:=by kernel_rfl
theorem ck_28:fnCheck Try.prog H (28,{ ok:=true,sh:=[2,9,12,41,92,104],heads:=[(0,[2,3,5,33,34,35]),(2,[2,5,60,61,62]),(4,[2,5,60,61,62,97,98,99])],outs:=[(0,[2,3,5]),(1,[2,3,5,33,34,35]),(2,[]),(3,[2,5,60,61,62]),(4,[2,5,60,61,62]),(5,[2,5,60,61,62,97,98,99])] }) = true:=by kernel_rfl
theorem ck_29:fnCheck Try.prog H (29,{ ok:=true,sh:=[5,6,9,10] }) = true:=by kernel_rfl
theorem ck_30:fnCheck Try.prog H (30,{ ok:=true,pu:=false,esc:=true }) = true:=by kernel_rfl
theorem ck_31:fnCheck Try.prog H (31,{ ok:=true,mv:=[56],heads:=[(0,[2,6,8,30,31,32])],outs:=[(0,[6,8]),(1,[2,6,8,30,31,32])],pu:=false,rm:=true,fz:=[6] }) = true:=by kernel_rfl
theorem ck_32:fnCheck Try.prog H (32,{ ok:=true,sh:=[23,25] }) = true:=by kernel_rfl
theorem ck_33:fnCheck Try.prog H (33,{ ok:=true,mv:=[17],sh:=[3,18],heads:=[(0,[2,3,10,11,12])],outs:=[(0,[2,3]),(1,[2,3,10,11,12])] }) = true:=by kernel_rfl
theorem ck_34:fnCheck Try.prog H (34,{ ok:=true,sh:=[7,8,12,13] }) = true:=by kernel_rfl
theorem ck_37:fnCheck Try.prog H (37,{ ok:=true,sh:=[6,7,10] }) = true:=by kernel_rfl
theorem ck_38:fnCheck Try.prog H (38,{ ok:=true,sh:=[14],heads:=[(0,[3,7,8,9])],outs:=[(0,[3]),(1,[3,7,8,9])] }) = true:=by kernel_rfl
theorem ck_39:fnCheck Try.prog H (39,{ ok:=true,mv:=[65,68],sh:=[8],heads:=[(0,[2,6,8,22,23,24]),(2,[2,6,8,9,22,23,24,58,59,60])],outs:=[(0,[6,8]),(1,[2,6,8,22,23,24]),(2,[2,6,8,22,23,24]),(3,[2,6,8,9,22,23,24,58,59,60])],pu:=false,rm:=true,fz:=[6,19],ap:=[69] }) = true:=by kernel_rfl
theorem ck_40:fnCheck Try.prog H (40,{ ok:=true,sh:=[42,44],outs:=[(0,[2,3])] }) = true:=by kernel_rfl
theorem ck_42:fnCheck Try.prog H (42,{ ok:=true,mv:=[65],nw:=[12],sh:=[33,37],heads:=[(0,[1,3,4]),(2,[1,3,4,15,16,17]),(4,[1,3,4,6,7,15,16,17,22,23,24])],outs:=[(0,[3]),(1,[1,3,4]),(2,[1,3,4]),(3,[1,3,4,15,16,17]),(4,[1,3,4,6,7,15,16,17]),(5,[1,3,4,6,7,15,16,17,22,23,24])] }) = true:=by kernel_rfl
theorem ck_44:fnCheck Try.prog H (44,{ ok:=true,sh:=[5],heads:=[(0,[0,1,12,13])],outs:=[(0,[]),(1,[0,1,12,13])] }) = true:=by kernel_rfl
theorem ck_45:fnCheck Try.prog H (45,{ ok:=true,mv:=[15],sh:=[6,11,17] }) = true:=by kernel_rfl
theorem ck_47:fnCheck Try.prog H (47,{ ok:=true }) = true:=by kernel_rfl
theorem ck_50:fnCheck Try.prog H (50,{ ok:=true,sh:=[5,6],pu:=false }) = true:=by kernel_rfl
theorem ck_52:fnCheck Try.prog H (52,{ ok:=true,mv:=[29,40,51],sh:=[16,17,21,22,26,30,31,32,33,41],outs:=[(0,[12,14,15])] }) = true:=by kernel_rfl
theorem ck_53:fnCheck Try.prog H (53,{ ok:=true,mv:=[59,81,90],sh:=[0,2,3,11,32,33,34,59,60,61,71,72,89,93,94,95],heads:=[(0,[0,2,3,5,8,21,22,23]),(2,[0,2,5,8,12,52,53,54])],outs:=[(0,[0,3,5,8]),(1,[0,2,3,5,8,21,22,23]),(2,[8,12]),(3,[0,2,5,8,12,52,53,54])] }) = true:=by kernel_rfl
theorem ck_54:fnCheck Try.prog H (54,{ ok:=true,sh:=[6],heads:=[(0,[3,9,10,11])],outs:=[(0,[]),(1,[3,9,10,11])] }) = true:=by kernel_rfl
theorem ck_55:fnCheck Try.prog H (55,{ ok:=true,mv:=[26,131],nw:=[37],sh:=[7,12,13,15,27,28,29,30,54,55,56,57,59,63,64,109,116],heads:=[(0,[1,4,6,7,9,20,21,22]),(2,[1,4,6,7,9,12,39,40]),(4,[6,7,9,12,69,70,71]),(6,[6,7,9,12,15,16,69,70,71,102,103,104])],outs:=[(0,[1,4,6,7,9]),(1,[1,4,6,7,9,20,21,22]),(2,[4,6,7,9,12]),(3,[1,4,6,7,9,12,39,40]),(4,[12]),(5,[6,7,9,12,69,70,71]),(6,[6,7,9,12,15,16,69,70,71]),(7,[6,7,9,12,15,16,69,70,71,102,103,104])] }) = true:=by kernel_rfl
theorem ck_56:fnCheck Try.prog H (56,{ ok:=true,heads:=[(0,[10,11,12])],outs:=[(0,[]),(1,[10,11,12])] }) = true:=by kernel_rfl
theorem ck_57:fnCheck Try.prog H (57,{ ok:=true,sh:=[2,3,37,38],heads:=[(0,[2,31,32,33])],outs:=[(0,[]),(1,[2,31,32,33])] }) = true:=by kernel_rfl
theorem ck_58:fnCheck Try.prog H (58,{ ok:=true,mv:=[7],sh:=[13,14],heads:=[(0,[1,7,8,9])],outs:=[(0,[]),(1,[1,7,8,9])] }) = true:=by kernel_rfl
theorem ck_59:fnCheck Try.prog H (59,{ ok:=true,mv:=[15],sh:=[16,17,22,24,25],heads:=[(0,[2,3,5,9,10,11])],outs:=[(0,[2,3,5]),(1,[2,3,5,9,10,11])] }) = true:=by kernel_rfl
theorem ck_60:fnCheck Try.prog H (60,{ ok:=true,sh:=[19,22],heads:=[(0,[1,5,9,10,11])],outs:=[(0,[5]),(1,[1,5,9,10,11])] }) = true:=by kernel_rfl
theorem ck_61:fnCheck Try.prog H (61,{ ok:=true,sh:=[9] }) = true:=by kernel_rfl
theorem ck_62:fnCheck Try.prog H (62,{ ok:=true,pu:=false }) = true:=by kernel_rfl
theorem ck_63:fnCheck Try.prog H (63,{ ok:=true,sh:=[3,4,50,51,52],heads:=[(0,[2,3,44,45,46])],outs:=[(0,[]),(1,[2,3,44,45,46])],pu:=false }) = true:=by kernel_rfl
theorem ck_64:fnCheck Try.prog H (64,{ ok:=true,sh:=[7],pu:=false }) = true:=by kernel_rfl
theorem ck_65:fnCheck Try.prog H (65,{ ok:=true,sh:=[16,24,25],heads:=[(0,[1,2,3,4,9,10,11])],outs:=[(0,[2,3,4]),(1,[1,2,3,4,9,10,11])],pu:=false }) = true:=by kernel_rfl
theorem ck_66:fnCheck Try.prog H (66,{ ok:=true,sh:=[5,6,7,8] }) = true:=by kernel_rfl
theorem ck_67:fnCheck Try.prog H (67,{ ok:=true,sh:=[2,8,11],heads:=[(0,[2,3,31,32,33]),(2,[2,3,62,63,64]),(4,[2,3,62,63,64,104,105,106])],outs:=[(0,[2,3]),(1,[2,3,31,32,33]),(2,[]),(3,[2,3,62,63,64]),(4,[2,3,62,63,64]),(5,[2,3,62,63,64,104,105,106])] }) = true:=by kernel_rfl
theorem ck_69:fnCheck Try.prog H (69,{ ok:=true,mv:=[67],nw:=[12],sh:=[36,40],heads:=[(0,[1,3,14,15]),(2,[1,3,4,14,15,18,19,20]),(4,[1,3,4,6,7,14,15,18,19,20,25,26,27])],outs:=[(0,[3]),(1,[1,3,14,15]),(2,[1,3,4,14,15]),(3,[1,3,4,14,15,18,19,20]),(4,[1,3,4,6,7,14,15,18,19,20]),(5,[1,3,4,6,7,14,15,18,19,20,25,26,27])] }) = true:=by kernel_rfl
theorem ck_70:fnCheck Try.prog H (70,{ ok:=true,mv:=[34,36],sh:=[27,28],heads:=[(0,[0,1,2,11,12,13])],outs:=[(0,[0,1]),(1,[0,1,2,11,12,13])],pu:=false }) = true:=by kernel_rfl
theorem ck_71:fnCheck Try.prog H (71,{ ok:=true,sh:=[5,6] }) = true:=by kernel_rfl
theorem ck_72:fnCheck Try.prog H (72,{ ok:=true,mv:=[31,33],sh:=[24,25],heads:=[(0,[0,1,9,10,11])],outs:=[(0,[0,1]),(1,[0,1,9,10,11])] }) = true:=by kernel_rfl
theorem ck_73:fnCheck Try.prog H (73,{ ok:=true }) = true:=by kernel_rfl
theorem ck_75:fnCheck Try.prog H (75,{ ok:=true }) = true:=by kernel_rfl
theorem ck_76:fnCheck Try.prog H (76,{ ok:=true }) = true:=by kernel_rfl
theorem ck_80:fnCheck Try.prog H (80,{ ok:=true,sh:=[15],heads:=[(0,[0,1,7,8])],outs:=[(0,[]),(1,[0,1,7,8])],pu:=false }) = true:=by kernel_rfl
theorem ck_81:fnCheck Try.prog H (81,{ ok:=true,mv:=[22,33,51,58,124,125],nw:=[13,74,77],sh:=[12,17,21,23,24,36,61,80,91,92,94,112,113,114,115,116],heads:=[(2,[5,7,12,13,14,17,18,84,85]),(4,[5,7,12,13,14,17,99,100,101])],outs:=[(0,[12]),(1,[5,7,12,13]),(2,[5,7,12,13,14,17]),(3,[5,7,12,13,14,17,18,84,85]),(4,[5,7,12,13,17]),(5,[5,7,12,13,14,17,99,100,101])],nt:=131,fz:=[61,125],ap:=[54,64,127],lo:=[(51,9),(58,8),(47,0)],so:=[(66,9)],lm:=[(51,2004),(58,2004),(124,2004),(120,2005),(121,2005)] }) = true:=by kernel_rfl
theorem ck_82:fnCheck Try.prog H (82,{ ok:=true,sh:=[0,7],heads:=[(0,[0,4,5,12,13,14])],outs:=[(0,[4,5]),(1,[0,4,5,12,13,14])],pu:=false }) = true:=by kernel_rfl
theorem ck_83:fnCheck Try.prog H (83,{ ok:=true,sh:=[0,72],heads:=[(0,[0,2,7,45,46,47])],outs:=[(0,[7]),(1,[0,2,7,45,46,47])],pu:=false,rd:=true }) = true:=by kernel_rfl
theorem ck_84:fnCheck Try.prog H (84,{ ok:=true,sh:=[8,9,22,24] }) = true:=by kernel_rfl
theorem ck_85:fnCheck Try.prog H (85,{ ok:=true,mv:=[50],nw:=[12],heads:=[(0,[1,3,4]),(2,[1,3,4,15,16,17]),(4,[1,3,4,6,7,15,16,17,22,23,24])],outs:=[(0,[3]),(1,[1,3,4]),(2,[1,3,4]),(3,[1,3,4,15,16,17]),(4,[1,3,4,6,7,15,16,17]),(5,[1,3,4,6,7,15,16,17,22,23,24])] }) = true:=by kernel_rfl
theorem ck_86:fnCheck Try.prog H (86,{ ok:=true }) = true:=by kernel_rfl
theorem ck_87:fnCheck Try.prog H (87,{ ok:=true }) = true:=by kernel_rfl
theorem ck_88:fnCheck Try.prog H (88,{ ok:=true,mv:=[7],heads:=[(0,[1,7,8,9])],outs:=[(0,[]),(1,[1,7,8,9])] }) = true:=by kernel_rfl
theorem ck_89:fnCheck Try.prog H (89,{ ok:=true,mv:=[48],sh:=[11,35,40,43,45],heads:=[(0,[1,2,7,13,14,15]),(2,[1,2,7,9,10,11,13,14,15])],outs:=[(0,[7]),(1,[1,2,7,13,14,15]),(2,[1,2,7,9,10,13,14,15]),(3,[1,2,7,9,10,11,13,14,15])],fz:=[7] }) = true:=by kernel_rfl
theorem ck_90:fnCheck Try.prog H (90,{ ok:=true }) = true:=by kernel_rfl
theorem ck_91:fnCheck Try.prog H (91,{ ok:=true,sh:=[2,3,7,9,12,14,16,22,24] }) = true:=by kernel_rfl
theorem ck_92:fnCheck Try.prog H (92,{ ok:=true,mv:=[26],sh:=[17],heads:=[(0,[2,3,11,12,13])],outs:=[(0,[2,3]),(1,[2,3,11,12,13])] }) = true:=by kernel_rfl
theorem ck_94:fnCheck Try.prog H (94,{ ok:=true }) = true:=by kernel_rfl
theorem ck_95:fnCheck Try.prog H (95,{ ok:=true,sh:=[7,9] }) = true:=by kernel_rfl
theorem ck_97:fnCheck Try.prog H (97,{ ok:=true,mv:=[6],pu:=false,rm:=true }) = true:=by kernel_rfl
theorem ck_98:fnCheck Try.prog H (98,{ ok:=true,mv:=[14],outs:=[(0,[4])],pu:=false,rd:=true }) = true:=by kernel_rfl
theorem ck_99:fnCheck Try.prog H (99,{ ok:=true,mv:=[57],sh:=[16,54,55,70,75,76,82],heads:=[(0,[1,2,4,6,7,18,19,20]),(3,[4,6,7,10,11,12,57,58,59])],outs:=[(0,[1,2,4,6,7]),(1,[1,2,4,6,7,18,19,20]),(2,[1,2,4,6,7]),(3,[4,11]),(4,[4,6,7,10,11,12,57,58,59])],fz:=[11] }) = true:=by kernel_rfl
theorem ck_100:fnCheck Try.prog H (100,{ ok:=true,mv:=[32,41],sh:=[0,5],heads:=[(0,[0,1,5])],outs:=[(0,[0,1,5]),(1,[0,1,5])] }) = true:=by kernel_rfl
theorem ck_101:fnCheck Try.prog H (101,{ ok:=true,mv:=[6],heads:=[(0,[3,6,7,8])],outs:=[(0,[3]),(1,[3,6,7,8])] }) = true:=by kernel_rfl
theorem ck_102:fnCheck Try.prog H (102,{ ok:=true,mv:=[34,36],sh:=[27,28],heads:=[(0,[0,1,2,11,12,13])],outs:=[(0,[0,1]),(1,[0,1,2,11,12,13])],pu:=false }) = true:=by kernel_rfl
theorem ck_103:fnCheck Try.prog H (103,{ ok:=true }) = true:=by kernel_rfl
theorem ck_104:fnCheck Try.prog H (104,{ ok:=true,mv:=[61],nw:=[15],sh:=[5,7,36,40],heads:=[(0,[1,2,5,17,18,19]),(2,[1,2,5,6,7,8,17,18,19,25,26,27])],outs:=[(0,[2,5]),(1,[1,2,5,17,18,19]),(2,[1,2,5,6,7,8,17,18,19]),(3,[1,2,5,6,7,8,17,18,19,25,26,27])],pu:=false,esc:=true }) = true:=by kernel_rfl
theorem ck_105:fnCheck Try.prog H (105,{ ok:=true,mv:=[17],sh:=[3,18],heads:=[(0,[2,3,10,11,12])],outs:=[(0,[2,3]),(1,[2,3,10,11,12])] }) = true:=by kernel_rfl
theorem ck_106:fnCheck Try.prog H (106,{ ok:=true,mv:=[15,52],sh:=[12,54,63,64],heads:=[(0,[0,1,3,4,6,9,26,27,28]),(2,[0,1,3,4,6,9,10,12,26,27,28,45,46,47])],outs:=[(0,[0,1,6,9]),(1,[0,1,3,4,6,9,26,27,28]),(2,[0,1,3,4,6,9,10,12,26,27,28]),(3,[0,1,3,4,6,9,10,12,26,27,28,45,46,47])],pu:=false,fz:=[9],fr:=[(55,1001)],lm:=[(52,1001)] }) = true:=by kernel_rfl
theorem fnsOk:FnsOk Try.prog H:=by
 refine fnsOk_of (by kernel_rfl) ?_
 show HL.all (fnCheck Try.prog H) = true
 unfold HL
 simp only [List.all_cons,List.all_nil,Bool.and_true,Bool.and_eq_true]
 exact ⟨ck_7,ck_8,ck_9,ck_10,ck_12,ck_13,ck_15,ck_17,ck_20,ck_21,ck_22,ck_23,ck_24,ck_25,ck_26,ck_27,ck_28,ck_29,ck_30,ck_31,ck_32,ck_33,ck_34,ck_37,ck_38,ck_39,ck_40,ck_42,ck_44,ck_45,ck_47,ck_50,ck_52,ck_53,ck_54,ck_55,ck_56,ck_57,ck_58,ck_59,ck_60,ck_61,ck_62,ck_63,ck_64,ck_65,ck_66,ck_67,ck_69,ck_70,ck_71,ck_72,ck_73,ck_75,ck_76,ck_80,ck_81,ck_82,ck_83,ck_84,ck_85,ck_86,ck_87,ck_88,ck_89,ck_90,ck_91,ck_92,ck_94,ck_95,ck_97,ck_98,ck_99,ck_100,ck_101,ck_102,ck_103,ck_104,ck_105,ck_106⟩
theorem tabOk:TabOk Try.prog ⟨TY,GL⟩:=tabOk_of (by kernel_rfl) (by kernel_rfl)
end Go.AM.S22
