/- A part of the abstract machine and its simulation. -/
import Derived.Test.YtnfggookadgjiaaAmGen
set_option linter.unusedVariables false
set_option linter.unusedSimpArgs false
namespace Go.AM
open Go
section
variable {σ l:List AObj} {k i1 i2 i3 i4 i5 i6:Nat} {z x1 x2 x3 x4 x5 x6:AObj}
theorem sg5_get0:((((((σ.set i1 x1).set i2 x2).set i3 x3).set i4 x4).set i5 x5) ++ l)[σ.length]? = l[0]?:=sA0 (by simp)
theorem sg5_getk:((((((σ.set i1 x1).set i2 x2).set i3 x3).set i4 x4).set i5 x5) ++ l)[σ.length + k]? = l[k]?:=sAK (by simp)
theorem sg5_set0:((((((σ.set i1 x1).set i2 x2).set i3 x3).set i4 x4).set i5 x5) ++ l).set σ.length z = (((((σ.set i1 x1).set i2 x2).set i3 x3).set i4 x4).set i5 x5) ++ l.set 0 z:=sS0 (by simp)
theorem sg5_setk:((((((σ.set i1 x1).set i2 x2).set i3 x3).set i4 x4).set i5 x5) ++ l).set (σ.length + k) z = (((((σ.set i1 x1).set i2 x2).set i3 x3).set i4 x4).set i5 x5) ++ l.set k z:=sSK (by simp)
theorem sg5_take0:((((((σ.set i1 x1).set i2 x2).set i3 x3).set i4 x4).set i5 x5) ++ l).take σ.length = (((((σ.set i1 x1).set i2 x2).set i3 x3).set i4 x4).set i5 x5):=sT0 (by simp)
theorem sg5_takek:((((((σ.set i1 x1).set i2 x2).set i3 x3).set i4 x4).set i5 x5) ++ l).take (σ.length + k) = (((((σ.set i1 x1).set i2 x2).set i3 x3).set i4 x4).set i5 x5) ++ l.take k:=sTK (by simp)
theorem sg5_take:(((((σ.set i1 x1).set i2 x2).set i3 x3).set i4 x4).set i5 x5).take σ.length = (((((σ.set i1 x1).set i2 x2).set i3 x3).set i4 x4).set i5 x5):=sTX (by simp)
theorem sg5_comm (h2:i1≠i2) (h3:i1≠i3) (h4:i1≠i4) (h5:i1≠i5):(((((σ.set i1 x1).set i2 x2).set i3 x3).set i4 x4).set i5 x5).set i1 z = ((((σ.set i1 z).set i2 x2).set i3 x3).set i4 x4).set i5 x5:=by
 rw [List.set_comm _ _ (Ne.symm h5),sg4_comm h2 h3 h4]
theorem sg6_get0:(((((((σ.set i1 x1).set i2 x2).set i3 x3).set i4 x4).set i5 x5).set i6 x6) ++ l)[σ.length]? = l[0]?:=sA0 (by simp)
theorem sg6_getk:(((((((σ.set i1 x1).set i2 x2).set i3 x3).set i4 x4).set i5 x5).set i6 x6) ++ l)[σ.length + k]? = l[k]?:=sAK (by simp)
theorem sg6_set0:(((((((σ.set i1 x1).set i2 x2).set i3 x3).set i4 x4).set i5 x5).set i6 x6) ++ l).set σ.length z = ((((((σ.set i1 x1).set i2 x2).set i3 x3).set i4 x4).set i5 x5).set i6 x6) ++ l.set 0 z:=sS0 (by simp)
theorem sg6_setk:(((((((σ.set i1 x1).set i2 x2).set i3 x3).set i4 x4).set i5 x5).set i6 x6) ++ l).set (σ.length + k) z = ((((((σ.set i1 x1).set i2 x2).set i3 x3).set i4 x4).set i5 x5).set i6 x6) ++ l.set k z:=sSK (by simp)
theorem sg6_take0:(((((((σ.set i1 x1).set i2 x2).set i3 x3).set i4 x4).set i5 x5).set i6 x6) ++ l).take σ.length = ((((((σ.set i1 x1).set i2 x2).set i3 x3).set i4 x4).set i5 x5).set i6 x6):=sT0 (by simp)
theorem sg6_takek:(((((((σ.set i1 x1).set i2 x2).set i3 x3).set i4 x4).set i5 x5).set i6 x6) ++ l).take (σ.length + k) = ((((((σ.set i1 x1).set i2 x2).set i3 x3).set i4 x4).set i5 x5).set i6 x6) ++ l.take k:=sTK (by simp)
theorem sg6_take:((((((σ.set i1 x1).set i2 x2).set i3 x3).set i4 x4).set i5 x5).set i6 x6).take σ.length = ((((((σ.set i1 x1).set i2 x2).set i3 x3).set i4 x4).set i5 x5).set i6 x6):=sTX (by simp)
theorem sg6_comm (h2:i1≠i2) (h3:i1≠i3) (h4:i1≠i4) (h5:i1≠i5) (h6:i1≠i6):((((((σ.set i1 x1).set i2 x2).set i3 x3).set i4 x4).set i5 x5).set i6 x6).set i1 z = (((((σ.set i1 z).set i2 x2).set i3 x3).set i4 x4).set i5 x5).set i6 x6:=by
 rw [List.set_comm _ _ (Ne.symm h6),sg5_comm h2 h3 h4 h5]
end
attribute [go_sem] sg5_get0 sg5_getk sg5_set0 sg5_setk sg5_take0 sg5_takek sg5_take sg5_comm sg6_get0 sg6_getk sg6_set0 sg6_setk sg6_take0 sg6_takek sg6_take sg6_comm
end Go.AM
