/- A part of the abstract machine and its simulation. -/
import Derived.Test.YtbalikooghpmlaaDoorAmSimp
set_option linter.unusedVariables false
set_option linter.unusedSimpArgs false
namespace Go.AM
open Go
def loopIn (id : Nat) : Code → Option Code
 | .seq a b => match loopIn id a with | some c => some c | none => loopIn id b
 | .cond _ a b => match loopIn id a with | some c => some c | none => loopIn id b
 | .block i (.loop c) => if i = id then some c else loopIn id c
 | .block _ c => loopIn id c
 | .loop c => loopIn id c
 | .scope c => loopIn id c
 | .rangeFunc _ _ _ c => loopIn id c
 | _ => none
def loopAt (id : Nat) (c : Code) : Code := (loopIn id c).getD .skip
def rangeIn (id : Nat) : Code → Option (Code × Code)
 | .seq a b => match rangeIn id a with | some c => some c | none => rangeIn id b
 | .cond _ a b => match rangeIn id a with | some c => some c | none => rangeIn id b
 | .block i (.rangeFunc _ _ a b) => if i = id then some (a, b) else rangeIn id b
 | .block _ c => rangeIn id c
 | .loop c => rangeIn id c
 | .scope c => rangeIn id c
 | .rangeFunc _ _ _ c => rangeIn id c
 | _ => none
def rangeA (id : Nat) (c : Code) : Code := ((rangeIn id c).getD (.skip, .skip)).1
def rangeB (id : Nat) (c : Code) : Code := ((rangeIn id c).getD (.skip, .skip)).2
def foldR (id : Nat) (A B : Code) : Code → Code
 | .seq a b => .seq (foldR id A B a) (foldR id A B b)
 | .cond x a b => .cond x (foldR id A B a) (foldR id A B b)
 | .block i (.rangeFunc f ps a b) => if i = id then .block i (.rangeFunc f ps A B) else .block i (.rangeFunc f ps a (foldR id A B b))
 | .block i c => .block i (foldR id A B c)
 | .loop c => .loop (foldR id A B c)
 | .scope c => .scope (foldR id A B c)
 | c => c
theorem drop_cons {α : Type} {xs : List α} {i : Nat} {x : α} (h : xs[i]? = some x) : xs.drop i = x :: xs.drop (i + 1) := by
 obtain ⟨hi, rfl⟩ := List.getElem?_eq_some_iff.1 h
 exact List.drop_eq_getElem_cons hi
theorem wrap64_eq (n : Int) : IntKind.i64.wrap n = if n % 18446744073709551616 ≥ 9223372036854775808 then n % 18446744073709551616 - 18446744073709551616 else n % 18446744073709551616 := by
 show (if (true && decide _) = true then _ else _) = _
 simp only [Bool.true_and, decide_eq_true_eq]
 rfl
theorem wrap_id {n : Int} (h1 : -9223372036854775808 ≤ n) (h2 : n ≤ 9223372036854775807) : IntKind.i64.wrap n = n := by
 rw [wrap64_eq]
 split <;> omega
end Go.AM
