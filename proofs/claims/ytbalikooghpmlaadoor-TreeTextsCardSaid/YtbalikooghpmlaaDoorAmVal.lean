/- A part of the abstract machine and its simulation. -/
import Derived.Test.YtbalikooghpmlaaDoorAmData
set_option linter.unusedVariables false
set_option linter.unusedSimpArgs false
namespace Go.AM
open Go
abbrev iv (n : Int) : PV := .lit (.int .i64 n)
abbrev bv (b : Bool) : PV := .lit (.bool b)
def rowI (n : Int) : List PV := [iv n]
def rowB (b : Bool) : List PV := [bv b]
theorem wrapN {n : Int} (h : -9223372036854775808 ≤ n) (h2 : n ≤ 9223372036854775807) : IntKind.i64.wrap n = n := by rw [wrap_id] <;> omega
theorem drop_get {α : Type} {xs : List α} {i : Nat} {x : α} (h : xs[i]? = some x) : xs.drop i = x :: xs.drop (i + 1) := drop_cons h
section
variable {σ l : List AObj} {n k i : Nat} {x : AObj}
theorem sA0 (h : σ.length = n) : (σ ++ l)[n]? = l[0]? := by subst h; rw [List.getElem?_append_right (Nat.le_refl _), Nat.sub_self]
theorem sAK (h : σ.length = n) : (σ ++ l)[n + k]? = l[k]? := by subst h; rw [List.getElem?_append_right (by omega)]; congr 1; omega
theorem sS0 (h : σ.length = n) : (σ ++ l).set n x = σ ++ l.set 0 x := by subst h; rw [List.set_append_right _ _ (Nat.le_refl _), Nat.sub_self]
theorem sSK (h : σ.length = n) : (σ ++ l).set (n + k) x = σ ++ l.set k x := by subst h; rw [List.set_append_right _ _ (by omega)]; congr 2; omega
theorem sT0 (h : σ.length = n) : (σ ++ l).take n = σ := by subst h; simp
theorem sTK (h : σ.length = n) : (σ ++ l).take (n + k) = σ ++ l.take k := by subst h; rw [List.take_append, List.take_of_length_le (by omega)]; congr 2; omega
theorem sTX (h : σ.length = n) : σ.take n = σ := by subst h; simp
end
theorem pur_p (base : Nat) (σ : List AObj) (k : Nat) (v : PV) : pur base σ (k + 1) (.p v) = some v := rfl
theorem pur_own (base : Nat) (σ : List AObj) (k sz : Nat) (r : List (List PV)) : pur base σ (k + 1) (.own sz r) = some (.sl none sz r) := rfl
end Go.AM
