/- A part of the abstract machine and its simulation (AmData). -/
import Derived.Test.YtldbjaobpkdhnaaDoorAmSimp
set_option linter.unusedVariables false
set_option linter.unusedSimpArgs false
namespace Go.AM
open Go

/-- the first loop in block id -/
def loopIn (id : Nat) : Code → Option Code
  | .seq a b => match loopIn id a with | some c => some c | none => loopIn id b
  | .cond _ a b => match loopIn id a with | some c => some c | none => loopIn id b
  | .block i (.loop c) => if i = id then some c else loopIn id c
  | .block _ c => loopIn id c
  | .loop c => loopIn id c
  | .scope c => loopIn id c
  | .rangeFunc _ _ _ c => loopIn id c
  | _ => none
def loopAt (id : Nat) (c : Code) : Code := (loopIn id c).getD .skip

inductive Node where
  | mk (label : Int) (nl : Bool) (kids : List Node)
def Node.label : Node → Int | .mk l _ _ => l
def Node.nl : Node → Bool | .mk _ n _ => n
def Node.kids : Node → List Node | .mk _ _ k => k

mutual
def encN : Node → List PV
  | .mk l nl ks => [.lit (.int .i64 l), .sl nl 2 (encNs ks)]
def encNs : List Node → List (List PV)
  | [] => []
  | k :: r => encN k :: encNs r
end
theorem encNs_map : ∀ l : List Node, encNs l = l.map encN
  | [] => rfl
  | k :: r => by rw [encNs, encNs_map r]; rfl
theorem encNs_len (l : List Node) : (encNs l).length = l.length := by rw [encNs_map, List.length_map]
theorem encNs_app (a b : List Node) : encNs (a ++ b) = encNs a ++ encNs b := by simp [encNs_map]
theorem encNs_at (pre : List Node) (x : Node) (suf : List Node) : (encNs (pre ++ x :: suf))[pre.length]? = some (encN x) := by
  rw [encNs_map]; simp
theorem encNs_get (xs : List Node) (i : Nat) : (encNs xs)[i]? = xs[i]?.map encN := by rw [encNs_map, List.getElem?_map]
mutual
def sizeN : Node → Nat
  | .mk _ _ ks => 1 + sizeNs ks
def sizeNs : List Node → Nat
  | [] => 0
  | k :: r => sizeN k + sizeNs r
end
theorem sizeNs_map : ∀ l : List Node, sizeNs l = (l.map sizeN).sum
  | [] => rfl
  | k :: r => by rw [sizeNs, sizeNs_map r]; simp
theorem drop_cons {α : Type} {xs : List α} {i : Nat} {x : α} (h : xs[i]? = some x) : xs.drop i = x :: xs.drop (i + 1) := by
  obtain ⟨hi, rfl⟩ := List.getElem?_eq_some_iff.1 h
  exact List.drop_eq_getElem_cons hi
theorem wrap64_eq (n : Int) : IntKind.i64.wrap n = if n % 18446744073709551616 ≥ 9223372036854775808 then n % 18446744073709551616 - 18446744073709551616 else n % 18446744073709551616 := by
  show (if (true && decide _) = true then _ else _) = _
  simp only [Bool.true_and, decide_eq_true_eq]
  rfl
theorem wrap_id {n : Int} (h1 : -9223372036854775808 ≤ n) (h2 : n ≤ 9223372036854775807) : IntKind.i64.wrap n = n := by
  rw [wrap64_eq]
  split <;> omega
end Go.AM
