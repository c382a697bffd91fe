/- What the functions of this seat compute on the abstract machine, function by function, and the plain laws. -/
import Derived.Test.YtldbjaobpkdhnaaDoorLaws
import Derived.Test.YtldbjaobpkdhnaaDoorAmEntry
set_option linter.unusedVariables false
set_option linter.unusedSimpArgs false
namespace Go.AM.S03
open Go Go.Proofs Go.AM
set_option linter.unusedVariables false
def allI {α : Type} (ok : Nat → α → Bool) : Nat → List α → Bool
  | _, [] => true
  | i, x :: r => ok i x && allI ok (i + 1) r
theorem chk {α R : Type} {body : Nat → α → Unit → (Unit → Option R) → Option R} {ok : Nat → α → Bool} {f : Option R} : ∀ (l : List α) (i : Nat) (k : Unit → Option R), (∀ j x n1, l[j]? = some x → body (i + j) x () n1 = if ok (i + j) x = true then n1 () else f) →
    rangeC body l i () k = if allI ok i l = true then k () else f
  | [], i, k, _ => by rw [rangeC, allI, if_pos rfl]
  | x :: l, i, k, h => by
    have h0 := h 0 x (fun u => rangeC body l (i + 1) u k) rfl
    rw [Nat.add_zero] at h0
    rw [rangeC, allI]
    rw [show (fun s' => rangeC body l (i + 1) s' k) = (fun u => rangeC body l (i + 1) u k) from rfl, h0]
    cases hk : ok i x with
    | false => simp
    | true =>
      simp only [if_true, Bool.true_and]
      exact chk l (i + 1) k (fun j y n1 hj => by have := h (j + 1) y n1 (by simpa using hj); rwa [show i + (j + 1) = i + 1 + j by omega] at this)
theorem allI_all {α : Type} {ok : α → Bool} : ∀ (l : List α) (i : Nat), allI (fun _ x => ok x) i l = l.all ok
  | [], _ => rfl
  | x :: l, i => by rw [allI, allI_all l, List.all_cons]
def stOk (m s : Int) : Bool := decide (0 ≤ s ∧ s < m)
def rOk (r : List Int) (m : Int) (x : Rule) : Bool := decide (0 ≤ x.Sym ∧ x.Sym < r.length ∧ (x.From.length : Int) = rk r x.Sym) && (stOk m x.To && x.From.all (stOk m))
def fOk (F : List Int) (m : Int) (i : Nat) (x : Int) : Bool := stOk m x && (decide (i = 0) || decide ((F[i - 1]?).getD 0 < x))
def aV (r : List Int) (a : Automaton) : Bool := vA r && (decide (0 ≤ a.States ∧ a.States ≤ 300 ∧ (a.Rules.length : Int) ≤ 20000) && (allI (fOk a.Final a.States) 0 a.Final && a.Rules.all (rOk r a.States)))
structure AW (a : Automaton) : Prop where
  fin : a.Final.length < 9223372036854775808
  rul : a.Rules.length < 9223372036854775808
  frm : ∀ x ∈ a.Rules, x.From.length < 9223372036854775808
theorem idx_prev {F : List Int} {i : Nat} {x : Int} (h : F[i]? = some x) (hi : 0 < i) (hl : F.length < 9223372036854775808) : idx F (w64 ((i : Int) - 1)) = some ((F[i - 1]?).getD 0) := by
  have hlt := (List.getElem?_eq_some_iff.1 h).1
  rw [w64_eq (by omega) (by omega)]
  unfold idx
  rw [if_pos (by omega), show ((i : Int) - 1).toNat = i - 1 by omega, List.getElem?_eq_getElem (by omega)]
  rfl
theorem auto_eq (r : List Int) (a : Automaton) (w : AW a) : auto_Valid ⟨r⟩ a = some (aV r a) := by
  unfold auto_Valid aV
  rw [hvA]
  simp only [Option.bind_some]
  cases vA r with
  | false => rfl
  | true =>
    simp only [if_true, Bool.true_and]
    by_cases c1 : a.States < 0
    · rw [if_pos c1, decide_eq_false (by omega)]; rfl
    rw [if_neg c1]
    by_cases c2 : 300 < a.States
    · rw [if_pos c2, decide_eq_false (by omega)]; rfl
    rw [if_neg c2]
    by_cases c3 : 20000 < (a.Rules.length : Int)
    · rw [if_pos c3, decide_eq_false (by omega)]; rfl
    rw [if_neg c3, decide_eq_true (by omega), Bool.true_and]
    rw [rangeL, if_pos w.fin]
    rw [chk (ok := fOk a.Final a.States) (f := some false) a.Final 0 _ (fun j x n1 hj => by
      rw [Nat.zero_add]
      unfold jn fOk stOk
      dsimp only
      by_cases d1 : 0 ≤ x
      · rw [if_pos d1]
        by_cases d2 : x < a.States
        · rw [decide_eq_true d2, if_pos rfl, decide_eq_true (⟨d1, d2⟩ : 0 ≤ x ∧ x < a.States), Bool.true_and]
          by_cases d3 : 0 < (j : Int)
          · rw [if_pos d3, idx_prev hj (by omega) w.fin, decide_eq_false (show ¬ j = 0 by omega), Bool.false_or]
            simp only [Option.bind_some]
            by_cases d4 : x ≤ (a.Final[j - 1]?).getD 0
            · rw [if_pos d4, decide_eq_false (by omega)]; rfl
            · rw [if_neg d4, decide_eq_true (by omega)]; rfl
          · rw [if_neg d3, decide_eq_true (show j = 0 by omega)]; rfl
        · rw [decide_eq_false d2, decide_eq_false (show ¬ (0 ≤ x ∧ x < a.States) from fun h => d2 h.2)]; rfl
      · rw [if_neg d1, decide_eq_false (show ¬ (0 ≤ x ∧ x < a.States) from fun h => d1 h.1)]; rfl)]
    cases allI (fOk a.Final a.States) 0 a.Final with
    | false => rfl
    | true =>
      simp only [if_true, Bool.true_and]
      rw [rangeL, if_pos w.rul]
      rw [chk (ok := fun _ x => rOk r a.States x) (f := some false) a.Rules 0 _ (fun j x n1 hj => by
        have hx := List.mem_of_getElem? hj
        unfold rOk
        by_cases d1 : x.Sym < 0
        · rw [if_pos d1, decide_eq_false (fun h => by omega)]; rfl
        rw [if_neg d1]
        by_cases d2 : (r.length : Int) ≤ x.Sym
        · rw [if_pos d2, decide_eq_false (fun h => by omega)]; rfl
        rw [if_neg d2, rk_get (by omega) (by omega)]
        simp only [Option.bind_some]
        by_cases d3 : (x.From.length : Int) = rk r x.Sym
        · rw [if_pos d3, decide_eq_true (show 0 ≤ x.Sym ∧ x.Sym < (r.length : Int) ∧ (x.From.length : Int) = rk r x.Sym from ⟨by omega, by omega, d3⟩), Bool.true_and]
          unfold jn
          dsimp only
          have hfr : rangeL x.From () (fun k4 i4 x4 (s4 : Unit) n4 => if 0 ≤ x4 then (if decide (x4 < a.States) = true then n4 () else some false) else (if false = true then n4 () else some false)) (fun s4 => n1 ()) = if x.From.all (stOk a.States) = true then n1 () else some false := by
            rw [rangeL, if_pos (w.frm x hx)]
            rw [chk (ok := fun _ s => stOk a.States s) (f := some false) x.From 0 _ (fun j y n1 _ => by
              unfold stOk
              by_cases e1 : 0 ≤ y
              · by_cases e2 : y < a.States
                · simp [e1, e2]
                · simp [e1, e2]
              · simp [e1]), allI_all]
          by_cases d4 : 0 ≤ x.To
          · rw [if_pos d4]
            by_cases d5 : x.To < a.States
            · rw [decide_eq_true d5, if_pos rfl]
              rw [show stOk a.States x.To = true from decide_eq_true ⟨d4, d5⟩, Bool.true_and]
              exact hfr
            · rw [decide_eq_false d5, show stOk a.States x.To = false from decide_eq_false (fun h => d5 h.2)]; rfl
          · rw [if_neg d4, show stOk a.States x.To = false from decide_eq_false (fun h => d4 h.1)]; rfl
        · rw [if_neg d3, decide_eq_false (show ¬ (0 ≤ x.Sym ∧ x.Sym < (r.length : Int) ∧ (x.From.length : Int) = rk r x.Sym) from fun h => d3 h.2.2)]; rfl), allI_all]
      cases a.Rules.all (rOk r a.States) <;> rfl
theorem rauto_eq (r : List Int) (a : Automaton) (w : AW a) : ref03_Valid ⟨r⟩ a = some (aV r a) := by
  unfold ref03_Valid aV
  rw [rvA]
  simp only [Option.bind_some]
  cases vA r with
  | false => rfl
  | true =>
    simp only [if_true, Bool.true_and]
    by_cases c1 : a.States < 0
    · rw [if_pos c1, decide_eq_false (by omega)]; rfl
    rw [if_neg c1]
    by_cases c2 : 300 < a.States
    · rw [if_pos c2, decide_eq_false (by omega)]; rfl
    rw [if_neg c2]
    by_cases c3 : 20000 < (a.Rules.length : Int)
    · rw [if_pos c3, decide_eq_false (by omega)]; rfl
    rw [if_neg c3, decide_eq_true (by omega), Bool.true_and]
    rw [rangeL, if_pos w.fin]
    rw [chk (ok := fOk a.Final a.States) (f := some false) a.Final 0 _ (fun j x n1 hj => by
      rw [Nat.zero_add]
      unfold fOk stOk
      by_cases d1 : x < 0
      · rw [if_pos d1, decide_eq_false (show ¬ (0 ≤ x ∧ x < a.States) from fun h => by omega)]; rfl
      rw [if_neg d1]
      by_cases d2 : a.States ≤ x
      · rw [if_pos d2, decide_eq_false (show ¬ (0 ≤ x ∧ x < a.States) from fun h => by omega)]; rfl
      rw [if_neg d2, decide_eq_true (show 0 ≤ x ∧ x < a.States by omega), Bool.true_and]
      by_cases d3 : 0 < (j : Int)
      · rw [if_pos d3, idx_prev hj (by omega) w.fin, decide_eq_false (show ¬ j = 0 by omega), Bool.false_or]
        simp only [Option.bind_some]
        by_cases d4 : x ≤ (a.Final[j - 1]?).getD 0
        · rw [if_pos d4, decide_eq_false (by omega)]; rfl
        · rw [if_neg d4, decide_eq_true (by omega)]; rfl
      · rw [if_neg d3, decide_eq_true (show j = 0 by omega)]; rfl)]
    cases allI (fOk a.Final a.States) 0 a.Final with
    | false => rfl
    | true =>
      simp only [if_true, Bool.true_and]
      rw [rangeL, if_pos w.rul]
      rw [chk (ok := fun _ x => rOk r a.States x) (f := some false) a.Rules 0 _ (fun j x n1 hj => by
        have hx := List.mem_of_getElem? hj
        unfold rOk
        by_cases d1 : x.Sym < 0
        · rw [if_pos d1, decide_eq_false (fun h => by omega)]; rfl
        rw [if_neg d1]
        by_cases d2 : (r.length : Int) ≤ x.Sym
        · rw [if_pos d2, decide_eq_false (fun h => by omega)]; rfl
        rw [if_neg d2, rk_get (by omega) (by omega)]
        simp only [Option.bind_some]
        by_cases d3 : (x.From.length : Int) = rk r x.Sym
        · rw [if_pos d3, decide_eq_true (show 0 ≤ x.Sym ∧ x.Sym < (r.length : Int) ∧ (x.From.length : Int) = rk r x.Sym from ⟨by omega, by omega, d3⟩), Bool.true_and]
          by_cases d4 : x.To < 0
          · rw [if_pos d4, show stOk a.States x.To = false from decide_eq_false (fun h => by omega)]; rfl
          rw [if_neg d4]
          by_cases d5 : a.States ≤ x.To
          · rw [if_pos d5, show stOk a.States x.To = false from decide_eq_false (fun h => by omega)]; rfl
          rw [if_neg d5, show stOk a.States x.To = true from decide_eq_true ⟨by omega, by omega⟩, Bool.true_and, rangeL, if_pos (w.frm x hx)]
          rw [chk (ok := fun _ s => stOk a.States s) (f := some false) x.From 0 _ (fun j y n1 _ => by
            unfold stOk
            by_cases e1 : y < 0
            · rw [if_pos e1, decide_eq_false (fun h => by omega)]; rfl
            rw [if_neg e1]
            by_cases e2 : a.States ≤ y
            · rw [if_pos e2, decide_eq_false (fun h => by omega)]; rfl
            rw [if_neg e2, decide_eq_true ⟨by omega, by omega⟩]; rfl), allI_all]
        · rw [if_neg d3, decide_eq_false (show ¬ (0 ≤ x.Sym ∧ x.Sym < (r.length : Int) ∧ (x.From.length : Int) = rk r x.Sym) from fun h => d3 h.2.2)]; rfl), allI_all]
      cases a.Rules.all (rOk r a.States) <;> rfl
def fewB (r : List Int) (a : Automaton) (t : Tree) : Bool := decide ((tsT t : Int) ≤ 400) && (decide (a.Final.length ≤ 60) && (decide (a.Rules.length ≤ 60) && (a.Rules.all (fun x => decide (x.From.length ≤ 10)) && decide (r.length ≤ 40))))
theorem few_eq {n : Nat} (r : List Int) (a : Automaton) (t : Tree) (w : AW a) (hd : tdT t < n) (hw : twT t = true) : law03_few n ⟨r⟩ a [t] = some (fewB r a t) := by
  unfold law03_few fewB
  rw [rangeL, if_pos (by simp only [List.length_cons, List.length_nil]; omega)]
  simp only [rangeC]
  rw [tfew_eq hd hw (by omega) (by omega)]
  simp only [Option.bind_some]
  cases decide ((tsT t : Int) ≤ 400) with
  | false => rfl
  | true =>
    simp only [if_true, Bool.true_and]
    unfold ref03_Few
    rw [rangeL, if_pos (by simp only [List.length_cons, List.length_nil]; omega)]
    simp only [rangeC]
    by_cases c1 : (60 : Int) < a.Final.length
    · rw [if_pos c1, decide_eq_false (show ¬ a.Final.length ≤ 60 by omega)]; rfl
    rw [if_neg c1, decide_eq_true (show a.Final.length ≤ 60 by omega), Bool.true_and]
    by_cases c2 : (60 : Int) < a.Rules.length
    · rw [if_pos c2, decide_eq_false (show ¬ a.Rules.length ≤ 60 by omega)]; rfl
    rw [if_neg c2, decide_eq_true (show a.Rules.length ≤ 60 by omega), Bool.true_and]
    have e : ∀ (k : Option Bool), (rangeL a.Rules () (fun k5 i5 x5 (s5 : Unit) n5 => if 10 < (x5.From.length : Int) then some false else n5 ()) fun s5 => k) = if a.Rules.all (fun x => decide (x.From.length ≤ 10)) = true then k else some false := by
      intro k
      rw [rangeL, if_pos w.rul]
      rw [chk (ok := fun _ x => decide (x.From.length ≤ 10)) (f := some false) a.Rules 0 _ (fun j x n1 hj => by
        by_cases e : 10 < (x.From.length : Int)
        · rw [if_pos e, decide_eq_false (by omega)]; rfl
        · rw [if_neg e, decide_eq_true (by omega)]; rfl), allI_all]
    have e2 : (decide ((r.length : Int) ≤ 40)) = decide (r.length ≤ 40) := by
      by_cases c : r.length ≤ 40
      · rw [decide_eq_true c, decide_eq_true (by omega)]
      · rw [decide_eq_false c, decide_eq_false (by omega)]
    rw [e]
    have e1 : (if 300 < a.States then if a.States ≤ 300 then some false else (if a.Rules.all (fun x => decide (x.From.length ≤ 10)) = true then some (decide ((r.length : Int) ≤ 40)) else some false) else (if a.Rules.all (fun x => decide (x.From.length ≤ 10)) = true then some (decide ((r.length : Int) ≤ 40)) else some false)) = (if a.Rules.all (fun x => decide (x.From.length ≤ 10)) = true then some (decide ((r.length : Int) ≤ 40)) else some false) := by
      by_cases c : 300 < a.States
      · rw [if_pos c, if_neg (by omega)]
      · rw [if_neg c]
    rw [e1, e2]
    cases a.Rules.all (fun x => decide (x.From.length ≤ 10)) <;> rfl
end Go.AM.S03

namespace Go.AM.S03
open Go Go.Proofs Go.AM
set_option linter.unusedVariables false
set_option maxRecDepth 100000
theorem wrap_u64 {n : Int} (h1 : 0 ≤ n) (h2 : n < 18446744073709551616) : IntKind.u64.wrap n = n := by
  have : IntKind.u64.wrap n = n % 18446744073709551616 := rfl
  rw [this]; omega
theorem wrap_u32 {n : Int} (h1 : 0 ≤ n) (h2 : n < 4294967296) : IntKind.u32.wrap n = n := by
  have : IntKind.u32.wrap n = n % 4294967296 := rfl
  rw [this]; omega
theorem wrap_u8 {n : Int} (h1 : 0 ≤ n) (h2 : n < 256) : IntKind.u8.wrap n = n := by
  have : IntKind.u8.wrap n = n % 256 := rfl
  rw [this]; omega
def LEN : Str := [0, 1, 2, 2, 3, 3, 3, 3, 4, 4, 4, 4, 4, 4, 4, 4, 5, 5, 5, 5, 5, 5, 5, 5, 5, 5, 5, 5, 5, 5, 5, 5, 6, 6, 6, 6, 6, 6, 6, 6, 6, 6, 6, 6, 6, 6, 6, 6, 6, 6, 6, 6, 6, 6, 6, 6, 6, 6, 6, 6, 6, 6, 6, 6, 7, 7, 7, 7, 7, 7, 7, 7, 7, 7, 7, 7, 7, 7, 7, 7, 7, 7, 7, 7, 7, 7, 7, 7, 7, 7, 7, 7, 7, 7, 7, 7, 7, 7, 7, 7, 7, 7, 7, 7, 7, 7, 7, 7, 7, 7, 7, 7, 7, 7, 7, 7, 7, 7, 7, 7, 7, 7, 7, 7, 7, 7, 7, 7, 8, 8, 8, 8, 8, 8, 8, 8, 8, 8, 8, 8, 8, 8, 8, 8, 8, 8, 8, 8, 8, 8, 8, 8, 8, 8, 8, 8, 8, 8, 8, 8, 8, 8, 8, 8, 8, 8, 8, 8, 8, 8, 8, 8, 8, 8, 8, 8, 8, 8, 8, 8, 8, 8, 8, 8, 8, 8, 8, 8, 8, 8, 8, 8, 8, 8, 8, 8, 8, 8, 8, 8, 8, 8, 8, 8, 8, 8, 8, 8, 8, 8, 8, 8, 8, 8, 8, 8, 8, 8, 8, 8, 8, 8, 8, 8, 8, 8, 8, 8, 8, 8, 8, 8, 8, 8, 8, 8, 8, 8, 8, 8, 8, 8, 8, 8, 8, 8, 8, 8, 8, 8, 8, 8, 8, 8, 8, 8]
def TAB : Str := [48, 48, 48, 49, 48, 50, 48, 51, 48, 52, 48, 53, 48, 54, 48, 55, 48, 56, 48, 57, 49, 48, 49, 49, 49, 50, 49, 51, 49, 52, 49, 53, 49, 54, 49, 55, 49, 56, 49, 57, 50, 48, 50, 49, 50, 50, 50, 51, 50, 52, 50, 53, 50, 54, 50, 55, 50, 56, 50, 57, 51, 48, 51, 49, 51, 50, 51, 51, 51, 52, 51, 53, 51, 54, 51, 55, 51, 56, 51, 57, 52, 48, 52, 49, 52, 50, 52, 51, 52, 52, 52, 53, 52, 54, 52, 55, 52, 56, 52, 57, 53, 48, 53, 49, 53, 50, 53, 51, 53, 52, 53, 53, 53, 54, 53, 55, 53, 56, 53, 57, 54, 48, 54, 49, 54, 50, 54, 51, 54, 52, 54, 53, 54, 54, 54, 55, 54, 56, 54, 57, 55, 48, 55, 49, 55, 50, 55, 51, 55, 52, 55, 53, 55, 54, 55, 55, 55, 56, 55, 57, 56, 48, 56, 49, 56, 50, 56, 51, 56, 52, 56, 53, 56, 54, 56, 55, 56, 56, 56, 57, 57, 48, 57, 49, 57, 50, 57, 51, 57, 52, 57, 53, 57, 54, 57, 55, 57, 56, 57, 57]
theorem len_all : ∀ i : Fin 256, ((idx LEN ((i.val : Nat) : Int)).map fun b => decide (b.toNat ≤ 8 ∧ i.val < 2 ^ b.toNat)) = some true := by decide +kernel
theorem len_at {x : Int} (h0 : 0 ≤ x) (h1 : x < 256) : ∃ b : UInt8, idx LEN x = some b ∧ b.toNat ≤ 8 ∧ x < 2 ^ b.toNat := by
  obtain ⟨n, rfl⟩ : ∃ n : Nat, x = n := ⟨x.toNat, by omega⟩
  have := len_all ⟨n, by omega⟩
  simp only at this
  cases hb : idx LEN (n : Int) with
  | none => rw [hb] at this; cases this
  | some b =>
    rw [hb, Option.map_some] at this
    injection this with this
    have := of_decide_eq_true this
    exact ⟨b, rfl, this.1, by exact_mod_cast this.2⟩
theorem tab_all : ∀ i : Fin 100, ((idx TAB ((i.val * 2 + 1 : Nat) : Int)).map fun b => decide (b.toNat = 48 + i.val % 10)) = some true ∧ ((idx TAB ((i.val * 2 : Nat) : Int)).map fun b => decide (b.toNat = 48 + i.val / 10)) = some true := by decide +kernel
theorem tab1 {x : Int} (h0 : 0 ≤ x) (h1 : x < 100) : ∃ b : UInt8, idx TAB (IntKind.u32.wrap (IntKind.u32.wrap (x * 2) + 1)) = some b ∧ (b.toNat : Int) = 48 + x % 10 := by
  rw [wrap_u32 (n := x * 2) (by omega) (by omega), wrap_u32 (by omega) (by omega)]
  obtain ⟨n, rfl⟩ : ∃ n : Nat, x = n := ⟨x.toNat, by omega⟩
  have := (tab_all ⟨n, by omega⟩).1
  simp only at this
  rw [show ((n : Int) * 2 + 1) = ((n * 2 + 1 : Nat) : Int) by omega]
  cases hb : idx TAB ((n * 2 + 1 : Nat) : Int) with
  | none => rw [hb] at this; cases this
  | some b =>
    rw [hb, Option.map_some] at this
    injection this with this
    have := of_decide_eq_true this
    exact ⟨b, rfl, by omega⟩
theorem tab0 {x : Int} (h0 : 0 ≤ x) (h1 : x < 100) : ∃ b : UInt8, idx TAB (IntKind.u32.wrap (x * 2)) = some b ∧ (b.toNat : Int) = 48 + x / 10 := by
  rw [wrap_u32 (n := x * 2) (by omega) (by omega)]
  obtain ⟨n, rfl⟩ : ∃ n : Nat, x = n := ⟨x.toNat, by omega⟩
  have := (tab_all ⟨n, by omega⟩).2
  simp only at this
  rw [show ((n : Int) * 2) = ((n * 2 : Nat) : Int) by omega]
  cases hb : idx TAB ((n * 2 : Nat) : Int) with
  | none => rw [hb] at this; cases this
  | some b =>
    rw [hb, Option.map_some] at this
    injection this with this
    have := of_decide_eq_true this
    exact ⟨b, rfl, by omega⟩
theorem shr32 {n : Int} : shrI .u64 n 32 = n / 4294967296 := by
  show n.fdiv 4294967296 = _
  rw [Int.fdiv_eq_ediv_of_nonneg _ (by omega)]
theorem shr16 {n : Int} : shrI .u64 n 16 = n / 65536 := by
  show n.fdiv 65536 = _
  rw [Int.fdiv_eq_ediv_of_nonneg _ (by omega)]
theorem shr8 {n : Int} : shrI .u64 n 8 = n / 256 := by
  show n.fdiv 256 = _
  rw [Int.fdiv_eq_ediv_of_nonneg _ (by omega)]
theorem len_get {x : Int} {c : Int} {s : Nat} (h0 : 0 ≤ x) (h1 : x < 256) (hc : c = s) (hs : s ≤ 56) : ∃ b : Nat, ((idx LEN (IntKind.u8.wrap x)).bind fun v : UInt8 => some (w64 (c + IntKind.i64.wrap (v.toNat : Int)))) = some (b : Int) ∧ b ≤ s + 8 ∧ ∃ k : Nat, k ≤ 8 ∧ b = s + k ∧ x < 2 ^ k := by
  rw [wrap_u8 h0 h1]
  obtain ⟨v, hv, h2, h3⟩ := len_at h0 h1
  rw [hv, Option.bind_some, wrap_id (n := (v.toNat : Int)) (by omega) (by omega), w64_eq (by omega) (by omega)]
  exact ⟨s + v.toNat, by rw [hc]; push_cast; rfl, by omega, v.toNat, h2, rfl, h3⟩
theorem pow_split (s k : Nat) : (2 : Int) ^ (s + k) = 2 ^ s * 2 ^ k := Int.pow_add 2 s k
theorem Len64_eq {u : Int} (h0 : 0 ≤ u) (h1 : u < 18446744073709551616) : ∃ b : Nat, math_bits_Len64 u = some (b : Int) ∧ b ≤ 64 ∧ u < 2 ^ b := by
  have fin : ∀ {x : Int} {c : Int} {s : Nat} {A : Option Int}, A = ((idx LEN (IntKind.u8.wrap x)).bind fun v : UInt8 => some (w64 (c + IntKind.i64.wrap (v.toNat : Int)))) → 0 ≤ x → x < 256 → c = s → s ≤ 56 → (∀ y : Int, x < y → u < 2 ^ s * y) → ∃ b : Nat, A = some (b : Int) ∧ b ≤ 64 ∧ u < 2 ^ b := by
    intro x c s A hA h0 h1 hc hs hy
    obtain ⟨b, e, hb, k, hk, rfl, hx⟩ := len_get h0 h1 hc hs
    exact ⟨s + k, by rw [hA, e], by omega, by rw [pow_split]; exact hy _ hx⟩
  unfold math_bits_Len64
  rw [shr32, shr16, shr16, shr8, shr8, shr8, shr8]
  by_cases c1 : 4294967296 ≤ u
  · rw [if_pos c1]
    by_cases c2 : 65536 ≤ u / 4294967296
    · rw [if_pos c2]
      by_cases c3 : 256 ≤ u / 4294967296 / 65536
      · rw [if_pos c3]
        exact fin (s := 56) rfl (by omega) (by omega) rfl (by omega) (fun y hy => by omega)
      · rw [if_neg c3]
        exact fin (s := 48) rfl (by omega) (by omega) rfl (by omega) (fun y hy => by omega)
    · rw [if_neg c2]
      by_cases c3 : 256 ≤ u / 4294967296
      · rw [if_pos c3]
        exact fin (s := 40) rfl (by omega) (by omega) rfl (by omega) (fun y hy => by omega)
      · rw [if_neg c3]
        exact fin (s := 32) rfl (by omega) (by omega) rfl (by omega) (fun y hy => by omega)
  · rw [if_neg c1]
    by_cases c2 : 65536 ≤ u
    · rw [if_pos c2]
      by_cases c3 : 256 ≤ u / 65536
      · rw [if_pos c3]
        exact fin (s := 24) rfl (by omega) (by omega) rfl (by omega) (fun y hy => by omega)
      · rw [if_neg c3]
        exact fin (s := 16) rfl (by omega) (by omega) rfl (by omega) (fun y hy => by omega)
    · rw [if_neg c2]
      by_cases c3 : 256 ≤ u
      · rw [if_pos c3]
        exact fin (s := 8) rfl (by omega) (by omega) rfl (by omega) (fun y hy => by omega)
      · rw [if_neg c3]
        exact fin (s := 0) rfl (by omega) (by omega) rfl (by omega) (fun y hy => by omega)
theorem log_all : ∀ b : Fin 65, ((internal_strconv_log10Pow2 ((b.val : Nat) : Int)).bind fun t => (idx pow10L t).map fun p => decide (0 ≤ t ∧ t ≤ 19 ∧ p = 10 ^ t.toNat ∧ 2 ^ b.val ≤ p * 10)) = some true := by decide +kernel
theorem numDigits_eq {u : Int} (h0 : 0 ≤ u) (h1 : u < 18446744073709551616) : ∃ d : Nat, internal_strconv_numDigits u = some (d : Int) ∧ d ≤ 20 ∧ u < 10 ^ d := by
  obtain ⟨b, hb, hb64, hub⟩ := Len64_eq h0 h1
  unfold internal_strconv_numDigits
  rw [hb, Option.bind_some]
  have h := log_all ⟨b, by omega⟩
  simp only at h
  cases ht : internal_strconv_log10Pow2 (b : Int) with
  | none => rw [ht] at h; cases h
  | some t =>
    rw [ht, Option.bind_some] at h
    rw [Option.bind_some]
    cases hp : idx pow10L t with
    | none => rw [hp] at h; cases h
    | some p =>
      rw [hp, Option.map_some] at h
      injection h with h
      obtain ⟨t0, t19, hp10, h2⟩ := of_decide_eq_true h
      rw [Option.bind_some]
      unfold internal_strconv_bool2_int
      obtain ⟨m, rfl⟩ : ∃ m : Nat, t = m := ⟨t.toNat, by omega⟩
      rw [Int.toNat_natCast] at hp10
      by_cases c : p ≤ u
      · rw [decide_eq_true c, if_pos rfl, Option.bind_some, w64_eq (by omega) (by omega)]
        refine ⟨m + 1, rfl, by omega, ?_⟩
        have : (10 : Int) ^ (m + 1) = 10 ^ m * 10 := Int.pow_succ 10 m
        rw [this, ← hp10]
        omega
      · rw [decide_eq_false c, if_neg (by simp), Option.bind_some, w64_eq (by omega) (by omega)]
        exact ⟨m, by simp, by omega, by rw [← hp10]; omega⟩
end Go.AM.S03

namespace Go.AM.S03
open Go Go.Proofs Go.AM
set_option linter.unusedVariables false
set_option maxRecDepth 100000
set_option maxHeartbeats 4000000
def fbBody (l0 : Nat) (k1 : Int × Int × (List Int) → Option (List Int)) (s1 : Int × Int × (List Int)) (n1 : Int × Int × (List Int) → Option (List Int)) : Option (List Int) :=
    if 8 ≤ s1.2.1 then
      (idx TAB (IntKind.u32.wrap ((IntKind.u32.wrap ((Int.tmod (Int.tmod (IntKind.u32.wrap (Int.tmod s1.1 100000000)) 10000) 100) * 2)) + 1))).bind fun v21 =>
      (idx TAB (IntKind.u32.wrap ((Int.tmod (Int.tmod (IntKind.u32.wrap (Int.tmod s1.1 100000000)) 10000) 100) * 2))).bind fun v22 =>
      (idxM l0 s1.2.2 (w64 (s1.2.1 - 1))).bind fun v23 =>
      (idxM l0 (List.set s1.2.2 ((w64 (s1.2.1 - 1)).toNat) (v21.toNat : Int)) (w64 (s1.2.1 - 2))).bind fun v24 =>
      (idx TAB (IntKind.u32.wrap ((IntKind.u32.wrap ((IntKind.u32.wrap (Int.tdiv (Int.tmod (IntKind.u32.wrap (Int.tmod s1.1 100000000)) 10000) 100)) * 2)) + 1))).bind fun v25 =>
      (idx TAB (IntKind.u32.wrap ((IntKind.u32.wrap (Int.tdiv (Int.tmod (IntKind.u32.wrap (Int.tmod s1.1 100000000)) 10000) 100)) * 2))).bind fun v26 =>
      (idxM l0 (List.set (List.set s1.2.2 ((w64 (s1.2.1 - 1)).toNat) (v21.toNat : Int)) ((w64 (s1.2.1 - 2)).toNat) (v22.toNat : Int)) (w64 (s1.2.1 - 3))).bind fun v27 =>
      (idxM l0 (List.set (List.set (List.set s1.2.2 ((w64 (s1.2.1 - 1)).toNat) (v21.toNat : Int)) ((w64 (s1.2.1 - 2)).toNat) (v22.toNat : Int)) ((w64 (s1.2.1 - 3)).toNat) (v25.toNat : Int)) (w64 (s1.2.1 - 4))).bind fun v28 =>
      (idx TAB (IntKind.u32.wrap ((IntKind.u32.wrap ((Int.tmod (IntKind.u32.wrap (Int.tdiv (IntKind.u32.wrap (Int.tmod s1.1 100000000)) 10000)) 100) * 2)) + 1))).bind fun v29 =>
      (idx TAB (IntKind.u32.wrap ((Int.tmod (IntKind.u32.wrap (Int.tdiv (IntKind.u32.wrap (Int.tmod s1.1 100000000)) 10000)) 100) * 2))).bind fun v30 =>
      (idxM l0 (List.set (List.set (List.set (List.set s1.2.2 ((w64 (s1.2.1 - 1)).toNat) (v21.toNat : Int)) ((w64 (s1.2.1 - 2)).toNat) (v22.toNat : Int)) ((w64 (s1.2.1 - 3)).toNat) (v25.toNat : Int)) ((w64 (s1.2.1 - 4)).toNat) (v26.toNat : Int)) (w64 (s1.2.1 - 5))).bind fun v31 =>
      (idxM l0 (List.set (List.set (List.set (List.set (List.set s1.2.2 ((w64 (s1.2.1 - 1)).toNat) (v21.toNat : Int)) ((w64 (s1.2.1 - 2)).toNat) (v22.toNat : Int)) ((w64 (s1.2.1 - 3)).toNat) (v25.toNat : Int)) ((w64 (s1.2.1 - 4)).toNat) (v26.toNat : Int)) ((w64 (s1.2.1 - 5)).toNat) (v29.toNat : Int)) (w64 (s1.2.1 - 6))).bind fun v32 =>
      (idx TAB (IntKind.u32.wrap ((IntKind.u32.wrap ((IntKind.u32.wrap (Int.tdiv (IntKind.u32.wrap (Int.tdiv (IntKind.u32.wrap (Int.tmod s1.1 100000000)) 10000)) 100)) * 2)) + 1))).bind fun v33 =>
      (idx TAB (IntKind.u32.wrap ((IntKind.u32.wrap (Int.tdiv (IntKind.u32.wrap (Int.tdiv (IntKind.u32.wrap (Int.tmod s1.1 100000000)) 10000)) 100)) * 2))).bind fun v34 =>
      (idxM l0 (List.set (List.set (List.set (List.set (List.set (List.set s1.2.2 ((w64 (s1.2.1 - 1)).toNat) (v21.toNat : Int)) ((w64 (s1.2.1 - 2)).toNat) (v22.toNat : Int)) ((w64 (s1.2.1 - 3)).toNat) (v25.toNat : Int)) ((w64 (s1.2.1 - 4)).toNat) (v26.toNat : Int)) ((w64 (s1.2.1 - 5)).toNat) (v29.toNat : Int)) ((w64 (s1.2.1 - 6)).toNat) (v30.toNat : Int)) (w64 (s1.2.1 - 7))).bind fun v35 =>
      (idxM l0 (List.set (List.set (List.set (List.set (List.set (List.set (List.set s1.2.2 ((w64 (s1.2.1 - 1)).toNat) (v21.toNat : Int)) ((w64 (s1.2.1 - 2)).toNat) (v22.toNat : Int)) ((w64 (s1.2.1 - 3)).toNat) (v25.toNat : Int)) ((w64 (s1.2.1 - 4)).toNat) (v26.toNat : Int)) ((w64 (s1.2.1 - 5)).toNat) (v29.toNat : Int)) ((w64 (s1.2.1 - 6)).toNat) (v30.toNat : Int)) ((w64 (s1.2.1 - 7)).toNat) (v33.toNat : Int)) (w64 (s1.2.1 - 8))).bind fun v36 =>
      n1 (IntKind.u64.wrap (Int.tdiv s1.1 100000000), w64 (s1.2.1 - 8), (List.set (List.set (List.set (List.set (List.set (List.set (List.set (List.set s1.2.2 ((w64 (s1.2.1 - 1)).toNat) (v21.toNat : Int)) ((w64 (s1.2.1 - 2)).toNat) (v22.toNat : Int)) ((w64 (s1.2.1 - 3)).toNat) (v25.toNat : Int)) ((w64 (s1.2.1 - 4)).toNat) (v26.toNat : Int)) ((w64 (s1.2.1 - 5)).toNat) (v29.toNat : Int)) ((w64 (s1.2.1 - 6)).toNat) (v30.toNat : Int)) ((w64 (s1.2.1 - 7)).toNat) (v33.toNat : Int)) ((w64 (s1.2.1 - 8)).toNat) (v34.toNat : Int)))
    else
      k1 (s1.1, s1.2.1, s1.2.2)
def fbTail (l0 : Nat) (s1 : Int × Int × (List Int)) : Option (List Int) :=
  if 4 ≤ s1.2.1 then
    (idx TAB (IntKind.u32.wrap ((IntKind.u32.wrap ((Int.tmod (Int.tmod (IntKind.u32.wrap s1.1) 10000) 100) * 2)) + 1))).bind fun v1 =>
    (idx TAB (IntKind.u32.wrap ((Int.tmod (Int.tmod (IntKind.u32.wrap s1.1) 10000) 100) * 2))).bind fun v2 =>
    (idxM l0 s1.2.2 (w64 (s1.2.1 - 1))).bind fun v3 =>
    (idxM l0 (List.set s1.2.2 ((w64 (s1.2.1 - 1)).toNat) (v1.toNat : Int)) (w64 (s1.2.1 - 2))).bind fun v4 =>
    (idx TAB (IntKind.u32.wrap ((IntKind.u32.wrap ((IntKind.u32.wrap (Int.tdiv (Int.tmod (IntKind.u32.wrap s1.1) 10000) 100)) * 2)) + 1))).bind fun v5 =>
    (idx TAB (IntKind.u32.wrap ((IntKind.u32.wrap (Int.tdiv (Int.tmod (IntKind.u32.wrap s1.1) 10000) 100)) * 2))).bind fun v6 =>
    (idxM l0 (List.set (List.set s1.2.2 ((w64 (s1.2.1 - 1)).toNat) (v1.toNat : Int)) ((w64 (s1.2.1 - 2)).toNat) (v2.toNat : Int)) (w64 (s1.2.1 - 3))).bind fun v7 =>
    (idxM l0 (List.set (List.set (List.set s1.2.2 ((w64 (s1.2.1 - 1)).toNat) (v1.toNat : Int)) ((w64 (s1.2.1 - 2)).toNat) (v2.toNat : Int)) ((w64 (s1.2.1 - 3)).toNat) (v5.toNat : Int)) (w64 (s1.2.1 - 4))).bind fun v8 =>
    if 2 ≤ (w64 (s1.2.1 - 4)) then
      (idx TAB (IntKind.u32.wrap ((IntKind.u32.wrap ((Int.tmod (IntKind.u32.wrap (Int.tdiv (IntKind.u32.wrap s1.1) 10000)) 100) * 2)) + 1))).bind fun v9 =>
      (idx TAB (IntKind.u32.wrap ((Int.tmod (IntKind.u32.wrap (Int.tdiv (IntKind.u32.wrap s1.1) 10000)) 100) * 2))).bind fun v10 =>
      (idxM l0 (List.set (List.set (List.set (List.set s1.2.2 ((w64 (s1.2.1 - 1)).toNat) (v1.toNat : Int)) ((w64 (s1.2.1 - 2)).toNat) (v2.toNat : Int)) ((w64 (s1.2.1 - 3)).toNat) (v5.toNat : Int)) ((w64 (s1.2.1 - 4)).toNat) (v6.toNat : Int)) (w64 ((w64 (s1.2.1 - 4)) - 1))).bind fun v11 =>
      (idxM l0 (List.set (List.set (List.set (List.set (List.set s1.2.2 ((w64 (s1.2.1 - 1)).toNat) (v1.toNat : Int)) ((w64 (s1.2.1 - 2)).toNat) (v2.toNat : Int)) ((w64 (s1.2.1 - 3)).toNat) (v5.toNat : Int)) ((w64 (s1.2.1 - 4)).toNat) (v6.toNat : Int)) ((w64 ((w64 (s1.2.1 - 4)) - 1)).toNat) (v9.toNat : Int)) (w64 ((w64 (s1.2.1 - 4)) - 2))).bind fun v12 =>
      if 0 < (w64 ((w64 (s1.2.1 - 4)) - 2)) then
        (idxM l0 (List.set (List.set (List.set (List.set (List.set (List.set s1.2.2 ((w64 (s1.2.1 - 1)).toNat) (v1.toNat : Int)) ((w64 (s1.2.1 - 2)).toNat) (v2.toNat : Int)) ((w64 (s1.2.1 - 3)).toNat) (v5.toNat : Int)) ((w64 (s1.2.1 - 4)).toNat) (v6.toNat : Int)) ((w64 ((w64 (s1.2.1 - 4)) - 1)).toNat) (v9.toNat : Int)) ((w64 ((w64 (s1.2.1 - 4)) - 2)).toNat) (v10.toNat : Int)) 0).bind fun v13 =>
        some (List.set (List.set (List.set (List.set (List.set (List.set (List.set s1.2.2 ((w64 (s1.2.1 - 1)).toNat) (v1.toNat : Int)) ((w64 (s1.2.1 - 2)).toNat) (v2.toNat : Int)) ((w64 (s1.2.1 - 3)).toNat) (v5.toNat : Int)) ((w64 (s1.2.1 - 4)).toNat) (v6.toNat : Int)) ((w64 ((w64 (s1.2.1 - 4)) - 1)).toNat) (v9.toNat : Int)) ((w64 ((w64 (s1.2.1 - 4)) - 2)).toNat) (v10.toNat : Int)) 0 (IntKind.u8.wrap (IntKind.u32.wrap (48 + (IntKind.u32.wrap (Int.tdiv (IntKind.u32.wrap (Int.tdiv (IntKind.u32.wrap s1.1) 10000)) 100))))))
      else
        some (List.set (List.set (List.set (List.set (List.set (List.set s1.2.2 ((w64 (s1.2.1 - 1)).toNat) (v1.toNat : Int)) ((w64 (s1.2.1 - 2)).toNat) (v2.toNat : Int)) ((w64 (s1.2.1 - 3)).toNat) (v5.toNat : Int)) ((w64 (s1.2.1 - 4)).toNat) (v6.toNat : Int)) ((w64 ((w64 (s1.2.1 - 4)) - 1)).toNat) (v9.toNat : Int)) ((w64 ((w64 (s1.2.1 - 4)) - 2)).toNat) (v10.toNat : Int))
    else
      if 0 < (w64 (s1.2.1 - 4)) then
        (idxM l0 (List.set (List.set (List.set (List.set s1.2.2 ((w64 (s1.2.1 - 1)).toNat) (v1.toNat : Int)) ((w64 (s1.2.1 - 2)).toNat) (v2.toNat : Int)) ((w64 (s1.2.1 - 3)).toNat) (v5.toNat : Int)) ((w64 (s1.2.1 - 4)).toNat) (v6.toNat : Int)) 0).bind fun v14 =>
        some (List.set (List.set (List.set (List.set (List.set s1.2.2 ((w64 (s1.2.1 - 1)).toNat) (v1.toNat : Int)) ((w64 (s1.2.1 - 2)).toNat) (v2.toNat : Int)) ((w64 (s1.2.1 - 3)).toNat) (v5.toNat : Int)) ((w64 (s1.2.1 - 4)).toNat) (v6.toNat : Int)) 0 (IntKind.u8.wrap (IntKind.u32.wrap (48 + (IntKind.u32.wrap (Int.tdiv (IntKind.u32.wrap s1.1) 10000))))))
      else
        some (List.set (List.set (List.set (List.set s1.2.2 ((w64 (s1.2.1 - 1)).toNat) (v1.toNat : Int)) ((w64 (s1.2.1 - 2)).toNat) (v2.toNat : Int)) ((w64 (s1.2.1 - 3)).toNat) (v5.toNat : Int)) ((w64 (s1.2.1 - 4)).toNat) (v6.toNat : Int))
  else
    if 2 ≤ s1.2.1 then
      (idx TAB (IntKind.u32.wrap ((IntKind.u32.wrap ((Int.tmod (IntKind.u32.wrap s1.1) 100) * 2)) + 1))).bind fun v15 =>
      (idx TAB (IntKind.u32.wrap ((Int.tmod (IntKind.u32.wrap s1.1) 100) * 2))).bind fun v16 =>
      (idxM l0 s1.2.2 (w64 (s1.2.1 - 1))).bind fun v17 =>
      (idxM l0 (List.set s1.2.2 ((w64 (s1.2.1 - 1)).toNat) (v15.toNat : Int)) (w64 (s1.2.1 - 2))).bind fun v18 =>
      if 0 < (w64 (s1.2.1 - 2)) then
        (idxM l0 (List.set (List.set s1.2.2 ((w64 (s1.2.1 - 1)).toNat) (v15.toNat : Int)) ((w64 (s1.2.1 - 2)).toNat) (v16.toNat : Int)) 0).bind fun v19 =>
        some (List.set (List.set (List.set s1.2.2 ((w64 (s1.2.1 - 1)).toNat) (v15.toNat : Int)) ((w64 (s1.2.1 - 2)).toNat) (v16.toNat : Int)) 0 (IntKind.u8.wrap (IntKind.u32.wrap (48 + (IntKind.u32.wrap (Int.tdiv (IntKind.u32.wrap s1.1) 100))))))
      else
        some (List.set (List.set s1.2.2 ((w64 (s1.2.1 - 1)).toNat) (v15.toNat : Int)) ((w64 (s1.2.1 - 2)).toNat) (v16.toNat : Int))
    else
      if 0 < s1.2.1 then
        (idxM l0 s1.2.2 0).bind fun v20 =>
        some (List.set s1.2.2 0 (IntKind.u8.wrap (IntKind.u32.wrap (48 + (IntKind.u32.wrap s1.1)))))
      else
        some s1.2.2
theorem fb_eq (n : Nat) (a0 : List Int) (l0 : Nat) (a1 : Int) : internal_strconv_formatBase10_mx n a0 l0 a1 = whileL n (a1, (l0 : Int), a0) (fbBody l0) (fbTail l0) := rfl
/-- the value of a row of digits -/
def vl : List Int → Int
  | [] => 0
  | c :: r => (c - 48) * 10 ^ r.length + vl r
structure DI (U : Int) (nd : Nat) (u : Int) (i : Nat) (a : List Int) : Prop where
  len : a.length = 24
  hn : nd ≤ 20
  hi : i ≤ nd
  u0 : 0 ≤ u
  ui : u < 10 ^ i
  val : U = u * 10 ^ (nd - i) + vl ((a.take nd).drop i)
  dig : ∀ c ∈ (a.take nd).drop i, 48 ≤ c ∧ c ≤ 57
theorem drop_set_self {l : List Int} {k : Nat} {c : Int} (h : k < l.length) : (l.set k c).drop k = c :: l.drop (k + 1) := by
  rw [List.drop_eq_getElem_cons (by rw [List.length_set]; exact h)]
  congr 1
  · simp
  · rw [List.drop_set_of_lt (by omega)]
theorem DI.step {U : Int} {nd : Nat} {u : Int} {k : Nat} {a : List Int} (h : DI U nd u (k + 1) a) : DI U nd (u / 10) k (a.set k (48 + u % 10)) := by
  have hk : k < nd := h.hi
  have hn := h.hn
  have hlen := h.len
  have hl : (a.take nd).length = nd := by rw [List.length_take]; omega
  have e : ((a.set k (48 + u % 10)).take nd).drop k = (48 + u % 10) :: (a.take nd).drop (k + 1) := by
    rw [List.take_set, drop_set_self (by rw [hl]; exact hk)]
  have hp : (10 : Int) ^ (k + 1) = 10 ^ k * 10 := Int.pow_succ 10 k
  have hu := h.ui
  rw [hp] at hu
  have h0 := h.u0
  refine ⟨by rw [List.length_set]; exact h.len, hn, by omega, by omega, by omega, ?_, ?_⟩
  · rw [e, vl, List.length_drop, hl]
    have h1 : (10 : Int) ^ (nd - k) = 10 ^ (nd - (k + 1)) * 10 := by rw [← Int.pow_succ]; congr 1; omega
    rw [h1, h.val]
    generalize (10 : Int) ^ (nd - (k + 1)) = p
    generalize vl _ = v
    have h2 : u = u / 10 * 10 + u % 10 := by omega
    have h3 : u * p = (u / 10 * 10 + u % 10) * p := by rw [← h2]
    rw [h3, Int.add_mul, Int.mul_assoc, Int.mul_comm 10 p, show (48 + u % 10 - 48) = u % 10 by omega, Int.add_assoc]
  · intro c hc
    rw [e] at hc
    rcases List.mem_cons.1 hc with rfl | hc
    · omega
    · exact h.dig c hc
theorem bindM {α β : Type} {l0 k : Nat} {a : List α} {R : Option β} (h : k < l0) (h2 : k < a.length) : ((idxM l0 a (k : Int)).bind fun _ => R) = R := by
  unfold idxM
  rw [if_pos ⟨by omega, by rw [Int.toNat_natCast]; exact h⟩, Int.toNat_natCast, List.getElem?_eq_getElem h2]; rfl
theorem wj (j c k : Nat) (h : j + c ≤ 24) (hk : k ≤ c) : w64 (((j + c : Nat) : Int) - (k : Int)) = ((j + (c - k) : Nat) : Int) := by
  rw [w64_eq (by omega) (by omega)]; omega
theorem block8 {U : Int} {nd : Nat} {u : Int} {j : Nat} {a : List Int} (h : DI U nd u (j + 8) a) (hu : u < 18446744073709551616) (k1 n1) :
    ∃ a', fbBody nd k1 (u, ((j + 8 : Nat) : Int), a) n1 = n1 (u / 10 / 10 / 10 / 10 / 10 / 10 / 10 / 10, ((j : Nat) : Int), a') ∧ DI U nd (u / 10 / 10 / 10 / 10 / 10 / 10 / 10 / 10) j a' := by
  have h0 := h.u0
  have hi := h.hi
  have hn := h.hn
  have hlen := h.len
  have e1 : IntKind.u32.wrap (Int.tmod u 100000000) = u % 100000000 := by rw [Int.tmod_eq_emod_of_nonneg h0, wrap_u32 (by omega) (by omega)]
  have e2 : Int.tmod (u % 100000000) 10000 = u % 10000 := by rw [Int.tmod_eq_emod_of_nonneg (by omega)]; omega
  have e3 : Int.tmod (u % 10000) 100 = u % 100 := by rw [Int.tmod_eq_emod_of_nonneg (by omega)]; omega
  have e4 : IntKind.u32.wrap (Int.tdiv (u % 10000) 100) = u / 100 % 100 := by rw [Int.tdiv_eq_ediv_of_nonneg (by omega), wrap_u32 (by omega) (by omega)]; omega
  have e5 : IntKind.u32.wrap (Int.tdiv (u % 100000000) 10000) = u / 10000 % 10000 := by rw [Int.tdiv_eq_ediv_of_nonneg (by omega), wrap_u32 (by omega) (by omega)]; omega
  have e6 : Int.tmod (u / 10000 % 10000) 100 = u / 10000 % 100 := by rw [Int.tmod_eq_emod_of_nonneg (by omega)]; omega
  have e7 : IntKind.u32.wrap (Int.tdiv (u / 10000 % 10000) 100) = u / 1000000 % 100 := by rw [Int.tdiv_eq_ediv_of_nonneg (by omega), wrap_u32 (by omega) (by omega)]; omega
  have e8 : IntKind.u64.wrap (Int.tdiv u 100000000) = u / 10 / 10 / 10 / 10 / 10 / 10 / 10 / 10 := by rw [Int.tdiv_eq_ediv_of_nonneg h0, wrap_u64 (by omega) (by omega)]; omega
  have w1 : w64 (((j + 8 : Nat) : Int) - 1) = ((j + 7 : Nat) : Int) := wj j 8 1 (by omega) (by omega)
  have w2 : w64 (((j + 8 : Nat) : Int) - 2) = ((j + 6 : Nat) : Int) := wj j 8 2 (by omega) (by omega)
  have w3 : w64 (((j + 8 : Nat) : Int) - 3) = ((j + 5 : Nat) : Int) := wj j 8 3 (by omega) (by omega)
  have w4 : w64 (((j + 8 : Nat) : Int) - 4) = ((j + 4 : Nat) : Int) := wj j 8 4 (by omega) (by omega)
  have w5 : w64 (((j + 8 : Nat) : Int) - 5) = ((j + 3 : Nat) : Int) := wj j 8 5 (by omega) (by omega)
  have w6 : w64 (((j + 8 : Nat) : Int) - 6) = ((j + 2 : Nat) : Int) := wj j 8 6 (by omega) (by omega)
  have w7 : w64 (((j + 8 : Nat) : Int) - 7) = ((j + 1 : Nat) : Int) := wj j 8 7 (by omega) (by omega)
  have w8 : w64 (((j + 8 : Nat) : Int) - 8) = ((j : Nat) : Int) := wj j 8 8 (by omega) (by omega)
  obtain ⟨c1, t1, f1⟩ := tab1 (x := u % 100) (by omega) (by omega)
  obtain ⟨c2, t2, f2⟩ := tab0 (x := u % 100) (by omega) (by omega)
  obtain ⟨c3, t3, f3⟩ := tab1 (x := u / 100 % 100) (by omega) (by omega)
  obtain ⟨c4, t4, f4⟩ := tab0 (x := u / 100 % 100) (by omega) (by omega)
  obtain ⟨c5, t5, f5⟩ := tab1 (x := u / 10000 % 100) (by omega) (by omega)
  obtain ⟨c6, t6, f6⟩ := tab0 (x := u / 10000 % 100) (by omega) (by omega)
  obtain ⟨c7, t7, f7⟩ := tab1 (x := u / 1000000 % 100) (by omega) (by omega)
  obtain ⟨c8, t8, f8⟩ := tab0 (x := u / 1000000 % 100) (by omega) (by omega)
  have g1 : (c1.toNat : Int) = 48 + u % 10 := by rw [f1]; omega
  have g2 : (c2.toNat : Int) = 48 + u / 10 % 10 := by rw [f2]; omega
  have g3 : (c3.toNat : Int) = 48 + u / 10 / 10 % 10 := by rw [f3]; omega
  have g4 : (c4.toNat : Int) = 48 + u / 10 / 10 / 10 % 10 := by rw [f4]; omega
  have g5 : (c5.toNat : Int) = 48 + u / 10 / 10 / 10 / 10 % 10 := by rw [f5]; omega
  have g6 : (c6.toNat : Int) = 48 + u / 10 / 10 / 10 / 10 / 10 % 10 := by rw [f6]; omega
  have g7 : (c7.toNat : Int) = 48 + u / 10 / 10 / 10 / 10 / 10 / 10 % 10 := by rw [f7]; omega
  have g8 : (c8.toNat : Int) = 48 + u / 10 / 10 / 10 / 10 / 10 / 10 / 10 % 10 := by rw [f8]; omega
  have hL := h.step.step.step.step.step.step.step.step
  refine ⟨_, ?_, hL⟩
  unfold fbBody
  dsimp only
  rw [if_pos (by omega)]
  simp only [e1, e2, e3, e4, e5, e6, e7, e8, w1, w2, w3, w4, w5, w6, w7, w8, Int.toNat_natCast]
  rw [t1, Option.bind_some, t2, Option.bind_some, bindM (by omega) (by omega), bindM (by omega) (by simp only [List.length_set]; omega)]
  rw [t3, Option.bind_some, t4, Option.bind_some, bindM (by omega) (by simp only [List.length_set]; omega), bindM (by omega) (by simp only [List.length_set]; omega)]
  rw [t5, Option.bind_some, t6, Option.bind_some, bindM (by omega) (by simp only [List.length_set]; omega), bindM (by omega) (by simp only [List.length_set]; omega)]
  rw [t7, Option.bind_some, t8, Option.bind_some, bindM (by omega) (by simp only [List.length_set]; omega), bindM (by omega) (by simp only [List.length_set]; omega)]
  rw [g1, g2, g3, g4, g5, g6, g7, g8]
theorem bindM0 {α β : Type} {l0 : Nat} {a : List α} {R : Option β} (h : 0 < l0) (h2 : 0 < a.length) : ((idxM l0 a 0).bind fun _ => R) = R := bindM (k := 0) h h2
theorem last_digit {x : Int} (h0 : 0 ≤ x) (h1 : x < 10) : IntKind.u8.wrap (IntKind.u32.wrap (48 + x)) = 48 + x % 10 := by
  rw [wrap_u32 (by omega) (by omega), wrap_u8 (by omega) (by omega)]; omega
theorem tail_eq {U : Int} {nd : Nat} {u : Int} {i : Nat} {a : List Int} (h : DI U nd u i a) (hi8 : i < 8) : ∃ a' u', fbTail nd (u, (i : Int), a) = some a' ∧ DI U nd u' 0 a' := by
  have h0 := h.u0
  have hi := h.hi
  have hn := h.hn
  have hlen := h.len
  have hui := h.ui
  have hu7 : u < 10000000 := by
    have : ∀ k : Fin 8, (10 : Int) ^ k.val ≤ 10000000 := by decide
    have := this ⟨i, hi8⟩
    simp only at this
    omega
  have e0 : IntKind.u32.wrap u = u := wrap_u32 (by omega) (by omega)
  have e2 : Int.tmod u 10000 = u % 10000 := by rw [Int.tmod_eq_emod_of_nonneg h0]
  have e3 : Int.tmod (u % 10000) 100 = u % 100 := by rw [Int.tmod_eq_emod_of_nonneg (by omega)]; omega
  have e4 : IntKind.u32.wrap (Int.tdiv (u % 10000) 100) = u / 100 % 100 := by rw [Int.tdiv_eq_ediv_of_nonneg (by omega), wrap_u32 (by omega) (by omega)]; omega
  have e5 : IntKind.u32.wrap (Int.tdiv u 10000) = u / 10000 := by rw [Int.tdiv_eq_ediv_of_nonneg h0, wrap_u32 (by omega) (by omega)]
  have e6 : Int.tmod (u / 10000) 100 = u / 10000 % 100 := by rw [Int.tmod_eq_emod_of_nonneg (by omega)]
  have e7 : IntKind.u32.wrap (Int.tdiv (u / 10000) 100) = u / 10 / 10 / 10 / 10 / 10 / 10 := by rw [Int.tdiv_eq_ediv_of_nonneg (by omega), wrap_u32 (by omega) (by omega)]; omega
  have e8 : Int.tmod u 100 = u % 100 := by rw [Int.tmod_eq_emod_of_nonneg h0]
  have e9 : IntKind.u32.wrap (Int.tdiv u 100) = u / 10 / 10 := by rw [Int.tdiv_eq_ediv_of_nonneg h0, wrap_u32 (by omega) (by omega)]; omega
  have e10 : u / 10000 = u / 10 / 10 / 10 / 10 := by omega
  obtain ⟨c1, t1, f1⟩ := tab1 (x := u % 100) (by omega) (by omega)
  obtain ⟨c2, t2, f2⟩ := tab0 (x := u % 100) (by omega) (by omega)
  obtain ⟨c3, t3, f3⟩ := tab1 (x := u / 100 % 100) (by omega) (by omega)
  obtain ⟨c4, t4, f4⟩ := tab0 (x := u / 100 % 100) (by omega) (by omega)
  obtain ⟨c5, t5, f5⟩ := tab1 (x := u / 10000 % 100) (by omega) (by omega)
  obtain ⟨c6, t6, f6⟩ := tab0 (x := u / 10000 % 100) (by omega) (by omega)
  have g1 : (c1.toNat : Int) = 48 + u % 10 := by rw [f1]; omega
  have g2 : (c2.toNat : Int) = 48 + u / 10 % 10 := by rw [f2]; omega
  have g3 : (c3.toNat : Int) = 48 + u / 10 / 10 % 10 := by rw [f3]; omega
  have g4 : (c4.toNat : Int) = 48 + u / 10 / 10 / 10 % 10 := by rw [f4]; omega
  have g5 : (c5.toNat : Int) = 48 + u / 10 / 10 / 10 / 10 % 10 := by rw [f5]; omega
  have g6 : (c6.toNat : Int) = 48 + u / 10 / 10 / 10 / 10 / 10 % 10 := by rw [f6]; omega
  unfold fbTail
  dsimp only
  by_cases c4' : 4 ≤ i
  · obtain ⟨j, rfl⟩ : ∃ j, i = j + 4 := ⟨i - 4, by omega⟩
    have w1 : w64 (((j + 4 : Nat) : Int) - 1) = ((j + 3 : Nat) : Int) := wj j 4 1 (by omega) (by omega)
    have w2 : w64 (((j + 4 : Nat) : Int) - 2) = ((j + 2 : Nat) : Int) := wj j 4 2 (by omega) (by omega)
    have w3 : w64 (((j + 4 : Nat) : Int) - 3) = ((j + 1 : Nat) : Int) := wj j 4 3 (by omega) (by omega)
    have w4 : w64 (((j + 4 : Nat) : Int) - 4) = ((j : Nat) : Int) := wj j 4 4 (by omega) (by omega)
    have hL := h.step.step.step.step
    rw [if_pos (by omega)]
    simp only [e0, e2, e3, e4, e5, e6, e7, w1, w2, w3, w4, Int.toNat_natCast]
    rw [t1, Option.bind_some, t2, Option.bind_some, bindM (by omega) (by omega), bindM (by omega) (by simp only [List.length_set]; omega)]
    rw [t3, Option.bind_some, t4, Option.bind_some, bindM (by omega) (by simp only [List.length_set]; omega), bindM (by omega) (by simp only [List.length_set]; omega)]
    rw [g1, g2, g3, g4]
    by_cases c2' : 2 ≤ j
    · obtain ⟨m, rfl⟩ : ∃ m, j = m + 2 := ⟨j - 2, by omega⟩
      have w5 : w64 (((m + 2 : Nat) : Int) - 1) = ((m + 1 : Nat) : Int) := wj m 2 1 (by omega) (by omega)
      have w6 : w64 (((m + 2 : Nat) : Int) - 2) = ((m : Nat) : Int) := wj m 2 2 (by omega) (by omega)
      have hL2 := hL.step.step
      rw [if_pos (by omega)]
      simp only [w5, w6, Int.toNat_natCast]
      rw [t5, Option.bind_some, t6, Option.bind_some, bindM (by omega) (by simp only [List.length_set]; omega), bindM (by omega) (by simp only [List.length_set]; omega), g5, g6]
      by_cases c1' : 0 < m
      · obtain rfl : m = 1 := by omega
        rw [if_pos (by omega), bindM0 (by omega) (by simp only [List.length_set]; omega)]
        have hu1 := hL2.ui
        rw [last_digit (by omega) (by rw [Int.pow_succ, Int.pow_zero] at hu1; omega)]
        exact ⟨_, _, rfl, hL2.step⟩
      · obtain rfl : m = 0 := by omega
        rw [if_neg (by omega)]
        exact ⟨_, _, rfl, hL2⟩
    · rw [if_neg (by omega)]
      by_cases c1' : 0 < j
      · obtain rfl : j = 1 := by omega
        rw [if_pos (by omega), bindM0 (by omega) (by simp only [List.length_set]; omega)]
        have hu1 := hL.ui
        rw [e10, last_digit (by omega) (by rw [Int.pow_succ, Int.pow_zero] at hu1; omega)]
        exact ⟨_, _, rfl, hL.step⟩
      · obtain rfl : j = 0 := by omega
        rw [if_neg (by omega)]
        exact ⟨_, _, rfl, hL⟩
  · rw [if_neg (by omega)]
    by_cases c2' : 2 ≤ i
    · obtain ⟨m, rfl⟩ : ∃ m, i = m + 2 := ⟨i - 2, by omega⟩
      have w5 : w64 (((m + 2 : Nat) : Int) - 1) = ((m + 1 : Nat) : Int) := wj m 2 1 (by omega) (by omega)
      have w6 : w64 (((m + 2 : Nat) : Int) - 2) = ((m : Nat) : Int) := wj m 2 2 (by omega) (by omega)
      have hL := h.step.step
      rw [if_pos (by omega)]
      simp only [e0, e8, e9, w5, w6, Int.toNat_natCast]
      rw [t1, Option.bind_some, t2, Option.bind_some, bindM (by omega) (by omega), bindM (by omega) (by simp only [List.length_set]; omega), g1, g2]
      by_cases c1' : 0 < m
      · obtain rfl : m = 1 := by omega
        rw [if_pos (by omega), bindM0 (by omega) (by simp only [List.length_set]; omega)]
        have hu1 := hL.ui
        rw [last_digit (by omega) (by rw [Int.pow_succ, Int.pow_zero] at hu1; omega)]
        exact ⟨_, _, rfl, hL.step⟩
      · obtain rfl : m = 0 := by omega
        rw [if_neg (by omega)]
        exact ⟨_, _, rfl, hL⟩
    · rw [if_neg (by omega)]
      by_cases c1' : 0 < i
      · obtain rfl : i = 1 := by omega
        rw [if_pos (by omega), bindM0 (by omega) (by omega), e0]
        rw [last_digit (by omega) (by rw [Int.pow_succ, Int.pow_zero] at hui; omega)]
        exact ⟨_, _, rfl, h.step⟩
      · obtain rfl : i = 0 := by omega
        rw [if_neg (by omega)]
        exact ⟨_, _, rfl, h⟩
theorem fb_loop {U : Int} {nd : Nat} : ∀ (n : Nat) (u : Int) (i : Nat) (a : List Int), DI U nd u i a → u < 18446744073709551616 → i < 8 * n → ∃ a' u', whileC (fbBody nd (fbTail nd)) n (u, (i : Int), a) = some a' ∧ DI U nd u' 0 a'
  | 0, u, i, a, h, hu, hi => by omega
  | n + 1, u, i, a, h, hu, hi => by
    have hn := h.hn
    have hin := h.hi
    have h0 := h.u0
    rw [whileC]
    by_cases c : 8 ≤ i
    · obtain ⟨j, rfl⟩ : ∃ j, i = j + 8 := ⟨i - 8, by omega⟩
      obtain ⟨a', e, h'⟩ := block8 h hu (fbTail nd) (whileC (fbBody nd (fbTail nd)) n)
      rw [e]
      exact fb_loop n _ j a' h' (by omega) (by omega)
    · obtain ⟨a', u', e, h'⟩ := tail_eq h (by omega)
      refine ⟨a', u', ?_, h'⟩
      rw [← e]
      unfold fbBody
      dsimp only
      rw [if_neg (by omega)]
theorem format_eq {n : Nat} {u : Int} {nd : Nat} (h0 : 0 ≤ u) (h1 : u < 18446744073709551616) (hnd : nd ≤ 20) (hu : u < 10 ^ nd) (hn : 4 ≤ n) : ∃ a', internal_strconv_formatBase10_mx n (List.replicate 24 0) nd u = some a' ∧ a'.length = 24 ∧ vl (a'.take nd) = u ∧ ∀ c ∈ a'.take nd, 48 ≤ c ∧ c ≤ 57 := by
  have hd : (List.take nd (List.replicate 24 (0 : Int))).drop nd = [] := by
    apply List.drop_eq_nil_of_le; rw [List.length_take]; omega
  obtain ⟨a', u', e, h⟩ := fb_loop (U := u) n u nd (List.replicate 24 0) ⟨by simp, hnd, Nat.le_refl _, h0, hu, by rw [hd, Nat.sub_self, vl, Int.pow_zero]; omega, by rw [hd]; intro c hc; cases hc⟩ h1 (by omega)
  refine ⟨a', by rw [fb_eq]; exact e, h.len, ?_, ?_⟩
  · have hv := h.val
    have hu := h.ui
    have h0 := h.u0
    rw [Int.pow_zero] at hu
    obtain rfl : u' = 0 := by omega
    rw [List.drop_zero] at hv
    rw [hv, Int.zero_mul, Int.zero_add]
  · have := h.dig
    rw [List.drop_zero] at this
    exact this
end Go.AM.S03

namespace Go.AM.S03
open Go Go.Proofs Go.AM
set_option linter.unusedVariables false
set_option maxRecDepth 100000
set_option maxHeartbeats 4000000
/-- so many digits of a number -/
def digs : Nat → Int → List Int
  | 0, _ => []
  | k + 1, u => digs k (u / 10) ++ [48 + u % 10]
theorem digs_len : ∀ k u, (digs k u).length = k
  | 0, _ => rfl
  | k + 1, u => by rw [digs, List.length_append, digs_len k]; rfl
theorem digs_dig : ∀ k u, ∀ c ∈ digs k u, 48 ≤ c ∧ c ≤ 57
  | 0, _, c, h => by cases h
  | k + 1, u, c, h => by
    rw [digs] at h
    rcases List.mem_append.1 h with h | h
    · exact digs_dig k _ c h
    · simp only [List.mem_singleton] at h; omega
theorem vl_snoc (c : Int) : ∀ l : List Int, vl (l ++ [c]) = vl l * 10 + (c - 48)
  | [] => by
    show (c - 48) * 10 ^ (0 : Nat) + 0 = 0 * 10 + (c - 48)
    rw [Int.pow_zero]; omega
  | d :: l => by
    rw [List.cons_append, vl, vl, vl_snoc c l, List.length_append]
    simp only [List.length_cons, List.length_nil, Nat.zero_add]
    rw [Int.pow_succ, Int.add_mul, Int.mul_assoc, Int.add_assoc]
theorem vl_digs : ∀ k u, 0 ≤ u → u < 10 ^ k → vl (digs k u) = u
  | 0, u, h0, h => by rw [Int.pow_zero] at h; show (0 : Int) = u; omega
  | k + 1, u, h0, h => by
    rw [Int.pow_succ] at h
    rw [digs, vl_snoc, vl_digs k (u / 10) (by omega) (by omega)]
    omega
theorem snoc_of {l : List Int} {k : Nat} (h : l.length = k + 1) : ∃ p c, l = p ++ [c] ∧ p.length = k := by
  have hne : l ≠ [] := by intro e; rw [e] at h; cases h
  refine ⟨l.dropLast, l.getLast hne, (List.dropLast_concat_getLast hne).symm, by rw [List.length_dropLast]; omega⟩
theorem digs_of : ∀ (k : Nat) (l : List Int), l.length = k → (∀ c ∈ l, 48 ≤ c ∧ c ≤ 57) → l = digs k (vl l)
  | 0, l, h, _ => by rw [List.length_eq_zero_iff.1 h]; rfl
  | k + 1, l, h, hd => by
    obtain ⟨p, c, rfl, hp⟩ := snoc_of h
    have hc := hd c (by simp)
    have ih := digs_of k p hp (fun d hd' => hd d (by simp [hd']))
    rw [digs, vl_snoc]
    have e1 : (vl p * 10 + (c - 48)) / 10 = vl p := by omega
    have e2 : (vl p * 10 + (c - 48)) % 10 = c - 48 := by omega
    rw [e1, e2, ← ih]
    congr 2
    omega
/-- the number of digits -/
def nD (u : Int) : Nat := if u < 10 then 1 else if u < 100 then 2 else ((internal_strconv_numDigits u).getD 0).toNat
def dU (u : Int) : List Int := digs (nD u) u
theorem small_all : ∀ i : Fin 100, ((internal_strconv_small ((i.val : Nat) : Int)).map fun s => decide (ofStr s = digs (if i.val < 10 then 1 else 2) ((i.val : Nat) : Int))) = some true := by decide +kernel
theorem small_eq {u : Int} (h0 : 0 ≤ u) (h1 : u < 100) : ∃ s, internal_strconv_small u = some s ∧ ofStr s = dU u := by
  obtain ⟨n, rfl⟩ : ∃ n : Nat, u = n := ⟨u.toNat, by omega⟩
  have h := small_all ⟨n, by omega⟩
  simp only at h
  cases hs : internal_strconv_small (n : Int) with
  | none => rw [hs] at h; cases h
  | some s =>
    rw [hs, Option.map_some] at h
    injection h with h
    refine ⟨s, rfl, ?_⟩
    rw [of_decide_eq_true h]
    unfold dU nD
    by_cases c : n < 10
    · rw [if_pos c, if_pos (by omega)]
    · rw [if_neg c, if_neg (by omega), if_pos (by omega)]
theorem nD_le {u : Int} (h0 : 0 ≤ u) (h1 : u < 18446744073709551616) : 1 ≤ nD u ∧ nD u ≤ 20 ∧ u < 10 ^ nD u := by
  unfold nD
  split
  · exact ⟨by omega, by omega, by rw [Int.pow_succ, Int.pow_zero]; omega⟩
  · split
    · exact ⟨by omega, by omega, by rw [Int.pow_succ, Int.pow_succ, Int.pow_zero]; omega⟩
    · obtain ⟨d, e, h2, h3⟩ := numDigits_eq h0 h1
      rw [e, Option.getD_some, Int.toNat_natCast]
      refine ⟨?_, h2, h3⟩
      rcases Nat.eq_zero_or_pos d with rfl | hd
      · rw [Int.pow_zero] at h3; omega
      · exact hd
theorem dU_val {u : Int} (h0 : 0 ≤ u) (h1 : u < 18446744073709551616) : vl (dU u) = u := vl_digs _ _ h0 (nD_le h0 h1).2.2
theorem dU_len {u : Int} (h0 : 0 ≤ u) (h1 : u < 18446744073709551616) : 1 ≤ (dU u).length ∧ (dU u).length ≤ 20 := by
  unfold dU; rw [digs_len]; exact ⟨(nD_le h0 h1).1, (nD_le h0 h1).2.1⟩
theorem AppendUint_eq {n : Nat} {u : Int} {a : List Int} (h0 : 0 ≤ u) (h1 : u < 18446744073709551616) (hn : 4 ≤ n) (ha : a.length ≤ 1000000000) : internal_strconv_AppendUint n a u 10 = some (a ++ dU u) := by
  have hl := dU_len h0 h1
  unfold internal_strconv_AppendUint
  rw [if_pos rfl]
  by_cases c : u < 100
  · rw [if_pos c, wrap_id (by omega) (by omega)]
    obtain ⟨s, e, hs⟩ := small_eq h0 c
    rw [e, Option.bind_some, hs, app_ok (by omega)]; rfl
  · rw [if_neg c]
    obtain ⟨d, e, h2, h3⟩ := numDigits_eq h0 h1
    have hd : nD u = d := by
      unfold nD
      rw [if_neg (by omega), if_neg c, e, Option.getD_some, Int.toNat_natCast]
    obtain ⟨a', ef, hl', hv, hdg⟩ := format_eq h0 h1 h2 h3 hn
    have hc1 : cutE 24 (List.replicate 24 (0 : Int)) (d : Int) = some d := by
      unfold cutE; rw [if_pos ⟨by simp, by omega, by omega⟩, Int.toNat_natCast]
    have hc2 : cutE 24 a' (d : Int) = some d := by
      unfold cutE; rw [if_pos ⟨by omega, by omega, by omega⟩, Int.toNat_natCast]
    have hall : allM 0 d a' = some (a'.take d) := by
      unfold allM; rw [if_pos (by omega), List.drop_zero]
    have hta : a'.take d = dU u := by
      have := digs_of d (a'.take d) (by rw [List.length_take]; omega) hdg
      rw [hv] at this
      rw [this]; unfold dU; rw [hd]
    show (zrow 24 (0 : Int)).bind _ = _
    unfold zrow
    rw [Option.bind_some, e, Option.bind_some, hc1, Option.bind_some, ef, Option.bind_some, hc2, Option.bind_some, hall, Option.bind_some, hta, app_ok (by omega)]; rfl
/-- the digits of a number with its sign -/
def dI (x : Int) : List Int := if x < 0 then 45 :: dU (-x) else dU x
/-- it is an int -/
def I64 (x : Int) : Prop := -9223372036854775808 ≤ x ∧ x ≤ 9223372036854775807
theorem wrap_u64_neg {n : Int} (h1 : -9223372036854775808 ≤ n) (h2 : n < 0) : IntKind.u64.wrap (0 - IntKind.u64.wrap n) = -n := by
  have e : ∀ m : Int, IntKind.u64.wrap m = m % 18446744073709551616 := fun _ => rfl
  rw [e, e]; omega
theorem AppendInt_eq {n : Nat} {x : Int} {a : List Int} (hx : I64 x) (hn : 4 ≤ n) (ha : a.length ≤ 1000000) : strconv_AppendInt n a x 10 = some (a ++ dI x) := by
  unfold strconv_AppendInt internal_strconv_AppendInt dI
  obtain ⟨x1, x2⟩ := hx
  by_cases c : x < 0
  · rw [if_pos c, if_pos c, app_ok (by simp only [List.length_cons, List.length_nil]; omega), Option.bind_some, wrap_u64_neg x1 c, AppendUint_eq (by omega) (by omega) hn (by simp only [List.length_append, List.length_cons, List.length_nil]; omega), Option.bind_some, Option.bind_some, List.append_assoc]; rfl
  · rw [if_neg c, if_neg c, wrap_u64 (by omega) (by omega), AppendUint_eq (by omega) (by omega) hn (by omega), Option.bind_some, Option.bind_some]
theorem dI_len {x : Int} (hx : I64 x) : 1 ≤ (dI x).length ∧ (dI x).length ≤ 21 := by
  obtain ⟨x1, x2⟩ := hx
  unfold dI
  split
  · have := dU_len (u := -x) (by omega) (by omega)
    rw [List.length_cons]; omega
  · have := dU_len (u := x) (by omega) (by omega)
    omega
theorem dI_dig {x : Int} : ∀ c ∈ dI x, 45 ≤ c ∧ c ≤ 57 := by
  intro c hc
  unfold dI at hc
  split at hc
  · rcases List.mem_cons.1 hc with rfl | hc
    · omega
    · have := digs_dig _ _ c hc; omega
  · have := digs_dig _ _ c hc; omega
theorem dU_head {u : Int} (h0 : 0 ≤ u) (h1 : u < 18446744073709551616) (t : List Int) : dU u ≠ 45 :: t := by
  intro e
  have := digs_dig (nD u) u 45 (by show 45 ∈ dU u; rw [e]; simp)
  omega
theorem dI_inj {x y : Int} (hx : I64 x) (hy : I64 y) (h : dI x = dI y) : x = y := by
  obtain ⟨x1, x2⟩ := hx
  obtain ⟨y1, y2⟩ := hy
  unfold dI at h
  split at h
  · split at h
    · injection h with _ h
      have e1 := dU_val (u := -x) (by omega) (by omega)
      have e2 := dU_val (u := -y) (by omega) (by omega)
      rw [h, e2] at e1
      omega
    · exact absurd h.symm (dU_head (by omega) (by omega) _)
  · split at h
    · exact absurd h (dU_head (by omega) (by omega) _)
    · have e1 := dU_val (u := x) (by omega) (by omega)
      have e2 := dU_val (u := y) (by omega) (by omega)
      rw [h, e2] at e1
      omega
/-- the text of a list of numbers, each after a comma -/
def cs : List Int → List Int
  | [] => []
  | x :: l => 44 :: (dI x ++ cs l)
theorem cs_len : ∀ l : List Int, (∀ x ∈ l, I64 x) → (cs l).length ≤ 22 * l.length
  | [], _ => by simp [cs]
  | x :: l, h => by
    have := dI_len (h x (by simp))
    have ih := cs_len l (fun y hy => h y (List.mem_cons_of_mem _ hy))
    rw [cs, List.length_cons, List.length_append, List.length_cons]
    omega
theorem key_loop {n : Nat} (hn : 4 ≤ n) {R : Type} : ∀ (l : List Int) (i : Nat) (s : List Int) (k : List Int → Option R), (∀ x ∈ l, I64 x) → s.length + 22 * l.length ≤ 900000 →
    rangeC (fun i1 x1 (s1 : (List Int)) n1 =>
      (app 1 s1 [44]).bind fun v2 =>
      (strconv_AppendInt n v2 x1 10).bind fun v3 =>
      n1 v3) l i s k = k (s ++ cs l)
  | [], i, s, k, _, _ => by rw [rangeC, cs, List.append_nil]
  | x :: l, i, s, k, h, hs => by
    rw [List.length_cons] at hs
    have := dI_len (h x (by simp))
    rw [rangeC, app_ok (by simp only [List.length_cons, List.length_nil]; omega), Option.bind_some, AppendInt_eq (h x (by simp)) hn (by simp only [List.length_append, List.length_cons, List.length_nil]; omega), Option.bind_some]
    show rangeC _ l (i + 1) _ k = _
    rw [key_loop hn l (i + 1) _ k (fun y hy => h y (List.mem_cons_of_mem _ hy)) (by simp only [List.length_append, List.length_cons, List.length_nil]; omega), cs]
    congr 1
    simp [List.append_assoc]
/-- the key of a symbol and a list of states -/
def kS (sym : Int) (l : List Int) : List Int := dI sym ++ cs l
theorem key_eq {n : Nat} {sym : Int} {l : List Int} (hn : 4 ≤ n) (hs : I64 sym) (hl : ∀ x ∈ l, I64 x) (hlen : l.length ≤ 10000) : auto_key n sym l = some (strB (kS sym l)) := by
  have := dI_len hs
  unfold auto_key
  rw [AppendInt_eq hs hn (by simp), Option.bind_some, List.nil_append, rangeL, if_pos (by omega), key_loop hn l 0 _ _ hl (by omega)]
  rfl
/-- where the first comma is -/
theorem split_comma : ∀ (p q : List Int) (r s : List Int), (∀ c ∈ p, 45 ≤ c) → (∀ c ∈ q, 45 ≤ c) → (r = [] ∨ ∃ t, r = 44 :: t) → (s = [] ∨ ∃ t, s = 44 :: t) → p ++ r = q ++ s → p = q ∧ r = s
  | [], [], r, s, _, _, _, _, h => ⟨rfl, h⟩
  | [], c :: q, r, s, _, hq, hr, _, h => by
    have := hq c (by simp)
    rcases hr with rfl | ⟨t, rfl⟩
    · cases h
    · rw [List.nil_append, List.cons_append] at h
      injection h with h _; omega
  | c :: p, [], r, s, hp, _, _, hs, h => by
    have := hp c (by simp)
    rcases hs with rfl | ⟨t, rfl⟩
    · cases h
    · rw [List.nil_append, List.cons_append] at h
      injection h with h _; omega
  | c :: p, d :: q, r, s, hp, hq, hr, hs, h => by
    rw [List.cons_append, List.cons_append] at h
    injection h with h1 h2
    have := split_comma p q r s (fun c hc => hp c (List.mem_cons_of_mem _ hc)) (fun c hc => hq c (List.mem_cons_of_mem _ hc)) hr hs h2
    exact ⟨by rw [h1, this.1], this.2⟩
theorem cs_or : ∀ l : List Int, cs l = [] ∨ ∃ t, cs l = 44 :: t
  | [] => .inl rfl
  | x :: l => .inr ⟨_, rfl⟩
theorem cs_inj : ∀ (l m : List Int), (∀ x ∈ l, I64 x) → (∀ x ∈ m, I64 x) → cs l = cs m → l = m
  | [], [], _, _, _ => rfl
  | [], _ :: _, _, _, h => by cases h
  | _ :: _, [], _, _, h => by cases h
  | x :: l, y :: m, hl, hm, h => by
    rw [cs, cs] at h
    injection h with _ h
    obtain ⟨h1, h2⟩ := split_comma _ _ _ _ (fun c hc => (dI_dig c hc).1) (fun c hc => (dI_dig c hc).1) (cs_or l) (cs_or m) h
    rw [dI_inj (hl x (by simp)) (hm y (by simp)) h1, cs_inj l m (fun x hx => hl x (List.mem_cons_of_mem _ hx)) (fun x hx => hm x (List.mem_cons_of_mem _ hx)) h2]
theorem kS_inj {s t : Int} {l m : List Int} (hs : I64 s) (ht : I64 t) (hl : ∀ x ∈ l, I64 x) (hm : ∀ x ∈ m, I64 x) (h : kS s l = kS t m) : s = t ∧ l = m := by
  obtain ⟨h1, h2⟩ := split_comma _ _ _ _ (fun c hc => (dI_dig c hc).1) (fun c hc => (dI_dig c hc).1) (cs_or l) (cs_or m) h
  exact ⟨dI_inj hs ht h1, cs_inj l m hl hm h2⟩
theorem cs_byte : ∀ (l : List Int), ∀ c ∈ cs l, 44 ≤ c ∧ c ≤ 57
  | [], c, h => by cases h
  | x :: l, c, h => by
    rw [cs] at h
    rcases List.mem_cons.1 h with rfl | h
    · omega
    · rcases List.mem_append.1 h with h | h
      · have := dI_dig c h; omega
      · exact cs_byte l c h
theorem kS_byte {s : Int} {l : List Int} : ∀ c ∈ kS s l, 44 ≤ c ∧ c ≤ 57 := by
  intro c h
  rcases List.mem_append.1 h with h | h
  · have := dI_dig c h; omega
  · exact cs_byte l c h
theorem strB_inj : ∀ (l m : List Int), (∀ c ∈ l, 44 ≤ c ∧ c ≤ 57) → (∀ c ∈ m, 44 ≤ c ∧ c ≤ 57) → strB l = strB m → l = m
  | [], [], _, _, _ => rfl
  | [], _ :: _, _, _, h => by cases h
  | _ :: _, [], _, _, h => by cases h
  | x :: l, y :: m, hl, hm, h => by
    have h1 := hl x (by simp)
    have h2 := hm y (by simp)
    unfold strB at h
    rw [List.map_cons, List.map_cons] at h
    injection h with h3 h4
    have ih := strB_inj l m (fun c hc => hl c (List.mem_cons_of_mem _ hc)) (fun c hc => hm c (List.mem_cons_of_mem _ hc)) h4
    have h5 := congrArg UInt8.toNat h3
    rw [UInt8.toNat_ofNat', UInt8.toNat_ofNat'] at h5
    rw [ih, show x = y by omega]
theorem key_inj {s t : Int} {l m : List Int} (hs : I64 s) (ht : I64 t) (hl : ∀ x ∈ l, I64 x) (hm : ∀ x ∈ m, I64 x) (h : strB (kS s l) = strB (kS t m)) : s = t ∧ l = m :=
  kS_inj hs ht hl hm (strB_inj _ _ kS_byte kS_byte h)
end Go.AM.S03

namespace Go.AM.S03
open Go Go.Proofs Go.AM
set_option linter.unusedVariables false
set_option maxRecDepth 100000
set_option maxHeartbeats 4000000
theorem td_mem : ∀ {l : List Tree} {x : Tree}, x ∈ l → tdT x + 1 ≤ tdL l
  | [], _, h => by cases h
  | y :: l, x, h => by
    rw [tdL]
    rcases List.mem_cons.1 h with rfl | h
    · omega
    · have := td_mem h; omega
theorem ts_mem : ∀ {l : List Tree} {x : Tree}, x ∈ l → tsT x ≤ tsL l
  | [], _, h => by cases h
  | y :: l, x, h => by
    rw [tsL]
    rcases List.mem_cons.1 h with rfl | h
    · omega
    · have := ts_mem h; omega
theorem foldC {α S R : Type} {body : Nat → α → S → (S → Option R) → Option R} {step : S → α → S} (I : S → Prop) : ∀ (l : List α) (i : Nat) (s : S) (k : S → Option R), I s → (∀ j x s n1, x ∈ l → I s → body j x s n1 = n1 (step s x)) → (∀ x s, x ∈ l → I s → I (step s x)) →
    rangeC body l i s k = k (l.foldl step s) ∧ I (l.foldl step s)
  | [], i, s, k, h, _, _ => ⟨by rw [rangeC]; rfl, h⟩
  | x :: l, i, s, k, h, hb, hi => by
    have ih := foldC I l (i + 1) (step s x) k (hi x s (by simp) h) (fun j y s n1 hy => hb j y s n1 (List.mem_cons_of_mem _ hy)) (fun y s hy => hi y s (List.mem_cons_of_mem _ hy))
    exact ⟨by rw [rangeC, hb i x s _ (by simp) h, List.foldl_cons]; exact ih.1, ih.2⟩
theorem idx_get {m : Nat} {α : Type} {row : List α} {z : α} {x : Int} (hr : row.length = m) (h0 : 0 ≤ x) (h1 : x < (m : Int)) : idx row x = some ((row[x.toNat]?).getD z) := by
  unfold idx
  rw [if_pos h0, List.getElem?_eq_getElem (by omega)]; rfl
theorem allI_get {α : Type} {ok : Nat → α → Bool} : ∀ (l : List α) (i : Nat), allI ok i l = true → ∀ x ∈ l, ∃ j, ok j x = true
  | [], _, _, x, h => by cases h
  | y :: l, i, ha, x, h => by
    rw [allI, Bool.and_eq_true] at ha
    rcases List.mem_cons.1 h with rfl | h
    · exact ⟨i, ha.1⟩
    · exact allI_get l (i + 1) ha.2 x h
theorem stOk_iff {m s : Int} (h : stOk m s = true) : 0 ≤ s ∧ s < m := of_decide_eq_true h
/-- a valid automaton of the statements' size -/
structure OKa (r : List Int) (a : Automaton) : Prop where
  rk : r.length ≤ 12
  st : 0 ≤ a.States ∧ a.States ≤ 300
  rul : a.Rules.length ≤ 60
  fin : a.Final.length ≤ 60
  frm : ∀ x ∈ a.Rules, x.From.length ≤ 10
  sym : ∀ x ∈ a.Rules, 0 ≤ x.Sym ∧ x.Sym < r.length ∧ (x.From.length : Int) = S03.rk r x.Sym
  to : ∀ x ∈ a.Rules, 0 ≤ x.To ∧ x.To < a.States
  from' : ∀ x ∈ a.Rules, ∀ s ∈ x.From, 0 ≤ s ∧ s < a.States
  fins : ∀ s ∈ a.Final, 0 ≤ s ∧ s < a.States
theorem ok_of {r : List Int} {a : Automaton} {t : Tree} (hv : aV r a = true) (hf : fewB r a t = true) : OKa r a := by
  unfold aV at hv
  unfold fewB at hf
  simp only [Bool.and_eq_true, decide_eq_true_eq, List.all_eq_true, Bool.or_eq_true] at hv hf
  obtain ⟨v1, ⟨v2, v3, v4⟩, v5, v6⟩ := hv
  obtain ⟨f1, f2, f3, f4, f5⟩ := hf
  have hr : ∀ x ∈ a.Rules, rOk r a.States x = true := v6
  unfold vA at v1
  simp only [Bool.and_eq_true, decide_eq_true_eq] at v1
  refine ⟨v1.1, ⟨v2, v3⟩, f3, f2, f4, fun x hx => ?_, fun x hx => ?_, fun x hx s hs => ?_, fun s hs => ?_⟩
  · have := hr x hx
    unfold rOk at this
    simp only [Bool.and_eq_true, decide_eq_true_eq] at this
    exact this.1
  · have := hr x hx
    unfold rOk at this
    simp only [Bool.and_eq_true] at this
    exact stOk_iff this.2.1
  · have := hr x hx
    unfold rOk at this
    simp only [Bool.and_eq_true, List.all_eq_true] at this
    exact stOk_iff (this.2.2 s hs)
  · obtain ⟨j, hj⟩ := allI_get _ _ v5 s hs
    unfold fOk at hj
    rw [Bool.and_eq_true] at hj
    exact stOk_iff hj.1

/-- the states of the roots of some trees in a list -/
def hdL : List Tree → List Int → List Int
  | [], _ => []
  | k :: ks, l => l.headD 0 :: hdL ks (l.drop (tsT k))
mutual
/-- whether a list is a run, given by the rules R -/
def okT (R : Int → List Int → Int → Bool) : Tree → List Int → Bool
  | .mk s ks, l => okL R ks l.tail && R s (hdL ks l.tail) (l.headD 0)
def okL (R : Int → List Int → Int → Bool) : List Tree → List Int → Bool
  | [], _ => true
  | k :: ks, l => okT R k l && okL R ks (l.drop (tsT k))
end
theorem okT_eq (R : Int → List Int → Int → Bool) (t : Tree) (l : List Int) : okT R t l = (okL R t.Kids l.tail && R t.Sym (hdL t.Kids l.tail) (l.headD 0)) := by cases t; rw [okT]
theorem ts_pos (t : Tree) : 1 ≤ tsT t := by rw [tsT_eq]; omega
theorem list_eq (f g : List Int) (hf : f.length < 9223372036854775808) : ref01_List f g = some (decide (f = g)) := by
  unfold ref01_List
  by_cases c : (f.length : Int) = (g.length : Int)
  · rw [if_pos c, rangeL, if_pos hf]
    suffices H : ∀ (u p q : List Int), f = p ++ u → g.length = f.length → p.length = q.length → g.take p.length = q → rangeC (fun i1 x1 (s1 : Unit) n1 => (g[i1]?).bind fun v1 => if x1 = v1 then n1 () else some false) u p.length () (fun _ => some true) = some (decide (u = g.drop p.length)) by
      have := H f [] [] rfl (by omega) rfl rfl
      exact this
    intro u
    induction u with
    | nil =>
      intro p q h1 h2 _ _
      rw [rangeC]
      have : g.drop p.length = [] := List.drop_eq_nil_of_le (by rw [h2, h1]; simp)
      rw [this]; rfl
    | cons x u ih =>
      intro p q h1 h2 h3 h4
      have hp : p.length < g.length := by rw [h2, h1]; simp
      rw [rangeC, List.getElem?_eq_getElem hp, Option.bind_some]
      have hd : g.drop p.length = g[p.length] :: g.drop (p.length + 1) := List.drop_eq_getElem_cons hp
      by_cases e : x = g[p.length]
      · rw [if_pos e]
        have := ih (p ++ [x]) (g.take (p.length + 1)) (by simp [h1]) h2 (by simp; omega) (by simp)
        rw [List.length_append] at this
        simp only [List.length_cons, List.length_nil, Nat.zero_add] at this
        show rangeC _ u (p.length + 1) () _ = _
        rw [this, hd]
        congr 1
        by_cases e2 : u = g.drop (p.length + 1)
        · rw [decide_eq_true e2, decide_eq_true (by rw [e, ← e2])]
        · rw [decide_eq_false e2, decide_eq_false (fun h => by injection h with _ h; exact e2 h)]
      · rw [if_neg e, hd, decide_eq_false (fun h => by injection h with h _; exact e h)]
  · rw [if_neg c, decide_eq_false (fun h => c (by rw [h]))]
/-- the rules of an automaton -/
def RR (a : Automaton) (s : Int) (f : List Int) (q : Int) : Bool := a.Rules.any fun x => decide (x.Sym = s ∧ x.To = q ∧ x.From = f)
theorem any_loop {s q : Int} {f rest : List Int} : ∀ (l : List Rule) (i : Nat), (∀ x ∈ l, x.From.length < 9223372036854775808) →
    rangeC (fun i2 x2 (s2 : Unit) n2 =>
      if x2.Sym = s then
        if x2.To = q then
          (ref01_List x2.From f).bind fun v3 =>
          if v3 = true then
            some (rest, true)
          else
            n2 ()
        else
          n2 ()
      else
        n2 ()) l i () (fun s2 => some (([] : List Int), false)) = some (if (l.any fun x => decide (x.Sym = s ∧ x.To = q ∧ x.From = f)) = true then (rest, true) else ([], false))
  | [], i, _ => by rw [rangeC]; rfl
  | x :: l, i, h => by
    have ih := any_loop (s := s) (q := q) (f := f) (rest := rest) l (i + 1) (fun y hy => h y (List.mem_cons_of_mem _ hy))
    rw [rangeC, List.any_cons]
    by_cases c1 : x.Sym = s
    · rw [if_pos c1]
      by_cases c2 : x.To = q
      · rw [if_pos c2, list_eq _ _ (h x (by simp)), Option.bind_some]
        by_cases c3 : x.From = f
        · rw [decide_eq_true c3, if_pos rfl, decide_eq_true ⟨c1, c2, c3⟩, Bool.true_or, if_pos rfl]
        · rw [decide_eq_false c3, if_neg (by simp), decide_eq_false (fun h => c3 h.2.2), Bool.false_or]; exact ih
      · rw [if_neg c2, decide_eq_false (fun h => c2 h.2.1), Bool.false_or]; exact ih
    · rw [if_neg c1, decide_eq_false (fun h => c1 h.1), Bool.false_or]; exact ih
theorem head_get {l : List Int} (h : 1 ≤ l.length) : l[0]? = some (l.headD 0) := by
  cases l with
  | nil => cases h
  | cons x l => rfl
theorem tail_drop (l : List Int) : l.tail = l.drop 1 := by cases l <;> rfl
theorem walk_eq {a : Automaton} (hr : a.Rules.length < 9223372036854775808) (hx : ∀ x ∈ a.Rules, x.From.length < 9223372036854775808) : ∀ (n : Nat) (t : Tree) (l : List Int), tdT t < n → tsT t ≤ l.length → tsT t ≤ 1000000 →
    ref03_walk n a t l = some (if okT (RR a) t l = true then (l.drop (tsT t), true) else ([], false))
  | 0, _, _, h, _, _ => by omega
  | n + 1, t, l, hd, hl, hs => by
    have hp := ts_pos t
    rw [tdT_eq] at hd
    have hts := tsT_eq t
    unfold ref03_walk
    rw [head_get (by omega), Option.bind_some]
    have e1 : slcF l 1 = some (l.drop 1) := by unfold slcF; rw [if_pos (by omega)]; rfl
    rw [e1, Option.bind_some, rangeL, if_pos (by have := tlen t.Kids; omega)]
    suffices H : ∀ (ks : List Tree) (i : Nat) (cur acc : List Int) (K : List Int × List Int → Option (List Int × Bool)), tdL ks < n + 1 → tsL ks ≤ cur.length → tsL ks ≤ 1000000 → acc.length + ks.length ≤ 1000000 →
        rangeC (fun i1 x1 (s1 : (List Int) × (List Int)) n1 =>
          (s1.1[0]?).bind fun v4 =>
          (app 8 s1.2 [v4]).bind fun v5 =>
          (ref03_walk n a x1 s1.1).bind fun v6 =>
          if v6.2 = true then
            n1 (v6.1, v5)
          else
            some (([] : List Int), false)) ks i (cur, acc) K = if okL (RR a) ks cur = true then K (cur.drop (tsL ks), acc ++ hdL ks cur) else some ([], false) by
      rw [H t.Kids 0 _ _ _ hd (by rw [List.length_drop]; omega) (by omega) (by have := tlen t.Kids; simp; omega), okT_eq, tail_drop]
      by_cases c : okL (RR a) t.Kids (l.drop 1) = true
      · rw [if_pos c, c, Bool.true_and, List.nil_append]
        simp only []
        rw [rangeL, if_pos hr, any_loop _ _ hx, List.drop_drop, hts]
        rfl
      · rw [if_neg c, Bool.eq_false_iff.2 c, Bool.false_and, if_neg (by simp)]
    intro ks
    induction ks with
    | nil =>
      intro i cur acc K _ _ _ _
      rw [rangeC, okL, if_pos rfl, tsL, List.drop_zero, hdL, List.append_nil]
    | cons k ks ih =>
      intro i cur acc K h1 h2 h3 h4
      obtain ⟨d1, d2⟩ := tdL_cons h1
      rw [tsL] at h2 h3
      rw [List.length_cons] at h4
      have hpk := ts_pos k
      rw [rangeC]
      simp only []
      rw [head_get (by omega), Option.bind_some, app_ok (by simp only [List.length_cons, List.length_nil]; omega), Option.bind_some, walk_eq hr hx n k cur d1 (by omega) (by omega), Option.bind_some, okL]
      by_cases c : okT (RR a) k cur = true
      · rw [if_pos c, c, Bool.true_and, if_pos rfl]
        show rangeC _ ks (i + 1) _ K = _
        rw [ih (i + 1) _ _ K d2 (by rw [List.length_drop]; omega) (by omega) (by simp only [List.length_append, List.length_cons, List.length_nil]; omega), List.drop_drop, tsL, hdL, List.append_assoc]
        rfl
      · rw [if_neg c, Bool.eq_false_iff.2 c, Bool.false_and, if_neg (by simp), if_neg (by simp)]
end Go.AM.S03

namespace Go.AM.S03
open Go Go.Proofs Go.AM
set_option linter.unusedVariables false
set_option maxRecDepth 100000
set_option maxHeartbeats 4000000
theorem mget_mput {K V : Type} [DecidableEq K] (k k' : K) (v : V) : ∀ m : List (K × V), mget k (mput k' v m) = if k = k' then some v else mget k m
  | [] => by rw [mput, mget]; rfl
  | (k2, v2) :: m => by
    rw [mput]
    by_cases c : k' = k2
    · rw [if_pos c, mget, mget]
      by_cases e : k = k'
      · rw [if_pos e, if_pos e]
      · rw [if_neg e, if_neg e, if_neg (fun h => e (h.trans c.symm))]
    · rw [if_neg c, mget, mget, mget_mput k k' v m]
      by_cases e : k = k'
      · subst e; simp [c]
      · simp [e]
/-- what the map of the rules says -/
def MM (m : List (Str × Bool)) (s : Int) (f : List Int) (q : Int) : Bool := (mget (strB (kS s (f ++ [q]))) m).getD false
def kR (x : Rule) : Str := strB (kS x.Sym (x.From ++ [x.To]))
theorem mget_fold (k : Str) : ∀ (l : List Rule) (m : List (Str × Bool)), (mget k (l.foldl (fun m x => mput (kR x) true m) m)).getD false = ((l.any fun x => decide (k = kR x)) || (mget k m).getD false)
  | [], m => by simp
  | x :: l, m => by
    rw [List.foldl_cons, mget_fold k l, mget_mput, List.any_cons]
    by_cases c : k = kR x
    · rw [if_pos c, decide_eq_true c]; simp
    · rw [if_neg c, decide_eq_false c, Bool.false_or]
theorem snoc_inj {l m : List Int} {a b : Int} (h : l ++ [a] = m ++ [b]) : l = m ∧ a = b := by
  have := List.append_inj' h rfl
  exact ⟨this.1, by simpa using this.2⟩
theorem i64_small {x : Int} (h0 : 0 ≤ x) (h1 : x < 1000000) : I64 x := ⟨by omega, by omega⟩
def ruleMap (a : Automaton) : List (Str × Bool) := a.Rules.foldl (fun m x => mput (kR x) true m) []
theorem MM_eq {r : List Int} {a : Automaton} (ha : OKa r a) {s q : Int} {f : List Int} (hs : I64 s) (hf : ∀ x ∈ f, I64 x) (hq : I64 q) : MM (ruleMap a) s f q = RR a s f q := by
  unfold MM ruleMap RR
  rw [mget_fold]
  show ((a.Rules.any fun x => decide (strB (kS s (f ++ [q])) = kR x)) || false) = _
  rw [Bool.or_false]
  have key : ∀ x ∈ a.Rules, (strB (kS s (f ++ [q])) = kR x ↔ (x.Sym = s ∧ x.To = q ∧ x.From = f)) := by
    intro x hx
    have h1 := ha.sym x hx
    have h2 := ha.to x hx
    have h3 := ha.from' x hx
    have hst := ha.st
    have hrk := ha.rk
    constructor
    · intro h
      obtain ⟨e1, e2⟩ := key_inj hs (i64_small h1.1 (by omega)) (fun y hy => by
        rcases List.mem_append.1 hy with hy | hy
        · exact hf y hy
        · simp only [List.mem_singleton] at hy; subst hy; exact hq) (fun y hy => by
        rcases List.mem_append.1 hy with hy | hy
        · exact i64_small (h3 y hy).1 (by have := (h3 y hy).2; omega)
        · simp only [List.mem_singleton] at hy; subst hy; exact i64_small h2.1 (by omega)) h
      obtain ⟨e3, e4⟩ := snoc_inj e2
      exact ⟨e1.symm, e4.symm, e3.symm⟩
    · rintro ⟨rfl, rfl, rfl⟩; rfl
  generalize a.Rules = L at key
  induction L with
  | nil => rfl
  | cons x l ih =>
    rw [List.any_cons, List.any_cons, ih (fun y hy => key y (List.mem_cons_of_mem _ hy))]
    congr 1
    by_cases c : x.Sym = s ∧ x.To = q ∧ x.From = f
    · rw [decide_eq_true c, decide_eq_true ((key x (by simp)).2 c)]
    · rw [decide_eq_false c, decide_eq_false (fun h => c ((key x (by simp)).1 h))]
theorem hdL_mem : ∀ (ks : List Tree) (l : List Int), (∀ x ∈ l, I64 x) → ∀ x ∈ hdL ks l, I64 x
  | [], _, _, x, h => by cases h
  | k :: ks, l, hl, x, h => by
    rw [hdL] at h
    rcases List.mem_cons.1 h with rfl | h
    · cases l with
      | nil => exact ⟨by show (-9223372036854775808 : Int) ≤ 0; omega, by show (0 : Int) ≤ 9223372036854775807; omega⟩
      | cons y l => exact hl y (by simp)
    · exact hdL_mem ks _ (fun y hy => hl y (List.mem_of_mem_drop hy)) x h
theorem hdL_len : ∀ (ks : List Tree) (l : List Int), (hdL ks l).length = ks.length
  | [], _ => rfl
  | k :: ks, l => by rw [hdL, List.length_cons, hdL_len ks, List.length_cons]
theorem head_I64 {l : List Int} (hl : ∀ x ∈ l, I64 x) : I64 (l.headD 0) := by
  cases l with
  | nil => exact ⟨by show (-9223372036854775808 : Int) ≤ 0; omega, by show (0 : Int) ≤ 9223372036854775807; omega⟩
  | cons y l => exact hl y (by simp)
theorem sh_parts {r : List Int} {t : Tree} (h : shT r t = true) : 0 ≤ t.Sym ∧ t.Sym < r.length ∧ (t.Kids.length : Int) = rk r t.Sym ∧ shL r t.Kids = true := by
  rw [shT_eq, Bool.and_eq_true] at h
  have := of_decide_eq_true h.1
  exact ⟨this.1, this.2.1, this.2.2, h.2⟩
theorem shL_cons {r : List Int} {t : Tree} {l : List Tree} (h : shL r (t :: l) = true) : shT r t = true ∧ shL r l = true := by
  rw [shL, Bool.and_eq_true] at h; exact h
theorem drop_I64 {l : List Int} (hl : ∀ x ∈ l, I64 x) (i : Nat) : ∀ x ∈ l.drop i, I64 x := fun y hy => hl y (List.mem_of_mem_drop hy)
theorem tail_I64 {l : List Int} (hl : ∀ x ∈ l, I64 x) : ∀ x ∈ l.tail, I64 x := fun y hy => hl y (List.mem_of_mem_tail hy)
mutual
theorem okT_cong {r : List Int} {R R' : Int → List Int → Int → Bool} (hr : r.length ≤ 12) (h : ∀ s f q, I64 s → (∀ x ∈ f, I64 x) → I64 q → R s f q = R' s f q) : ∀ (t : Tree) (l : List Int), shT r t = true → (∀ x ∈ l, I64 x) → okT R t l = okT R' t l
  | .mk s ks, l, hs, hl => by
    obtain ⟨s1, s2, _, s4⟩ := sh_parts hs
    rw [okT, okT, okL_cong hr h ks _ s4 (tail_I64 hl), h _ _ _ (i64_small s1 (by omega)) (hdL_mem ks _ (tail_I64 hl)) (head_I64 hl)]
theorem okL_cong {r : List Int} {R R' : Int → List Int → Int → Bool} (hr : r.length ≤ 12) (h : ∀ s f q, I64 s → (∀ x ∈ f, I64 x) → I64 q → R s f q = R' s f q) : ∀ (ks : List Tree) (l : List Int), shL r ks = true → (∀ x ∈ l, I64 x) → okL R ks l = okL R' ks l
  | [], _, _, _ => by rw [okL, okL]
  | k :: ks, l, hs, hl => by
    obtain ⟨s1, s2⟩ := shL_cons hs
    rw [okL, okL, okT_cong hr h k l s1 hl, okL_cong hr h ks _ s2 (drop_I64 hl _)]
end
theorem idx_drop {l : List Int} {i : Nat} (h : i < l.length) : idx l (i : Int) = some ((l.drop i).headD 0) := by
  unfold idx
  rw [if_pos (by omega), Int.toNat_natCast, List.getElem?_eq_getElem h, List.drop_eq_getElem_cons h]; rfl
theorem checked_eq {r st : List Int} {m : List (Str × Bool)} (hr : r.length ≤ 12) (hst : ∀ x ∈ st, I64 x) (hsl : st.length ≤ 1000) : ∀ (n : Nat) (t : Tree) (p : Nat), tdT t + 5 ≤ n → shT r t = true → p + tsT t ≤ st.length →
    ∃ z, auto_checked_xxrd n t st (p : Int) m = some (okT (MM m) t (st.drop p), z) ∧ (okT (MM m) t (st.drop p) = true → z = ((p + tsT t : Nat) : Int))
  | 0, _, _, h, _, _ => by omega
  | n + 1, t, p, hd, hs, hl => by
    have hp := ts_pos t
    rw [tdT_eq] at hd
    have hts := tsT_eq t
    obtain ⟨s1, s2, _, s4⟩ := sh_parts hs
    unfold auto_checked_xxrd
    rw [idx_drop (by omega), Option.bind_some, rangeL, if_pos (by have := tlen t.Kids; omega), w64_eq (by omega) (by omega)]
    suffices H : ∀ (ks : List Tree) (i : Nat) (acc : List Int) (p : Nat) (K : List Int × Int → Option (Bool × Int)), tdL ks + 5 ≤ n + 1 → shL r ks = true → p + tsL ks ≤ st.length → acc.length + ks.length ≤ 1000000 →
        ∃ z, rangeC (fun i1 x1 (s1 : (List Int) × Int) n1 =>
          (idx st s1.2).bind fun v4 =>
          (app 8 s1.1 [v4]).bind fun v5 =>
          (auto_checked_xxrd n x1 st s1.2 m).bind fun v6 =>
          if v6.1 = true then
            n1 (v5, v6.2)
          else
            some (false, v6.2)) ks i (acc, (p : Int)) K = if okL (MM m) ks (st.drop p) = true then K (acc ++ hdL ks (st.drop p), ((p + tsL ks : Nat) : Int)) else some (false, z) by
      obtain ⟨z, e⟩ := H t.Kids 0 [] (p + 1) (fun s1 =>
        (app 8 s1.1 [(st.drop p).headD 0]).bind fun v2 =>
        (auto_key n t.Sym v2).bind fun v3 =>
        some ((mget v3 m).getD false, s1.2)) hd s4 (by omega) (by have := tlen t.Kids; simp; omega)
      have e0 : ((p : Int) + 1) = ((p + 1 : Nat) : Int) := by omega
      rw [e0, e, okT_eq, tail_drop, List.drop_drop]
      by_cases c : okL (MM m) t.Kids (st.drop (p + 1)) = true
      · rw [if_pos c, c, Bool.true_and, List.nil_append]
        have hhl := hdL_len t.Kids (st.drop (p + 1))
        have htl := tlen t.Kids
        simp only []
        rw [app_ok (by simp only [List.length_cons, List.length_nil]; omega), Option.bind_some, key_eq (by omega) (i64_small s1 (by omega)) (fun x hx => by
          rcases List.mem_append.1 hx with hx | hx
          · exact hdL_mem _ _ (drop_I64 hst _) x hx
          · simp only [List.mem_singleton] at hx; subst hx; exact head_I64 (drop_I64 hst _)) (by simp only [List.length_append, List.length_cons, List.length_nil]; omega), Option.bind_some]
        refine ⟨_, rfl, fun _ => ?_⟩
        rw [hts]; congr 1; omega
      · rw [if_neg c, Bool.eq_false_iff.2 c, Bool.false_and]
        exact ⟨z, rfl, fun h => by cases h⟩
    intro ks
    induction ks with
    | nil =>
      intro i acc p K _ _ _ _
      refine ⟨0, ?_⟩
      rw [rangeC, okL, if_pos rfl, tsL, hdL, List.append_nil]; rfl
    | cons k ks ih =>
      intro i acc p K h1 h2 h3 h4
      have hdk : tdT k + 1 ≤ tdL (k :: ks) := td_mem (by simp)
      have hdks : tdL ks ≤ tdL (k :: ks) := by rw [tdL]; omega
      rw [tsL] at h3
      rw [List.length_cons] at h4
      obtain ⟨q1, q2⟩ := shL_cons h2
      have hpk := ts_pos k
      obtain ⟨z, e, hz⟩ := checked_eq (m := m) hr hst hsl n k p (by omega) q1 (by omega)
      rw [rangeC]
      simp only []
      rw [idx_drop (by omega), Option.bind_some, app_ok (by simp only [List.length_cons, List.length_nil]; omega), Option.bind_some, e, Option.bind_some, okL]
      by_cases c : okT (MM m) k (st.drop p) = true
      · rw [if_pos c, c, Bool.true_and, hz c]
        obtain ⟨z', e'⟩ := ih (i + 1) (acc ++ [(st.drop p).headD 0]) (p + tsT k) K (by omega) q2 (by omega) (by simp only [List.length_append, List.length_cons, List.length_nil]; omega)
        refine ⟨z', ?_⟩
        show rangeC _ ks (i + 1) _ K = _
        rw [e', List.drop_drop, tsL, hdL, List.append_assoc, List.drop_drop, Nat.add_assoc]
        rfl
      · rw [if_neg c, Bool.eq_false_iff.2 c, Bool.false_and]
        exact ⟨z, by rw [if_neg (by simp)]⟩
theorem in_eq (l : List Int) (v : Int) (hl : l.length < 9223372036854775808) : ref03_In l v = some (decide (v ∈ l)) := by
  unfold ref03_In
  rw [rangeL, if_pos hl]
  generalize 0 = i
  induction l generalizing i with
  | nil => rfl
  | cons x l ih =>
    rw [rangeC]
    by_cases c : x = v
    · rw [if_pos c, decide_eq_true (by simp [c])]
    · rw [if_neg c]
      have := ih (by rw [List.length_cons] at hl; omega) (i + 1)
      show rangeC _ l (i + 1) () _ = _
      rw [this]
      congr 1
      by_cases c2 : v ∈ l
      · rw [decide_eq_true c2, decide_eq_true (by simp [c2])]
      · rw [decide_eq_false c2, decide_eq_false (by simp [c2]; exact fun h => c h.symm)]
theorem contains_eq (l : List Int) (v : Int) (hl : l.length < 9223372036854775808) : slices_Contains_Lint_int l v = some (decide (v ∈ l)) := by
  unfold slices_Contains_Lint_int slices_Index_Lint_int
  rw [rangeL, if_pos hl]
  suffices H : ∀ (l : List Int) (i : Nat), ∃ z, rangeC (fun i1 x1 (s1 : Unit) n1 => if v = x1 then some (i1 : Int) else n1 ()) l i () (fun s1 => some (-1)) = some z ∧ decide (0 ≤ z) = decide (v ∈ l) by
    obtain ⟨z, e, h⟩ := H l 0
    rw [e, Option.bind_some, h]
  intro l
  induction l with
  | nil => intro i; exact ⟨-1, rfl, rfl⟩
  | cons x l ih =>
    intro i
    rw [rangeC]
    by_cases c : v = x
    · rw [if_pos c]
      exact ⟨_, rfl, by rw [decide_eq_true (by omega), decide_eq_true (by simp [c])]⟩
    · rw [if_neg c]
      obtain ⟨z, e, h⟩ := ih (i + 1)
      refine ⟨z, e, ?_⟩
      rw [h]
      by_cases c2 : v ∈ l
      · rw [decide_eq_true c2, decide_eq_true (by simp [c2])]
      · rw [decide_eq_false c2, decide_eq_false (by simp [c2, c])]
/-- whether a list is a run with a final state at the root -/
def isR (a : Automaton) (t : Tree) (l : List Int) : Bool := decide (l.length = tsT t) && (decide (l.headD 0 ∈ a.Final) && okT (RR a) t l)
def ask (r : List Int) (a : Automaton) (t : Tree) : Int := if (aV r a && tvld r t) = true then 0 else 1
theorem asked_eq {n : Nat} {r : List Int} {a : Automaton} {t : Tree} (w : AW a) (hd : tdT t < n) (hw : twT t = true) : auto_asked n ⟨r⟩ a t = some (ask r a t) := by
  unfold auto_asked ask
  rw [auto_eq r a w, Option.bind_some, tvalid_eq r hd hw, Option.bind_some]
  cases aV r a <;> cases tvld r t <;> rfl
theorem rasked_eq {n : Nat} {r : List Int} {a : Automaton} {t : Tree} (w : AW a) (hd : tdT t < n) (hw : twT t = true) : ref03_Asked n ⟨r⟩ a t = some (ask r a t) := by
  unfold ref03_Asked ask
  rw [rauto_eq r a w, Option.bind_some, rtvalid_eq r hd hw, Option.bind_some]
  cases aV r a <;> cases tvld r t <;> rfl
theorem IsRun_eq {n : Nat} {r : List Int} {a : Automaton} {t : Tree} {l : List Int} (ha : OKa r a) (hd : tdT t < n) (hs : tsT t ≤ 300) : ref03_IsRun n a t l = some (isR a t l) := by
  have hp := ts_pos t
  unfold ref03_IsRun isR
  rw [ref01_Size_eq n t hd (by omega), Option.bind_some]
  by_cases c : l.length = tsT t
  · rw [if_pos (by omega), decide_eq_true c, Bool.true_and, head_get (by omega), Option.bind_some, in_eq _ _ (by have := ha.fin; omega), Option.bind_some]
    by_cases c2 : l.headD 0 ∈ a.Final
    · rw [decide_eq_true c2, if_pos rfl, Bool.true_and, walk_eq (by have := ha.rul; omega) (fun x hx => by have := ha.frm x hx; omega) n t l hd (by omega) (by omega), Option.bind_some]
      cases okT (RR a) t l <;> rfl
    · rw [decide_eq_false c2, if_neg (by simp), Bool.false_and]
  · rw [if_neg (by omega), decide_eq_false c, Bool.false_and]
theorem tvld_parts {r : List Int} {t : Tree} (h : tvld r t = true) : r.length ≤ 12 ∧ tsT t ≤ 300 ∧ shT r t = true := by
  unfold tvld vA at h
  simp only [Bool.and_eq_true, decide_eq_true_eq] at h
  obtain ⟨⟨h1, _⟩, h2, h3⟩ := h
  exact ⟨h1, by omega, h3⟩
theorem rules_eq {n : Nat} {r : List Int} {a : Automaton} (ha : OKa r a) (hn : 4 ≤ n) {R : Type} (K : List (Str × Bool) → Option R) :
    rangeL a.Rules ([] : List (Str × Bool)) (fun k1 i1 x1 (s1 : (List (Str × Bool))) n1 =>
          (slices_Clone_Lint_int x1.From).bind fun v6 =>
          (app 8 v6 [x1.To]).bind fun v7 =>
          (auto_key n x1.Sym v7).bind fun v8 =>
          n1 (mput v8 true s1)) K = K (ruleMap a) := by
  rw [rangeL, if_pos (by have := ha.rul; omega)]
  refine (foldC (step := fun m x => mput (kR x) true m) (fun _ => True) a.Rules 0 [] K trivial (fun j x s n1 hx _ => ?_) (fun _ _ _ _ => trivial)).1
  have h1 := ha.frm x hx
  have h2 := ha.sym x hx
  have h3 := ha.to x hx
  have h4 := ha.from' x hx
  have hst := ha.st
  have hrk := ha.rk
  have e : slices_Clone_Lint_int x.From = some x.From := if_pos (by omega)
  rw [e, Option.bind_some, app_ok (by simp only [List.length_cons, List.length_nil]; omega), Option.bind_some, key_eq hn (i64_small h2.1 (by omega)) (fun y hy => by
    rcases List.mem_append.1 hy with hy | hy
    · exact i64_small (h4 y hy).1 (by have := (h4 y hy).2; omega)
    · simp only [List.mem_singleton] at hy; subst hy; exact i64_small h3.1 (by omega)) (by simp only [List.length_append, List.length_cons, List.length_nil]; omega), Option.bind_some]
  rfl
theorem rCheck_eq {n : Nat} {r : List Int} {a : Automaton} {t : Tree} {l : List Int} (w : AW a) (hd : tdT t < n) (hw : twT t = true) (hf : fewB r a t = true) :
    ref03_Check n ⟨r⟩ a t l = some (if ask r a t = 0 then (isR a t l, 0) else (false, ask r a t)) := by
  unfold ref03_Check
  rw [rasked_eq w hd hw, Option.bind_some]
  by_cases c : ask r a t = 0
  · rw [if_pos c, if_pos c]
    have hv : (aV r a && tvld r t) = true := by
      unfold ask at c
      split at c
      · assumption
      · omega
    rw [Bool.and_eq_true] at hv
    rw [IsRun_eq (ok_of hv.1 hf) hd (tvld_parts hv.2).2.1, Option.bind_some]
  · rw [if_neg c, if_neg c]
theorem ask_valid {r : List Int} {a : Automaton} {t : Tree} (c : ask r a t = 0) : aV r a = true ∧ tvld r t = true := by
  have hv : (aV r a && tvld r t) = true := by
    unfold ask at c
    split at c
    · assumption
    · omega
  rwa [Bool.and_eq_true] at hv
theorem Check_eq {n : Nat} {r : List Int} {a : Automaton} {t : Tree} {l : List Int} (w : AW a) (hd : tdT t + 5 ≤ n) (hw : twT t = true) (hf : fewB r a t = true) (hl : ∀ x ∈ l, I64 x) (hll : l.length ≤ 1000) :
    auto_Check n ⟨r⟩ a t l = some (if ask r a t = 0 then (isR a t l, 0) else (false, ask r a t)) := by
  unfold auto_Check
  rw [asked_eq w (by omega) hw, Option.bind_some]
  by_cases c : ask r a t = 0
  · rw [if_pos c, if_pos c]
    obtain ⟨hv1, hv2⟩ := ask_valid c
    have ha := ok_of hv1 hf
    obtain ⟨hr, hs, hsh⟩ := tvld_parts hv2
    have hp := ts_pos t
    unfold isR
    rw [tree_Size_eq n t (by omega) (by omega), Option.bind_some]
    by_cases c : l.length = tsT t
    · rw [if_pos (by omega), decide_eq_true c, Bool.true_and, head_get (by omega), Option.bind_some, contains_eq _ _ (by have := ha.fin; omega), Option.bind_some]
      by_cases c2 : l.headD 0 ∈ a.Final
      · rw [decide_eq_true c2, if_pos rfl, Bool.true_and, rules_eq ha (by omega)]
        obtain ⟨z, e, _⟩ := checked_eq (m := ruleMap a) hr hl hll n t 0 hd hsh (by omega)
        rw [List.drop_zero] at e
        rw [show (0 : Int) = ((0 : Nat) : Int) from rfl, e, Option.bind_some, okT_cong hr (fun s f q h1 h2 h3 => MM_eq ha h1 h2 h3) t l hsh hl]
      · rw [decide_eq_false c2, if_neg (by simp), Bool.false_and]
    · rw [if_neg (by omega), decide_eq_false c, Bool.false_and]
  · rw [if_neg c, if_neg c]
end Go.AM.S03

namespace Go.AM.S03
open Go Go.Proofs Go.AM
set_option linter.unusedVariables false
set_option maxRecDepth 100000
set_option maxHeartbeats 4000000
mutual
/-- whether a run assigns a state to the root -/
def stT (a : Automaton) : Tree → Int → Bool
  | .mk s ks, q => a.Rules.any fun x => decide (x.Sym = s ∧ x.To = q) && stL a ks x.From
def stL (a : Automaton) : List Tree → List Int → Bool
  | [], _ => true
  | _ :: _, [] => true
  | k :: ks, f :: fs => stT a k f && stL a ks fs
end
theorem stT_eq (a : Automaton) (t : Tree) (q : Int) : stT a t q = a.Rules.any fun x => decide (x.Sym = t.Sym ∧ x.To = q) && stL a t.Kids x.From := by cases t; rw [stT]
/-- the indices of the rules of a symbol -/
def idxs (s : Int) : List Rule → Nat → List Int
  | [], _ => []
  | x :: l, i => if x.Sym = s then (i : Int) :: idxs s l (i + 1) else idxs s l (i + 1)
theorem idxs_len (s : Int) : ∀ (l : List Rule) (i : Nat), (idxs s l i).length ≤ l.length
  | [], _ => Nat.le_refl _
  | x :: l, i => by
    rw [idxs]
    have := idxs_len s l (i + 1)
    split
    · rw [List.length_cons, List.length_cons]; omega
    · rw [List.length_cons]; omega
theorem By_loop {N : Nat} {R : Type} : ∀ (l : List Rule) (i : Nat) (st : List (List Int)) (K : List (List Int) → Option R), (∀ x ∈ l, 0 ≤ x.Sym ∧ x.Sym < (N : Int)) → st.length = N → (∀ (k : Nat) l0, st[k]? = some l0 → l0.length + l.length ≤ 1000) →
    ∃ st', rangeC (fun i1 x1 (s1 : (List (List Int))) n1 =>
    (idxM N s1 x1.Sym).bind fun v3 =>
    (app 8 v3 [(i1 : Int)]).bind fun v4 =>
    n1 (List.set s1 ((x1.Sym).toNat) v4)) l i st K = K st' ∧ st'.length = N ∧ ∀ k : Nat, k < N → st'[k]? = some ((st[k]?).getD [] ++ idxs (k : Int) l i)
  | [], i, st, K, _, hN, _ => ⟨st, rfl, hN, fun k hk => by rw [idxs, List.append_nil, List.getElem?_eq_getElem (by omega)]; rfl⟩
  | x :: l, i, st, K, hx, hN, hb => by
    obtain ⟨h0, h1⟩ := hx x (by simp)
    obtain ⟨m, hm⟩ : ∃ m : Nat, x.Sym = m := ⟨x.Sym.toNat, by omega⟩
    have hmN : m < N := by omega
    have hg : st[m]? = some st[m] := List.getElem?_eq_getElem (by omega)
    have hlen := hb m _ hg
    rw [List.length_cons] at hlen
    have e1 : idxM N st x.Sym = some st[m] := by
      unfold idxM; rw [hm, if_pos ⟨by omega, by omega⟩, Int.toNat_natCast, hg]
    obtain ⟨st', e, h2, h3⟩ := By_loop (R := R) l (i + 1) (st.set m (st[m] ++ [(i : Int)])) K (fun y hy => hx y (List.mem_cons_of_mem _ hy)) (by rw [List.length_set]; exact hN) (fun k l0 hk => by
      rw [List.getElem?_set] at hk
      split at hk
      · split at hk
        · injection hk with hk; rw [← hk, List.length_append]; simp only [List.length_cons, List.length_nil]; omega
        · cases hk
      · have := hb k l0 hk; rw [List.length_cons] at this; omega)
    refine ⟨st', ?_, h2, fun k hk => ?_⟩
    · rw [rangeC, e1, Option.bind_some, app_ok (by simp only [List.length_cons, List.length_nil]; omega), Option.bind_some, hm, Int.toNat_natCast]
      exact e
    · rw [h3 k hk, List.getElem?_set, idxs, hm]
      by_cases c : m = k
      · subst c
        rw [if_pos rfl, if_pos (by omega), if_pos rfl, hg]
        simp [List.append_assoc]
      · rw [if_neg c, if_neg (by omega)]
theorem By_eq {r : List Int} {a : Automaton} (ha : OKa r a) : ∃ bl, auto_By ⟨r⟩ a = some bl ∧ ∀ s : Int, 0 ≤ s → s < r.length → idx bl s = some (idxs s a.Rules 0) := by
  have hrk := ha.rk
  have hrul := ha.rul
  obtain ⟨st', e, h2, h3⟩ := By_loop (N := r.length) a.Rules 0 (List.replicate r.length []) (fun s1 => (tkM r.length s1).bind fun v2 => some v2) (fun x hx => ⟨(ha.sym x hx).1, (ha.sym x hx).2.1⟩) (by simp) (fun k l0 hk => by
    have := (List.getElem?_replicate.symm.trans hk)
    split at this
    · injection this with this; rw [← this]; simp; omega
    · cases this)
  refine ⟨st', ?_, fun s h0 h1 => ?_⟩
  · unfold auto_By
    have e1 : mkz 24 (r.length : Int) (r.length : Int) ([] : List Int) = some (List.replicate r.length []) := by
      unfold mkz; rw [if_pos ⟨by omega, by omega, by rw [Int.toNat_natCast]; omega⟩, Int.toNat_natCast]
    have e2 : tkM r.length st' = some st' := by
      unfold tkM; rw [if_pos (by omega), List.take_of_length_le (by omega)]
    show (mkz 24 (r.length : Int) (r.length : Int) ([] : List Int)).bind _ = _
    rw [e1, Option.bind_some, rangeL, if_pos (by omega)]
    show rangeC _ _ _ _ _ = _
    refine e.trans ?_
    rw [e2]; rfl
  · obtain ⟨m, rfl⟩ : ∃ m : Nat, s = m := ⟨s.toNat, by omega⟩
    unfold idx
    rw [if_pos h0, Int.toNat_natCast, h3 m (by omega), List.getElem?_replicate, if_pos (by omega)]
    rfl
/-- the states of a node, as a row -/
def rowT (a : Automaton) (t : Tree) : List Bool := (List.range a.States.toNat).map fun (q : Nat) => stT a t (q : Int)
theorem rowT_len (a : Automaton) (t : Tree) : (rowT a t).length = a.States.toNat := by simp [rowT]
theorem rowT_idx {a : Automaton} {t : Tree} {q : Int} (h0 : 0 ≤ q) (h1 : q < a.States) : idx (rowT a t) q = some (stT a t q) := by
  obtain ⟨m, rfl⟩ : ∃ m : Nat, q = m := ⟨q.toNat, by omega⟩
  unfold idx rowT
  rw [if_pos h0, Int.toNat_natCast, List.getElem?_map, List.getElem?_range (by omega)]; rfl
theorem fits_loop {a : Automaton} {rows : List (List Bool)} {R : Type} (F : Option R) : ∀ (f : List Int) (ks : List Tree) (i : Nat) (K : Unit → Option R), f.length = ks.length → rows.drop i = ks.map (rowT a) → (∀ s ∈ f, 0 ≤ s ∧ s < a.States) →
    rangeC (fun i5 x5 (s5 : Unit) n5 =>
        (rows[i5]?).bind fun v6 =>
        (idx v6 x5).bind fun v7 =>
        if v7 = true then
          n5 ()
        else
          F) f i () K = if stL a ks f = true then K () else F
  | [], [], i, K, _, _, _ => by rw [rangeC, stL, if_pos rfl]
  | [], _ :: _, _, _, h, _, _ => by cases h
  | _ :: _, [], _, _, h, _, _ => by cases h
  | s :: f, k :: ks, i, K, hl, hr, hs => by
    have hi : i < rows.length := by
      rcases Nat.lt_or_ge i rows.length with h | h
      · exact h
      · rw [List.drop_eq_nil_of_le h] at hr; cases hr
    rw [List.drop_eq_getElem_cons hi, List.map_cons] at hr
    injection hr with hr1 hr2
    obtain ⟨q1, q2⟩ := hs s (by simp)
    rw [rangeC, List.getElem?_eq_getElem hi, Option.bind_some, hr1, rowT_idx q1 q2, Option.bind_some, stL]
    by_cases c : stT a k s = true
    · rw [if_pos c, c, Bool.true_and]
      exact fits_loop F f ks (i + 1) K (by simpa using hl) hr2 (fun x hx => hs x (List.mem_cons_of_mem _ hx))
    · rw [if_neg c, Bool.eq_false_iff.2 c, Bool.false_and, if_neg (by simp)]
/-- one rule in the row of a node -/
def stp (a : Automaton) (s : Int) (ks : List Tree) (st : List Bool) (x : Rule) : List Bool := if x.Sym = s then (if stL a ks x.From = true then st.set x.To.toNat true else st) else st
theorem stp_len (a : Automaton) (s : Int) (ks : List Tree) : ∀ (l : List Rule) (st : List Bool), (l.foldl (stp a s ks) st).length = st.length
  | [], _ => rfl
  | x :: l, st => by
    rw [List.foldl_cons, stp_len a s ks l]
    unfold stp
    split
    · split
      · rw [List.length_set]
      · rfl
    · rfl
theorem stp_get (a : Automaton) (s : Int) (ks : List Tree) (q : Nat) : ∀ (l : List Rule) (st : List Bool), (∀ x ∈ l, 0 ≤ x.To) → q < st.length → ((l.foldl (stp a s ks) st)[q]?).getD false = ((st[q]?).getD false || l.any fun x => decide (x.Sym = s ∧ x.To = (q : Int)) && stL a ks x.From)
  | [], st, _, _ => by simp
  | x :: l, st, hx, hq => by
    have h0 := hx x (by simp)
    have hlen : (stp a s ks st x).length = st.length := stp_len a s ks [x] st
    rw [List.foldl_cons, stp_get a s ks q l _ (fun y hy => hx y (List.mem_cons_of_mem _ hy)) (by omega), List.any_cons]
    unfold stp
    by_cases c1 : x.Sym = s
    · rw [if_pos c1]
      by_cases c2 : stL a ks x.From = true
      · rw [if_pos c2, c2, Bool.and_true, List.getElem?_set]
        by_cases c3 : x.To.toNat = q
        · rw [if_pos c3, if_pos (by omega), decide_eq_true (show x.Sym = s ∧ x.To = (q : Int) from ⟨c1, by omega⟩)]
          simp
        · rw [if_neg c3, decide_eq_false (show ¬ (x.Sym = s ∧ x.To = (q : Int)) from fun h => c3 (by omega)), Bool.false_or]
      · rw [if_neg c2, Bool.eq_false_iff.2 c2, Bool.and_false, Bool.false_or]
    · rw [if_neg c1, decide_eq_false (show ¬ (x.Sym = s ∧ x.To = (q : Int)) from fun h => c1 h.1), Bool.false_and, Bool.false_or]
theorem row_fold {r : List Int} {a : Automaton} (ha : OKa r a) (t : Tree) : a.Rules.foldl (stp a t.Sym t.Kids) (List.replicate a.States.toNat false) = rowT a t := by
  apply List.ext_getElem?
  intro q
  by_cases hq : q < a.States.toNat
  · have h1 := stp_get a t.Sym t.Kids q a.Rules (List.replicate a.States.toNat false) (fun x hx => (ha.to x hx).1) (by simpa using hq)
    have hl : q < (a.Rules.foldl (stp a t.Sym t.Kids) (List.replicate a.States.toNat false)).length := by rw [stp_len]; simpa using hq
    rw [List.getElem?_eq_getElem hl] at h1 ⊢
    rw [List.getElem?_eq_getElem (by rw [rowT_len]; exact hq)]
    congr 1
    rw [Option.getD_some] at h1
    rw [h1]
    simp only [rowT, List.getElem_map, List.getElem_range]
    rw [stT_eq, List.getElem?_replicate, if_pos hq]
    rfl
  · rw [List.getElem?_eq_none (by rw [stp_len]; simp; omega), List.getElem?_eq_none (by rw [rowT_len]; omega)]
theorem rules_loop {r : List Int} {a : Automaton} (ha : OKa r a) {ks : List Tree} {s : Int} {rows : List (List Bool)} (hrows : rows = ks.map (rowT a)) (hrk : (ks.length : Int) = rk r s) {R : Type} : ∀ (l : List Rule) (i0 j : Nat) (st : List Bool) (K : List Bool → Option R), a.Rules.drop i0 = l → st.length = a.States.toNat →
    rangeC (fun i4 x4 (s4 : (List Bool)) n4 =>
      (idx a.Rules x4).bind fun v4 =>
      rangeL v4.From () (fun k5 i5 x5 (s5 : Unit) n5 =>
        (rows[i5]?).bind fun v6 =>
        (idx v6 x5).bind fun v7 =>
        if v7 = true then
          n5 ()
        else
          n4 s4) fun s5 =>
      (idxM ((a.States).toNat) s4 v4.To).bind fun v5 =>
      n4 (List.set s4 ((v4.To).toNat) true)) (idxs s l i0) j st K = K (l.foldl (stp a s ks) st)
  | [], i0, j, st, K, _, _ => by rw [idxs, rangeC]; rfl
  | x :: l, i0, j, st, K, hd, hst => by
    have hi : i0 < a.Rules.length := by
      rcases Nat.lt_or_ge i0 a.Rules.length with h | h
      · exact h
      · rw [List.drop_eq_nil_of_le h] at hd; cases hd
    have hd' := hd
    rw [List.drop_eq_getElem_cons hi] at hd'
    injection hd' with hx hd2
    have hmem : x ∈ a.Rules := by rw [← hx]; exact List.getElem_mem hi
    have hst2 := ha.to x hmem
    have hsy := ha.sym x hmem
    have hfr := ha.frm x hmem
    rw [idxs, List.foldl_cons]
    by_cases c1 : x.Sym = s
    · rw [if_pos c1, rangeC]
      have e1 : idx a.Rules (i0 : Int) = some x := by unfold idx; rw [if_pos (by omega), Int.toNat_natCast, List.getElem?_eq_getElem hi, hx]
      rw [e1, Option.bind_some, rangeL, if_pos (by omega), fits_loop _ x.From ks 0 _ (by have := hsy.2.2; rw [c1] at this; omega) (by rw [hrows, List.drop_zero]) (fun y hy => ha.from' x hmem y hy)]
      by_cases c2 : stL a ks x.From = true
      · rw [if_pos c2]
        have e2 : idxM a.States.toNat st x.To = some st[x.To.toNat] := by
          unfold idxM; rw [if_pos ⟨hst2.1, by omega⟩, List.getElem?_eq_getElem (by omega)]
        rw [e2, Option.bind_some]
        have := rules_loop ha hrows hrk l (i0 + 1) (j + 1) (st.set x.To.toNat true) K hd2 (by rw [List.length_set]; exact hst)
        have es : stp a s ks st x = st.set x.To.toNat true := by unfold stp; rw [if_pos c1, if_pos c2]
        rw [es]
        exact this
      · rw [if_neg c2]
        have := rules_loop ha hrows hrk l (i0 + 1) (j + 1) st K hd2 hst
        have es : stp a s ks st x = st := by unfold stp; rw [if_pos c1, if_neg c2]
        rw [es]
        exact this
    · rw [if_neg c1]
      have es : stp a s ks st x = st := by unfold stp; rw [if_neg c1]
      rw [es]
      exact rules_loop ha hrows hrk l (i0 + 1) j st K hd2 hst
mutual
/-- the rows of all nodes -/
def setsF (a : Automaton) : Tree → List (List Bool)
  | .mk s ks => rowT a (.mk s ks) :: flatF a ks
def flatF (a : Automaton) : List Tree → List (List Bool)
  | [] => []
  | k :: ks => setsF a k ++ flatF a ks
end
theorem setsF_eq (a : Automaton) (t : Tree) : setsF a t = rowT a t :: flatF a t.Kids := by cases t; rw [setsF]
mutual
theorem setsF_len (a : Automaton) : ∀ t : Tree, (setsF a t).length = tsT t
  | .mk s ks => by rw [setsF, List.length_cons, flatF_len a ks, tsT]; omega
theorem flatF_len (a : Automaton) : ∀ ks : List Tree, (flatF a ks).length = tsL ks
  | [] => rfl
  | k :: ks => by rw [flatF, List.length_append, setsF_len a k, flatF_len a ks, tsL]
end
theorem sets_eq {r : List Int} {a : Automaton} (ha : OKa r a) {bl : List (List Int)} (hbl : ∀ s : Int, 0 ≤ s → s < r.length → idx bl s = some (idxs s a.Rules 0)) : ∀ (n : Nat) (t : Tree), tdT t < n → shT r t = true → tsT t ≤ 300 → auto_sets n a bl t = some (setsF a t)
  | 0, _, h, _, _ => by omega
  | n + 1, t, hd, hs, hl => by
    rw [tdT_eq] at hd
    have hts := tsT_eq t
    have htl := tlen t.Kids
    have hst := ha.st
    obtain ⟨s1, s2, s3, s4⟩ := sh_parts hs
    unfold auto_sets
    have e1 : mkz 1 a.States a.States false = some (List.replicate a.States.toNat false) := by unfold mkz; rw [if_pos ⟨by omega, by omega, by omega⟩]
    rw [e1, Option.bind_some, rangeL, if_pos (by omega)]
    have H : ∀ (ks : List Tree) (i : Nat) (fl ro : List (List Bool)) (K : List (List Bool) × List (List Bool) → Option (List (List Bool))), tdL ks < n + 1 → shL r ks = true → tsL ks ≤ 300 → fl.length ≤ 1000000 - 2 * tsL ks → ro.length + ks.length ≤ 1000 →
        rangeC (fun i1 x1 (s1 : (List (List Bool)) × (List (List Bool))) n1 =>
          (auto_sets n a bl x1).bind fun v8 =>
          (v8[0]?).bind fun v9 =>
          (app 24 s1.2 [v9]).bind fun v10 =>
          (app 24 (([] : List Bool) :: s1.1) v8).bind fun v11 =>
          n1 ((List.tail v11), v10)) ks i (fl, ro) K = K (fl ++ flatF a ks, ro ++ ks.map (rowT a)) := by
      intro ks
      induction ks with
      | nil => intro i fl ro K _ _ _ _ _; rw [rangeC, flatF, List.append_nil, List.map_nil, List.append_nil]
      | cons k ks ih =>
        intro i fl ro K h1 h2 h3 h4 h5
        obtain ⟨d1, d2⟩ := tdL_cons h1
        obtain ⟨q1, q2⟩ := shL_cons h2
        rw [tsL] at h3 h4
        rw [List.length_cons] at h5
        have hk := setsF_len a k
        rw [rangeC, sets_eq ha hbl n k d1 q1 (by omega), Option.bind_some]
        have e0 : (setsF a k)[0]? = some (rowT a k) := by rw [setsF_eq]; rfl
        rw [e0, Option.bind_some]
        simp only []
        rw [app_ok (by simp only [List.length_cons, List.length_nil]; omega), Option.bind_some, app_ok (by simp only [List.length_cons]; omega), Option.bind_some]
        show rangeC _ ks (i + 1) _ K = _
        rw [List.cons_append, List.tail_cons, ih (i + 1) _ _ K d2 q2 (by omega) (by rw [List.length_append]; omega) (by simp only [List.length_append, List.length_cons, List.length_nil]; omega), flatF, List.map_cons, List.append_assoc, List.append_assoc]
        rfl
    rw [H t.Kids 0 [] [] _ hd s4 (by omega) (by simp) (by simp; omega)]
    simp only [List.nil_append]
    rw [hbl _ s1 s2, Option.bind_some, rangeL, if_pos (by have := idxs_len t.Sym a.Rules 0; have := ha.rul; omega)]
    rw [rules_loop ha rfl s3 a.Rules 0 0 _ _ rfl (by simp), row_fold ha]
    have e3 : tkM a.States.toNat (rowT a t) = some (rowT a t) := by
      unfold tkM; rw [if_pos (by rw [rowT_len]; omega), List.take_of_length_le (by rw [rowT_len]; omega)]
    rw [e3, Option.bind_some, setsF_eq]
end Go.AM.S03

namespace Go.AM.S03
open Go Go.Proofs Go.AM
set_option linter.unusedVariables false
set_option maxRecDepth 100000
set_option maxHeartbeats 4000000
/-- where the parts of the subtrees start -/
def stF : List Tree → Nat → List Int
  | [], _ => []
  | k :: ks, p => (p : Int) :: stF ks (p + tsT k)
theorem stF_len : ∀ (ks : List Tree) (p : Nat), (stF ks p).length = ks.length
  | [], _ => rfl
  | k :: ks, p => by rw [stF, List.length_cons, stF_len ks, List.length_cons]
mutual
/-- the run that the program builds -/
def runF (a : Automaton) : Tree → Int → List Int
  | .mk s ks, q => q :: (match a.Rules.find? fun x => decide (x.Sym = s ∧ x.To = q) && stL a ks x.From with
    | some x => runL a ks x.From
    | none => [])
def runL (a : Automaton) : List Tree → List Int → List Int
  | [], _ => []
  | _ :: _, [] => []
  | k :: ks, f :: fs => runF a k f ++ runL a ks fs
end
theorem runF_eq (a : Automaton) (t : Tree) (q : Int) : runF a t q = q :: (match a.Rules.find? fun x => decide (x.Sym = t.Sym ∧ x.To = q) && stL a t.Kids x.From with
    | some x => runL a t.Kids x.From
    | none => []) := by cases t; rw [runF]
theorem find_of {a : Automaton} {t : Tree} {q : Int} (h : stT a t q = true) : ∃ x, (a.Rules.find? fun x => decide (x.Sym = t.Sym ∧ x.To = q) && stL a t.Kids x.From) = some x ∧ x ∈ a.Rules ∧ x.Sym = t.Sym ∧ x.To = q ∧ stL a t.Kids x.From = true := by
  rw [stT_eq] at h
  cases e : a.Rules.find? fun x => decide (x.Sym = t.Sym ∧ x.To = q) && stL a t.Kids x.From with
  | none =>
    rw [List.find?_eq_none] at e
    obtain ⟨x, hx, h1⟩ := List.any_eq_true.1 h
    exact absurd h1 (e x hx)
  | some x =>
    have h1 := List.find?_some e
    rw [Bool.and_eq_true, decide_eq_true_eq] at h1
    exact ⟨x, rfl, List.mem_of_find?_eq_some e, h1.1.1, h1.1.2, h1.2⟩
theorem run_ok {r : List Int} {a : Automaton} (ha : OKa r a) : ∀ (n : Nat) (t : Tree) (q : Int) (rest : List Int), tdT t < n → shT r t = true → stT a t q = true → (runF a t q).length = tsT t ∧ okT (RR a) t (runF a t q ++ rest) = true ∧ (runF a t q).headD 0 = q
  | 0, _, _, _, h, _, _ => by omega
  | n + 1, t, q, rest, hd, hs, h => by
    rw [tdT_eq] at hd
    obtain ⟨s1, s2, s3, s4⟩ := sh_parts hs
    obtain ⟨x, e, hx, x1, x2, x3⟩ := find_of h
    have H : ∀ (ks : List Tree) (f : List Int) (rest : List Int), tdL ks < n + 1 → shL r ks = true → f.length = ks.length → stL a ks f = true → (runL a ks f).length = tsL ks ∧ okL (RR a) ks (runL a ks f ++ rest) = true ∧ hdL ks (runL a ks f ++ rest) = f := by
      intro ks
      induction ks with
      | nil =>
        intro f rest _ _ hf _
        have : f = [] := List.length_eq_zero_iff.1 hf
        subst this
        exact ⟨rfl, by rw [okL], rfl⟩
      | cons k ks ih =>
        intro f rest h1 h2 hf h3
        cases f with
        | nil => cases hf
        | cons s f =>
          obtain ⟨d1, d2⟩ := tdL_cons h1
          obtain ⟨q1, q2⟩ := shL_cons h2
          rw [stL, Bool.and_eq_true] at h3
          obtain ⟨g1, g2, g3⟩ := run_ok ha n k s (runL a ks f ++ rest) d1 q1 h3.1
          obtain ⟨i1, i2, i3⟩ := ih f rest d2 q2 (by simpa using hf) h3.2
          have hdr : List.drop (tsT k) (runF a k s ++ (runL a ks f ++ rest)) = runL a ks f ++ rest := by
            rw [← g1, List.drop_left]
          have hne : 1 ≤ (runF a k s).length := by rw [g1]; exact ts_pos k
          refine ⟨by rw [runL, List.length_append, g1, i1, tsL], ?_, ?_⟩
          · rw [runL, List.append_assoc, okL, g2, Bool.true_and, hdr, i2]
          · rw [runL, List.append_assoc, hdL, hdr, i3]
            congr 1
            rw [runF_eq]; rfl
    have hfl : x.From.length = t.Kids.length := by
      have := (ha.sym x hx).2.2
      rw [x1] at this; omega
    obtain ⟨j1, j2, j3⟩ := H t.Kids x.From rest hd s4 hfl x3
    rw [runF_eq, e]
    simp only []
    refine ⟨by rw [List.length_cons, j1, tsT_eq]; omega, ?_, rfl⟩
    rw [okT_eq, List.cons_append, List.tail_cons, j2, j3, Bool.true_and]
    show RR a t.Sym x.From q = true
    unfold RR
    exact List.any_eq_true.2 ⟨x, hx, decide_eq_true ⟨x1, x2, rfl⟩⟩
theorem starts_loop {R : Type} {n : Nat} {N : Nat} : ∀ (ks : List Tree) (i p : Nat) (l : List Int) (K : Int × List Int → Option R), tdL ks < n + 1 → tsL ks ≤ 1000000 → p + tsL ks ≤ 1000000 → l.length = N → i + ks.length = N →
    rangeC (fun i1 x1 (s1 : Int × (List Int)) n1 =>
      (idxM N s1.2 (i1 : Int)).bind fun v11 =>
      (tree_Size n x1).bind fun v12 =>
      n1 (w64 (s1.1 + v12), (List.set s1.2 i1 s1.1))) ks i ((p : Int), l) K = K (((p + tsL ks : Nat) : Int), l.take i ++ stF ks p)
  | [], i, p, l, K, _, _, _, hl, hi => by
    rw [rangeC, stF, List.append_nil, List.take_of_length_le (by simp at hi; omega)]; rfl
  | k :: ks, i, p, l, K, hd, hs, hp, hl, hi => by
    obtain ⟨d1, d2⟩ := tdL_cons hd
    rw [tsL] at hs hp
    rw [List.length_cons] at hi
    rw [rangeC]
    simp only []
    have e1 : ∀ R' : Option R, ((idxM N l (i : Int)).bind fun _ => R') = R' := fun R' => by
      unfold idxM
      rw [if_pos ⟨by omega, by rw [Int.toNat_natCast]; omega⟩, Int.toNat_natCast, List.getElem?_eq_getElem (by omega)]; rfl
    rw [e1, tree_Size_eq n k d1 (by omega), Option.bind_some, w64_eq (by omega) (by omega)]
    have e2 : ((p : Int) + (tsT k : Int)) = ((p + tsT k : Nat) : Int) := by omega
    rw [e2]
    show rangeC _ ks (i + 1) _ K = _
    rw [starts_loop ks (i + 1) (p + tsT k) (l.set i (p : Int)) K d2 (by omega) (by omega) (by rw [List.length_set]; exact hl) (by omega)]
    rw [tsL, stF, Nat.add_assoc]
    congr 2
    rw [List.take_succ_eq_append_getElem (by rw [List.length_set]; omega), List.take_set_of_le (Nat.le_refl i)]
    simp
theorem stF_get {l : List Int} : ∀ (ks : List Tree) (p i : Nat), (stF ks p)[i]? = (ks[i]?).map fun _ => ((p + tsL (ks.take i) : Nat) : Int)
  | [], p, i => by simp [stF]
  | k :: ks, p, 0 => by simp [stF, tsL]
  | k :: ks, p, i + 1 => by
    rw [stF, List.getElem?_cons_succ, stF_get (l := l) ks, List.getElem?_cons_succ, List.take_succ_cons, tsL, Nat.add_assoc]
/-- a part of the list of rows -/
def At (all : List (List Bool)) (p : Nat) (l : List (List Bool)) : Prop := ∀ j, j < l.length → all[p + j]? = l[j]?
theorem At.left {all : List (List Bool)} {p : Nat} {l m : List (List Bool)} (h : At all p (l ++ m)) : At all p l := fun j hj => by
  rw [h j (by rw [List.length_append]; omega), List.getElem?_append_left hj]
theorem At.right {all : List (List Bool)} {p : Nat} {l m : List (List Bool)} (h : At all p (l ++ m)) : At all (p + l.length) m := fun j hj => by
  rw [Nat.add_assoc, h (l.length + j) (by rw [List.length_append]; omega), List.getElem?_append_right (by omega)]
  congr 1; omega
theorem At.head {all : List (List Bool)} {p : Nat} {x : List Bool} {l : List (List Bool)} (h : At all p (x :: l)) : all[p]? = some x := h 0 (by simp)
theorem At.tail {all : List (List Bool)} {p : Nat} {x : List Bool} {l : List (List Bool)} (h : At all p (x :: l)) : At all (p + 1) l := At.right (l := [x]) h
theorem fit_loop {a : Automaton} {N : Nat} {starts : List Int} {all : List (List Bool)} {R : Type} : ∀ (f : List Int) (ks : List Tree) (i p : Nat) (b : Bool) (K : Bool → Option R), f.length = ks.length → starts.drop i = stF ks p → starts.length = N → At all p (flatF a ks) → (∀ s ∈ f, 0 ≤ s ∧ s < a.States) →
    rangeC (fun i5 x5 (s5 : Bool) n5 =>
          if s5 = true then
            (idxM N starts (i5 : Int)).bind fun v8 =>
            (idx all v8).bind fun v9 =>
            (idx v9 x5).bind fun v10 =>
            n5 v10
          else
            n5 false) f i b K = K (b && stL a ks f)
  | [], [], i, p, b, K, _, _, _, _, _ => by rw [rangeC, stL, Bool.and_true]
  | [], _ :: _, _, _, _, _, h, _, _, _, _ => by cases h
  | _ :: _, [], _, _, _, _, h, _, _, _, _ => by cases h
  | s :: f, k :: ks, i, p, b, K, hl, hr, hN, hA, hs => by
    have hi : i < starts.length := by
      rcases Nat.lt_or_ge i starts.length with h | h
      · exact h
      · rw [List.drop_eq_nil_of_le h] at hr; cases hr
    rw [List.drop_eq_getElem_cons hi, stF] at hr
    injection hr with hr1 hr2
    obtain ⟨q1, q2⟩ := hs s (by simp)
    rw [flatF] at hA
    have hA2 := hA.right
    rw [setsF_len] at hA2
    have hA1 := hA.left
    rw [setsF_eq] at hA1
    have hh := hA1.head
    have ih := fun b' => fit_loop (R := R) f ks (i + 1) (p + tsT k) b' K (by simpa using hl) hr2 hN hA2 (fun x hx => hs x (List.mem_cons_of_mem _ hx))
    rw [rangeC, stL]
    cases b with
    | false =>
      rw [if_neg (by simp), Bool.false_and]
      have := ih false
      rw [Bool.false_and] at this
      exact this
    | true =>
      rw [if_pos rfl, Bool.true_and]
      have e1 : idxM N starts (i : Int) = some (p : Int) := by
        unfold idxM
        rw [if_pos ⟨by omega, by rw [Int.toNat_natCast]; omega⟩, Int.toNat_natCast, List.getElem?_eq_getElem hi, hr1]
      have e2 : idx all (p : Int) = some (rowT a k) := by
        unfold idx; rw [if_pos (by omega), Int.toNat_natCast]; exact hh
      rw [e1, Option.bind_some, e2, Option.bind_some, rowT_idx q1 q2, Option.bind_some]
      exact ih (stT a k s)
theorem kids_loop {a : Automaton} {bl : List (List Int)} {all : List (List Bool)} {n N : Nat} {kids0 : List Tree} {starts : List Int} {R : Type} {M : Nat} (hrun : ∀ k s p out, k ∈ kids0 → stT a k s = true → 0 ≤ s → s < a.States → At all p (setsF a k) → p + tsT k ≤ 300 → out.length + tsT k ≤ 300 → auto_run n a bl k all (p : Int) s out = some (out ++ runF a k s))
    (hlen : ∀ k s, k ∈ kids0 → stT a k s = true → (runF a k s).length = tsT k) :
    ∀ (f : List Int) (ks : List Tree) (i p : Nat) (out : List Int) (K : List Int → Option R), f.length = ks.length → kids0.drop i = ks → starts.drop i = stF ks p → starts.length = N → At all p (flatF a ks) → (∀ s ∈ f, 0 ≤ s ∧ s < a.States) → stL a ks f = true → p + tsL ks ≤ 300 → out.length + tsL ks ≤ 300 →
    rangeC (fun i6 x6 (s6 : (List Int)) n6 =>
            (kids0[i6]?).bind fun v5 =>
            (idxM N starts (i6 : Int)).bind fun v6 =>
            (auto_run n a bl v5 all v6 x6 s6).bind fun v7 =>
            n6 v7) f i out K = K (out ++ runL a ks f)
  | [], [], i, p, out, K, _, _, _, _, _, _, _, _, _ => by rw [rangeC, runL, List.append_nil]
  | [], _ :: _, _, _, _, _, h, _, _, _, _, _, _, _, _ => by cases h
  | _ :: _, [], _, _, _, _, h, _, _, _, _, _, _, _, _ => by cases h
  | s :: f, k :: ks, i, p, out, K, hl, hk, hr, hN, hA, hs, hst, hp, ho => by
    have hi : i < starts.length := by
      rcases Nat.lt_or_ge i starts.length with h | h
      · exact h
      · rw [List.drop_eq_nil_of_le h] at hr; cases hr
    have hik : i < kids0.length := by
      rcases Nat.lt_or_ge i kids0.length with h | h
      · exact h
      · rw [List.drop_eq_nil_of_le h] at hk; cases hk
    rw [List.drop_eq_getElem_cons hi, stF] at hr
    injection hr with hr1 hr2
    rw [List.drop_eq_getElem_cons hik] at hk
    injection hk with hk1 hk2
    obtain ⟨q1, q2⟩ := hs s (by simp)
    rw [flatF] at hA
    have hA2 := hA.right
    rw [setsF_len] at hA2
    have hA1 := hA.left
    rw [stL, Bool.and_eq_true] at hst
    rw [tsL] at hp ho
    have hmem : k ∈ kids0 := by rw [← hk1]; exact List.getElem_mem hik
    have hrl := hlen k s hmem hst.1
    have e1 : idxM N starts (i : Int) = some (p : Int) := by
      unfold idxM
      rw [if_pos ⟨by omega, by rw [Int.toNat_natCast]; omega⟩, Int.toNat_natCast, List.getElem?_eq_getElem hi, hr1]
    rw [rangeC, List.getElem?_eq_getElem hik, Option.bind_some, hk1, e1, Option.bind_some, hrun k s p out hmem hst.1 q1 q2 hA1 (by omega) (by omega), Option.bind_some]
    show rangeC _ f (i + 1) _ K = _
    rw [kids_loop (M := M) hrun hlen f ks (i + 1) (p + tsT k) (out ++ runF a k s) K (by simpa using hl) hk2 hr2 hN hA2 (fun x hx => hs x (List.mem_cons_of_mem _ hx)) hst.2 (by omega) (by rw [List.length_append]; omega), runL, List.append_assoc]
end Go.AM.S03

namespace Go.AM.S03
open Go Go.Proofs Go.AM
set_option linter.unusedVariables false
set_option maxRecDepth 100000
set_option maxHeartbeats 4000000
theorem run_rules {r : List Int} {a : Automaton} (ha : OKa r a) {bl : List (List Int)} {all : List (List Bool)} {n : Nat} {ks : List Tree} {starts : List Int} {s q : Int} {p : Nat} {out : List Int}
    (hrun : ∀ k s p out, k ∈ ks → stT a k s = true → 0 ≤ s → s < a.States → At all p (setsF a k) → p + tsT k ≤ 300 → out.length + tsT k ≤ 300 → auto_run n a bl k all (p : Int) s out = some (out ++ runF a k s))
    (hlen : ∀ k s, k ∈ ks → stT a k s = true → (runF a k s).length = tsT k) (hst : starts = stF ks p) (hA : At all p (flatF a ks)) (hrk : (ks.length : Int) = rk r s) (hp : p + tsL ks ≤ 300) (ho : out.length + tsL ks ≤ 300) :
    ∀ (l : List Rule) (i0 j : Nat) (K : Unit → Option (List Int)), a.Rules.drop i0 = l →
    rangeC (fun i4 x4 (s4 : Unit) n4 =>
      (idx a.Rules x4).bind fun v4 =>
      if v4.To = q then
        rangeL v4.From true (fun k5 i5 x5 (s5 : Bool) n5 =>
          if s5 = true then
            (idxM ks.length starts (i5 : Int)).bind fun v8 =>
            (idx all v8).bind fun v9 =>
            (idx v9 x5).bind fun v10 =>
            n5 v10
          else
            n5 false) fun s5 =>
        if s5 = true then
          rangeL v4.From out (fun k6 i6 x6 (s6 : (List Int)) n6 =>
            (ks[i6]?).bind fun v5 =>
            (idxM ks.length starts (i6 : Int)).bind fun v6 =>
            (auto_run n a bl v5 all v6 x6 s6).bind fun v7 =>
            n6 v7) fun s6 =>
          some s6
        else
          n4 ()
      else
        n4 ()) (idxs s l i0) j () K = match l.find? fun x => decide (x.Sym = s ∧ x.To = q) && stL a ks x.From with
      | some x => some (out ++ runL a ks x.From)
      | none => K ()
  | [], i0, j, K, _ => by rw [idxs, rangeC]; rfl
  | x :: l, i0, j, K, hd => by
    have hi : i0 < a.Rules.length := by
      rcases Nat.lt_or_ge i0 a.Rules.length with h | h
      · exact h
      · rw [List.drop_eq_nil_of_le h] at hd; cases hd
    have hd' := hd
    rw [List.drop_eq_getElem_cons hi] at hd'
    injection hd' with hx hd2
    have hmem : x ∈ a.Rules := by rw [← hx]; exact List.getElem_mem hi
    have hsy := ha.sym x hmem
    have hfr := ha.frm x hmem
    rw [idxs, List.find?_cons]
    have ih := run_rules ha hrun hlen hst hA hrk hp ho (q := q) l (i0 + 1) (j + 1) K hd2
    by_cases c1 : x.Sym = s
    · rw [if_pos c1, rangeC]
      have e1 : idx a.Rules (i0 : Int) = some x := by unfold idx; rw [if_pos (by omega), Int.toNat_natCast, List.getElem?_eq_getElem hi, hx]
      have hfl : x.From.length = ks.length := by have := hsy.2.2; rw [c1] at this; omega
      rw [e1, Option.bind_some]
      by_cases c2 : x.To = q
      · have hsl : starts.length = ks.length := by rw [hst, stF_len]
        rw [if_pos c2, rangeL, if_pos (by omega), fit_loop x.From ks 0 p true _ hfl (by rw [hst]; rfl) hsl hA (fun y hy => ha.from' x hmem y hy), Bool.true_and, decide_eq_true ⟨c1, c2⟩, Bool.true_and]
        cases c3 : stL a ks x.From with
        | true =>
          rw [if_pos rfl, rangeL, if_pos (by omega), kids_loop (M := 0) hrun hlen x.From ks 0 p out _ hfl rfl (by rw [hst]; rfl) hsl hA (fun y hy => ha.from' x hmem y hy) c3 hp ho]
        | false =>
          rw [if_neg (by simp)]
          exact ih
      · rw [if_neg c2, decide_eq_false (fun h => c2 h.2), Bool.false_and]
        exact ih
    · rw [if_neg c1, decide_eq_false (fun h => c1 h.1), Bool.false_and]
      exact run_rules ha hrun hlen hst hA hrk hp ho (q := q) l (i0 + 1) j K hd2
theorem run_eq {r : List Int} {a : Automaton} (ha : OKa r a) {bl : List (List Int)} (hbl : ∀ s : Int, 0 ≤ s → s < r.length → idx bl s = some (idxs s a.Rules 0)) {all : List (List Bool)} : ∀ (n : Nat) (t : Tree) (q : Int) (p : Nat) (out : List Int), tdT t < n → shT r t = true → stT a t q = true → At all p (setsF a t) → p + tsT t ≤ 300 → out.length + tsT t ≤ 300 →
    auto_run n a bl t all (p : Int) q out = some (out ++ runF a t q)
  | 0, _, _, _, _, h, _, _, _, _, _ => by omega
  | n + 1, t, q, p, out, hd, hs, h, hA, hp, ho => by
    rw [tdT_eq] at hd
    have hts := tsT_eq t
    have htl := tlen t.Kids
    obtain ⟨s1, s2, s3, s4⟩ := sh_parts hs
    rw [setsF_eq] at hA
    have hmem : ∀ k, k ∈ t.Kids → tdT k < n ∧ shT r k = true := by
      intro k hk
      have := td_mem hk
      refine ⟨by omega, ?_⟩
      have : ∀ (l : List Tree), shL r l = true → k ∈ l → shT r k = true := by
        intro l
        induction l with
        | nil => intro _ h; cases h
        | cons y l ih =>
          intro h1 h2
          obtain ⟨g1, g2⟩ := shL_cons h1
          rcases List.mem_cons.1 h2 with rfl | h2
          · exact g1
          · exact ih g2 h2
      exact this _ s4 hk
    unfold auto_run
    rw [app_ok (by simp only [List.length_cons, List.length_nil]; omega), Option.bind_some]
    have e1 : mkz 8 (t.Kids.length : Int) (t.Kids.length : Int) (0 : Int) = some (List.replicate t.Kids.length 0) := by
      unfold mkz; rw [if_pos ⟨by omega, by omega, by rw [Int.toNat_natCast]; omega⟩, Int.toNat_natCast]
    rw [e1, Option.bind_some, rangeL, if_pos (by omega), w64_eq (by omega) (by omega), show ((p : Int) + 1) = ((p + 1 : Nat) : Int) by omega]
    rw [starts_loop t.Kids 0 (p + 1) _ _ hd (by omega) (by omega) (by simp) (by omega), List.take_zero, List.nil_append]
    rw [hbl _ s1 s2, Option.bind_some, rangeL, if_pos (by have := idxs_len t.Sym a.Rules 0; have := ha.rul; omega)]
    simp only []
    rw [run_rules ha (fun k s p out hk h1 _ _ h4 h5 h6 => run_eq ha hbl n k s p out (hmem k hk).1 (hmem k hk).2 h1 h4 h5 h6) (fun k s hk h1 => (run_ok ha n k s [] (hmem k hk).1 (hmem k hk).2 h1).1) rfl hA.tail s3 (by omega) (by simp only [List.length_append, List.length_cons, List.length_nil]; omega) a.Rules 0 0 _ rfl]
    obtain ⟨x, e, _⟩ := find_of h
    rw [runF_eq, e]
    simp only []
    rw [List.append_assoc]; rfl
def runR (r : List Int) (a : Automaton) (t : Tree) : List Int × Int := match a.Final.find? (stT a t) with
  | some s => (runF a t s, 0)
  | none => ([], 8)
theorem Run_eq {n : Nat} {r : List Int} {a : Automaton} {t : Tree} (w : AW a) (hd : tdT t < n) (hw : twT t = true) (hf : fewB r a t = true) : auto_Run n ⟨r⟩ a t = some (if ask r a t = 0 then runR r a t else ([], ask r a t)) := by
  unfold auto_Run
  rw [asked_eq w hd hw, Option.bind_some]
  by_cases c : ask r a t = 0
  · rw [if_pos c, if_pos c]
    obtain ⟨hv1, hv2⟩ := ask_valid c
    have ha := ok_of hv1 hf
    obtain ⟨hr, hs, hsh⟩ := tvld_parts hv2
    obtain ⟨bl, eb, hbl⟩ := By_eq ha
    rw [eb, Option.bind_some, sets_eq ha hbl n t hd hsh hs, Option.bind_some, rangeL, if_pos (by have := ha.fin; omega)]
    have H : ∀ (l : List Int) (i : Nat), (∀ s ∈ l, 0 ≤ s ∧ s < a.States) → rangeC (fun i1 x1 (s1 : Unit) n1 =>
      ((setsF a t)[0]?).bind fun v4 =>
      (idx v4 x1).bind fun v5 =>
      if v5 = true then
        (auto_run n a bl t (setsF a t) 0 x1 ([] : List Int)).bind fun v6 =>
        some (v6, (0 : Int))
      else
        n1 ()) l i () (fun s1 => some (([] : List Int), (8 : Int))) = some (match l.find? (stT a t) with
        | some s => (runF a t s, 0)
        | none => ([], 8)) := by
      intro l
      induction l with
      | nil => intro i _; rfl
      | cons x l ih =>
        intro i hl
        obtain ⟨q1, q2⟩ := hl x (by simp)
        have e0 : (setsF a t)[0]? = some (rowT a t) := by rw [setsF_eq]; rfl
        rw [rangeC, e0, Option.bind_some, rowT_idx q1 q2, Option.bind_some, List.find?_cons]
        cases c : stT a t x with
        | true =>
          rw [if_pos rfl, show (0 : Int) = ((0 : Nat) : Int) from rfl, run_eq ha hbl n t x 0 [] hd hsh c (fun j _ => by rw [Nat.zero_add]) (by omega) (by simp; omega)]
          rfl
        | false =>
          rw [if_neg (by simp)]
          have ih' := ih (i + 1) (fun s hs => hl s (List.mem_cons_of_mem _ hs))
          rw [e0] at ih'
          exact ih'
    exact H a.Final 0 ha.fins
  · rw [if_neg c, if_neg c]
/-- Insert keeps what is there and adds one -/
theorem Insert_eq {n : Nat} {l : List Int} {x : Int} (hn : l.length + 1 ≤ n) (hl : l.length ≤ 1000) : ∃ l', ref03_Insert n l x = some l' ∧ (∀ y, y ∈ l' ↔ y ∈ l ∨ y = x) ∧ l'.length ≤ l.length + 1 := by
  unfold ref03_Insert whileL
  have W : ∀ (m i : Nat) (k : Int → Option (List Int)), i ≤ l.length → l.length - i + 1 ≤ m → ∃ j : Nat, j ≤ l.length ∧ whileC (fun (s1 : Int) n1 =>
    if s1 < (l.length : Int) then
      (idx l s1).bind fun v12 =>
      if v12 < x then
        n1 (w64 (s1 + 1))
      else
        k s1
    else
      k s1) m (i : Int) = k (j : Int) := by
    intro m
    induction m with
    | zero => intro i k _ h; omega
    | succ m ih =>
      intro i k hi hm
      rw [whileC]
      by_cases c : i < l.length
      · have e : idx l (i : Int) = some l[i] := by unfold idx; rw [if_pos (by omega), Int.toNat_natCast, List.getElem?_eq_getElem c]
        rw [if_pos (by omega), e, Option.bind_some]
        by_cases c2 : l[i] < x
        · rw [if_pos c2, w64_eq (by omega) (by omega), show ((i : Int) + 1) = ((i + 1 : Nat) : Int) by omega]
          exact ih (i + 1) k (by omega) (by omega)
        · rw [if_neg c2]; exact ⟨i, hi, rfl⟩
      · rw [if_neg (by omega)]; exact ⟨i, hi, rfl⟩
  obtain ⟨j, hj, e⟩ := W n 0 (fun s1 =>
  if s1 < (l.length : Int) then
    (idx l s1).bind fun v1 =>
    if v1 = x then
      some l
    else
      (slcT l s1).bind fun v2 =>
      (app 8 ([] : List Int) v2).bind fun v3 =>
      (app 8 v3 [x]).bind fun v4 =>
      (slcF l s1).bind fun v5 =>
      (app 8 v4 v5).bind fun v6 =>
      some v6
  else
    (slcT l s1).bind fun v7 =>
    (app 8 ([] : List Int) v7).bind fun v8 =>
    (app 8 v8 [x]).bind fun v9 =>
    (slcF l s1).bind fun v10 =>
    (app 8 v9 v10).bind fun v11 =>
    some v11) (by omega) (by omega)
  show ∃ l', whileC _ n ((0 : Nat) : Int) = some l' ∧ _
  rw [e]
  have eT : slcT l (j : Int) = some (l.take j) := by unfold slcT; rw [if_pos (by omega), Int.toNat_natCast]
  have eF : slcF l (j : Int) = some (l.drop j) := by unfold slcF; rw [if_pos (by omega), Int.toNat_natCast]
  have tl : (l.take j).length = j := by rw [List.length_take]; omega
  have dl : (l.drop j).length = l.length - j := List.length_drop ..
  have fin : ((slcT l (j : Int)).bind fun v2 =>
      (app 8 ([] : List Int) v2).bind fun v3 =>
      (app 8 v3 [x]).bind fun v4 =>
      (slcF l (j : Int)).bind fun v5 =>
      (app 8 v4 v5).bind fun v6 =>
      some v6) = some (l.take j ++ [x] ++ l.drop j) := by
    rw [eT, Option.bind_some, app_ok (by simp only [List.length_nil]; omega), Option.bind_some, List.nil_append, app_ok (by simp only [List.length_cons, List.length_nil]; omega), Option.bind_some, eF, Option.bind_some, app_ok (by simp only [List.length_append, List.length_cons, List.length_nil]; omega)]; rfl
  have res : ∃ l', some (l.take j ++ [x] ++ l.drop j) = some l' ∧ (∀ y, y ∈ l' ↔ y ∈ l ∨ y = x) ∧ l'.length ≤ l.length + 1 := by
    refine ⟨_, rfl, fun y => ?_, by simp only [List.length_append, List.length_cons, List.length_nil]; omega⟩
    conv => rhs; rw [← List.take_append_drop j l]
    simp only [List.mem_append, List.mem_singleton]
    constructor
    · rintro ((h | h) | h)
      · exact .inl (.inl h)
      · exact .inr h
      · exact .inl (.inr h)
    · rintro ((h | h) | h)
      · exact .inl (.inl h)
      · exact .inr h
      · exact .inl (.inr h)
  by_cases c : j < l.length
  · have e2 : idx l (j : Int) = some l[j] := by unfold idx; rw [if_pos (by omega), Int.toNat_natCast, List.getElem?_eq_getElem c]
    rw [if_pos (by omega), e2, Option.bind_some]
    by_cases c2 : l[j] = x
    · rw [if_pos c2]
      refine ⟨l, rfl, fun y => ⟨fun h => .inl h, fun h => ?_⟩, by omega⟩
      rcases h with h | rfl
      · exact h
      · rw [← c2]; exact List.getElem_mem c
    · rw [if_neg c2, fin]; exact res
  · rw [if_neg (by omega), fin]; exact res
/-- one state of each set -/
def inL : List (List Int) → List Int → Bool
  | [], _ => true
  | _ :: _, [] => true
  | A :: As, f :: fs => decide (f ∈ A) && inL As fs
theorem fits_while {A : List (List Int)} {F : List Int} (hA : A.length ≤ 1000) (hAl : ∀ x ∈ A, x.length ≤ 1000) {R : Type} (k : Bool × Int → Option R) : ∀ (As : List (List Int)) (fs : List Int) (i m : Nat) (b : Bool), A.drop i = As → F.drop i = fs → fs.length = As.length → As.length + 2 ≤ m →
    ∃ z, whileC (fun (s4 : Bool × Int) n4 =>
      if s4.1 = true then
        if s4.2 < (A.length : Int) then
          (idx A s4.2).bind fun v2 =>
          (idx F s4.2).bind fun v3 =>
          (ref03_In v2 v3).bind fun v4 =>
          n4 (v4, w64 (s4.2 + 1))
        else
          k (true, s4.2)
      else
        k (false, s4.2)) m (b, (i : Int)) = k (b && inL As fs, z)
  | As, fs, i, 0, b, _, _, _, hm => by omega
  | [], fs, i, m + 1, b, hd, _, _, hm => by
    have : A.length ≤ i := List.drop_eq_nil_iff.1 hd
    rw [whileC, inL, Bool.and_true]
    cases b with
    | false => exact ⟨_, by rw [if_neg (by simp)]⟩
    | true => exact ⟨_, by rw [if_pos rfl, if_neg (by simp only []; omega)]⟩
  | X :: As, [], i, m + 1, b, hd, hf, hl, hm => by cases hl
  | X :: As, f :: fs, i, m + 1, b, hd, hf, hl, hm => by
    have hi : i < A.length := by
      rcases Nat.lt_or_ge i A.length with h | h
      · exact h
      · rw [List.drop_eq_nil_of_le h] at hd; cases hd
    have hif : i < F.length := by
      rcases Nat.lt_or_ge i F.length with h | h
      · exact h
      · rw [List.drop_eq_nil_of_le h] at hf; cases hf
    rw [List.drop_eq_getElem_cons hi] at hd
    injection hd with hd1 hd2
    rw [List.drop_eq_getElem_cons hif] at hf
    injection hf with hf1 hf2
    rw [whileC, inL]
    cases b with
    | false => exact ⟨_, by rw [if_neg (by simp), Bool.false_and]⟩
    | true =>
      rw [if_pos rfl]
      simp only [Bool.true_and]
      have e1 : idx A (i : Int) = some X := by unfold idx; rw [if_pos (by omega), Int.toNat_natCast, List.getElem?_eq_getElem hi, hd1]
      have e2 : idx F (i : Int) = some f := by unfold idx; rw [if_pos (by omega), Int.toNat_natCast, List.getElem?_eq_getElem hif, hf1]
      have hX : X ∈ A := by rw [← hd1]; exact List.getElem_mem hi
      rw [if_pos (by omega), e1, Option.bind_some, e2, Option.bind_some, in_eq X f (by have := hAl X hX; omega), Option.bind_some, w64_eq (by omega) (by omega), show ((i : Int) + 1) = ((i + 1 : Nat) : Int) by omega]
      exact fits_while hA hAl k As fs (i + 1) m (decide (f ∈ X)) hd2 hf2 (by simpa using hl) (by simp only [List.length_cons] at hm; omega)
theorem Step_eq {r : List Int} {a : Automaton} (ha : OKa r a) {n : Nat} {s : Int} {A : List (List Int)} (hrk : (A.length : Int) = rk r s) (hA : A.length ≤ 300) (hAl : ∀ x ∈ A, x.length ≤ 1000) (hn : 302 ≤ n) :
    ∃ out, ref03_Step n a s A = some out ∧ (∀ y, y ∈ out ↔ ∃ x ∈ a.Rules, x.Sym = s ∧ x.To = y ∧ inL A x.From = true) ∧ out.length ≤ 60 := by
  have hrul := ha.rul
  unfold ref03_Step
  rw [rangeL, if_pos (by omega)]
  have H : ∀ (l : List Rule) (i : Nat) (o : List Int), (∀ x ∈ l, x ∈ a.Rules) → o.length + l.length ≤ 60 →
      ∃ out, rangeC (fun i3 x3 (s3 : (List Int)) n3 =>
    whileL n ((x3.Sym == s), 0) (fun k4 (s4 : Bool × Int) n4 =>
      if s4.1 = true then
        if s4.2 < (A.length : Int) then
          (idx A s4.2).bind fun v2 =>
          (idx x3.From s4.2).bind fun v3 =>
          (ref03_In v2 v3).bind fun v4 =>
          n4 (v4, w64 (s4.2 + 1))
        else
          k4 (true, s4.2)
      else
        k4 (false, s4.2)) fun s4 =>
    if s4.1 = true then
      (ref03_Insert n s3 x3.To).bind fun v1 =>
      n3 v1
    else
      n3 s3) l i o (fun s3 => some s3) = some out ∧ (∀ y, y ∈ out ↔ y ∈ o ∨ ∃ x ∈ l, x.Sym = s ∧ x.To = y ∧ inL A x.From = true) ∧ out.length ≤ 60 := by
    intro l
    induction l with
    | nil => intro i o _ h; exact ⟨o, rfl, fun y => by simp, by simpa using h⟩
    | cons x l ih =>
      intro i o hx hl
      have hmem := hx x (by simp)
      have hsy := ha.sym x hmem
      rw [List.length_cons] at hl
      have hW : ∀ k : Bool × Int → Option (List Int), ∃ z, whileC (fun (s4 : Bool × Int) n4 =>
      if s4.1 = true then
        if s4.2 < (A.length : Int) then
          (idx A s4.2).bind fun v2 =>
          (idx x.From s4.2).bind fun v3 =>
          (ref03_In v2 v3).bind fun v4 =>
          n4 (v4, w64 (s4.2 + 1))
        else
          k (true, s4.2)
      else
        k (false, s4.2)) n ((x.Sym == s), 0) = k (decide (x.Sym = s) && inL A x.From, z) := by
        intro k
        by_cases c : x.Sym = s
        · rw [decide_eq_true c, show (x.Sym == s) = true by simp [c]]
          have hfl : x.From.length = A.length := by have := hsy.2.2; rw [c] at this; omega
          exact fits_while (by omega) hAl k A x.From 0 n true rfl rfl hfl (by omega)
        · rw [decide_eq_false c, show (x.Sym == s) = false by simp [c], Bool.false_and]
          obtain ⟨n', rfl⟩ : ∃ n', n = n' + 1 := ⟨n - 1, by omega⟩
          exact ⟨0, by rw [whileC, if_neg (by simp)]⟩
      rw [rangeC, whileL]
      obtain ⟨z, e⟩ := hW (fun s4 =>
    if s4.1 = true then
      (ref03_Insert n o x.To).bind fun v1 =>
      (fun s' => rangeC (fun i3 x3 (s3 : (List Int)) n3 =>
    whileL n ((x3.Sym == s), 0) (fun k4 (s4 : Bool × Int) n4 =>
      if s4.1 = true then
        if s4.2 < (A.length : Int) then
          (idx A s4.2).bind fun v2 =>
          (idx x3.From s4.2).bind fun v3 =>
          (ref03_In v2 v3).bind fun v4 =>
          n4 (v4, w64 (s4.2 + 1))
        else
          k4 (true, s4.2)
      else
        k4 (false, s4.2)) fun s4 =>
    if s4.1 = true then
      (ref03_Insert n s3 x3.To).bind fun v1 =>
      n3 v1
    else
      n3 s3) l (i + 1) s' (fun s3 => some s3)) v1
    else
      (fun s' => rangeC (fun i3 x3 (s3 : (List Int)) n3 =>
    whileL n ((x3.Sym == s), 0) (fun k4 (s4 : Bool × Int) n4 =>
      if s4.1 = true then
        if s4.2 < (A.length : Int) then
          (idx A s4.2).bind fun v2 =>
          (idx x3.From s4.2).bind fun v3 =>
          (ref03_In v2 v3).bind fun v4 =>
          n4 (v4, w64 (s4.2 + 1))
        else
          k4 (true, s4.2)
      else
        k4 (false, s4.2)) fun s4 =>
    if s4.1 = true then
      (ref03_Insert n s3 x3.To).bind fun v1 =>
      n3 v1
    else
      n3 s3) l (i + 1) s' (fun s3 => some s3)) o)
      have hsplit : ∀ {o' : List Int} {out : List Int} (c : Bool), (∀ y, y ∈ o' ↔ y ∈ o ∨ (c = true ∧ y = x.To)) → c = (decide (x.Sym = s) && inL A x.From) → (∀ y, y ∈ out ↔ y ∈ o' ∨ ∃ x ∈ l, x.Sym = s ∧ x.To = y ∧ inL A x.From = true) → ∀ y, y ∈ out ↔ y ∈ o ∨ ∃ z ∈ x :: l, z.Sym = s ∧ z.To = y ∧ inL A z.From = true := by
        intro o' out c h1 hc h2 y
        rw [h2, h1]
        constructor
        · rintro ((h | ⟨h, rfl⟩) | ⟨z, hz, h⟩)
          · exact .inl h
          · rw [hc, Bool.and_eq_true, decide_eq_true_eq] at h
            exact .inr ⟨x, by simp, h.1, rfl, h.2⟩
          · exact .inr ⟨z, List.mem_cons_of_mem _ hz, h⟩
        · rintro (h | ⟨z, hz, h⟩)
          · exact .inl (.inl h)
          · rcases List.mem_cons.1 hz with rfl | hz
            · exact .inl (.inr ⟨by rw [hc, Bool.and_eq_true, decide_eq_true_eq]; exact ⟨h.1, h.2.2⟩, h.2.1.symm⟩)
            · exact .inr ⟨z, hz, h⟩
      cases c : (decide (x.Sym = s) && inL A x.From) with
      | true =>
        obtain ⟨o', eo, ho, hol⟩ := Insert_eq (n := n) (l := o) (x := x.To) (by omega) (by omega)
        obtain ⟨out, e2, h2, h3⟩ := ih (i + 1) o' (fun y hy => hx y (List.mem_cons_of_mem _ hy)) (by omega)
        refine ⟨out, ?_, hsplit true (fun y => by rw [ho]; simp) c.symm h2, h3⟩
        refine e.trans ?_
        rw [c]
        simp only [if_true]
        rw [eo, Option.bind_some]; exact e2
      | false =>
        obtain ⟨out, e2, h2, h3⟩ := ih (i + 1) o (fun y hy => hx y (List.mem_cons_of_mem _ hy)) (by omega)
        refine ⟨out, ?_, hsplit false (fun y => by simp) c.symm h2, h3⟩
        refine e.trans ?_
        rw [c]
        exact e2
  obtain ⟨out, e, h1, h2⟩ := H a.Rules 0 [] (fun _ h => h) (by simp; omega)
  exact ⟨out, e, fun y => by rw [h1]; simp, h2⟩
theorem Of_eq {r : List Int} {a : Automaton} (ha : OKa r a) : ∀ (n : Nat) (t : Tree), tdT t + 303 ≤ n → shT r t = true → tsT t ≤ 300 → ∃ l, ref03_Of n a t = some l ∧ (∀ q, q ∈ l ↔ stT a t q = true) ∧ l.length ≤ 60
  | 0, _, h, _, _ => by omega
  | n + 1, t, hd, hs, hl => by
    rw [tdT_eq] at hd
    have hts := tsT_eq t
    have htl := tlen t.Kids
    obtain ⟨s1, s2, s3, s4⟩ := sh_parts hs
    unfold ref03_Of
    rw [rangeL, if_pos (by omega)]
    have H : ∀ (ks : List Tree) (i : Nat) (acc : List (List Int)) (K : List (List Int) → Option (List Int)), tdL ks + 303 ≤ n + 1 → shL r ks = true → tsL ks ≤ 300 → acc.length + ks.length ≤ 1000 →
        ∃ A, rangeC (fun i1 x1 (s1 : (List (List Int))) n1 =>
      (ref03_Of n a x1).bind fun v2 =>
      (app 24 s1 [v2]).bind fun v3 =>
      n1 v3) ks i acc K = K (acc ++ A) ∧ A.length = ks.length ∧ (∀ x ∈ A, x.length ≤ 1000) ∧ ∀ f : List Int, inL A f = stL a ks f := by
      intro ks
      induction ks with
      | nil => intro i acc K _ _ _ _; refine ⟨[], by rw [rangeC, List.append_nil], rfl, (fun x h => by cases h), fun f => by rw [inL, stL]⟩
      | cons k ks ih =>
        intro i acc K h1 h2 h3 h4
        have hdk : tdT k + 1 ≤ tdL (k :: ks) := td_mem (by simp)
        have hdks : tdL ks ≤ tdL (k :: ks) := by rw [tdL]; omega
        obtain ⟨q1, q2⟩ := shL_cons h2
        rw [tsL] at h3
        rw [List.length_cons] at h4
        obtain ⟨v, ev, hv, hvl⟩ := Of_eq ha n k (by omega) q1 (by omega)
        obtain ⟨A, e, h5, h6, h7⟩ := ih (i + 1) (acc ++ [v]) K (by omega) q2 (by omega) (by simp only [List.length_append, List.length_cons, List.length_nil]; omega)
        refine ⟨v :: A, ?_, by rw [List.length_cons, List.length_cons, h5], fun x hx => ?_, fun f => ?_⟩
        · rw [rangeC, ev, Option.bind_some, app_ok (by simp only [List.length_cons, List.length_nil]; omega), Option.bind_some]
          show rangeC _ ks (i + 1) _ K = _
          rw [e, List.append_assoc]; rfl
        · rcases List.mem_cons.1 hx with rfl | hx
          · omega
          · exact h6 x hx
        · cases f with
          | nil => rw [inL, stL]
          | cons f fs =>
            rw [inL, stL, h7]
            congr 1
            by_cases c : f ∈ v
            · rw [decide_eq_true c, (hv f).1 c]
            · rw [decide_eq_false c]; exact (Bool.eq_false_iff.2 (fun h => c ((hv f).2 h))).symm
    obtain ⟨A, e, h5, h6, h7⟩ := H t.Kids 0 [] (fun s1 => (ref03_Step n a t.Sym s1).bind fun v1 => some v1) (by omega) s4 (by omega) (by simp; omega)
    obtain ⟨out, e2, h8, h9⟩ := Step_eq ha (n := n) (s := t.Sym) (A := A) (by rw [h5]; exact s3) (by omega) h6 (by omega)
    refine ⟨out, ?_, fun q => ?_, h9⟩
    · rw [e, List.nil_append, e2]; rfl
    · rw [h8, stT_eq, List.any_eq_true]
      constructor
      · rintro ⟨x, hx, g1, g2, g3⟩
        exact ⟨x, hx, by rw [← h7, g3, decide_eq_true ⟨g1, g2⟩]; rfl⟩
      · rintro ⟨x, hx, g⟩
        rw [Bool.and_eq_true, decide_eq_true_eq, ← h7] at g
        exact ⟨x, hx, g.1.1, g.1.2, g.2⟩
theorem Has_eq {r : List Int} {a : Automaton} (ha : OKa r a) {n : Nat} {t : Tree} (hd : tdT t + 303 ≤ n) (hs : shT r t = true) (hl : tsT t ≤ 300) : ref03_Has n a t = some (a.Final.find? (stT a t)).isSome := by
  obtain ⟨l, e, h1, h2⟩ := Of_eq ha n t hd hs hl
  unfold ref03_Has ref03_Meet
  rw [e, Option.bind_some, rangeL, if_pos (by omega)]
  have H : ∀ (l : List Int) (i : Nat), rangeC (fun i1 x1 (s1 : Unit) n1 =>
    (ref03_In a.Final x1).bind fun v1 =>
    if v1 = true then
      some true
    else
      n1 ()) l i () (fun s1 => some false) = some (l.any fun x => decide (x ∈ a.Final)) := by
    intro l
    induction l with
    | nil => intro i; rfl
    | cons x l ih =>
      intro i
      rw [rangeC, in_eq _ _ (by have := ha.fin; omega), Option.bind_some, List.any_cons]
      cases decide (x ∈ a.Final) with
      | true => rw [if_pos rfl, Bool.true_or]
      | false => rw [if_neg (by simp), Bool.false_or]; exact ih (i + 1)
  rw [H l 0, Option.bind_some]
  congr 1
  rw [Bool.eq_iff_iff, List.any_eq_true, List.find?_isSome]
  constructor
  · rintro ⟨x, hx, h⟩
    exact ⟨x, of_decide_eq_true h, (h1 x).1 hx⟩
  · rintro ⟨x, hx, h⟩
    exact ⟨x, (h1 x).2 h, decide_eq_true hx⟩
theorem awake_eq (m : Nat) : law03_awake (m + 40) = some true := by rfl
end Go.AM.S03

namespace Go.AM.S03
open Go Go.Proofs Go.AM
set_option linter.unusedVariables false
theorem twL_all : ∀ {l : List Tree}, (∀ x, x ∈ l → twT x = true) → twL l = true
  | [], _ => by rw [twL]
  | x :: r, h => by rw [twL, h x (by simp), twL_all (fun y hy => h y (List.mem_cons_of_mem _ hy))]; rfl
theorem d3 : (T.at 3).d = .int .i64 := rfl
theorem d30 : (T.at 30).d = .st [(0, 3), (1, 28)] := rfl
theorem d28 : (T.at 28).d = .sl 30 := rfl
theorem d22 : (T.at 22).d = .sl 3 := rfl
theorem d24 : (T.at 24).d = .st [(0, 22)] := rfl
theorem d25 : (T.at 25).d = .sl 83 := rfl
theorem d27 : (T.at 27).d = .st [(0, 3), (1, 22), (2, 25)] := rfl
theorem d83 : (T.at 83).d = .st [(0, 3), (1, 22), (2, 3)] := rfl
theorem sz3 : (T.at 3).size = 1 := rfl
theorem sz28 : (T.at 28).size = 1 := rfl
theorem sz30 : (T.at 30).size = 2 := rfl
theorem sz22 : (T.at 22).size = 1 := rfl
theorem sz24 : (T.at 24).size = 1 := rfl
theorem sz25 : (T.at 25).size = 1 := rfl
theorem sz27 : (T.at 27).size = 3 := rfl
theorem sz83 : (T.at 83).size = 3 := rfl
theorem wt30 : ∀ (n : Nat) (cs : List PV), wt T n 30 cs → ∃ x : Tree, cs = row_Tree x ∧ twT x = true := by
  intro n
  induction n using Nat.strongRecOn with
  | _ n ih =>
    intro cs h
    obtain ⟨m, rfl, h1, h2⟩ := wt_st d30 h
    rw [sz30] at h1
    match cs, h1 with
    | [c0, c1], _ =>
      have f0 := h2 (0, 3) (by simp)
      have f1 := h2 (1, 28) (by simp)
      simp only [sz3, sz28, List.drop_zero, List.drop_succ_cons, List.take_succ_cons, List.take_zero] at f0 f1
      obtain ⟨i, e0, _⟩ := wt_int d3 f0
      obtain ⟨xs, e1, hl, hx⟩ := wt_slM (row := row_Tree) (P := fun x => twT x = true) d28 f1 (fun m' r hm hr => ih m' (by omega) r hr)
      injection e0 with e0; subst e0
      injection e1 with e1; subst e1
      refine ⟨⟨i, xs⟩, by rw [row_Tree_eq, sz30], ?_⟩
      rw [twT, decide_eq_true hl, twL_all hx]; rfl
theorem wt22 {n : Nat} {cs : List PV} (h : wt T n 22 cs) : ∃ r : List Int, cs = [.sl none 1 (r.map rowI)] ∧ r.length < 9223372036854775808 := by
  obtain ⟨xs, e, hl, _⟩ := wt_slM (row := rowI) (P := fun _ => True) d22 h (fun m' r _ hr => by
    obtain ⟨i, e, _⟩ := wt_int d3 hr
    exact ⟨i, e, trivial⟩)
  rw [sz3] at e
  exact ⟨xs, e, hl⟩
theorem wt24 {n : Nat} {cs : List PV} (h : wt T n 24 cs) : ∃ r : List Int, cs = [.sl none 1 (r.map rowI)] := by
  obtain ⟨m, rfl, h1, h2⟩ := wt_st d24 h
  rw [sz24] at h1
  match cs, h1 with
  | [c0], _ =>
    have f0 := h2 (0, 22) (by simp)
    simp only [sz22, List.drop_zero, List.take_succ_cons, List.take_zero] at f0
    obtain ⟨r, e, _⟩ := wt22 f0
    exact ⟨r, e⟩
theorem wt83 {n : Nat} {cs : List PV} (h : wt T n 83 cs) : ∃ x : Rule, cs = row_Rule x ∧ x.From.length < 9223372036854775808 := by
  obtain ⟨m, rfl, h1, h2⟩ := wt_st d83 h
  rw [sz83] at h1
  match cs, h1 with
  | [c0, c1, c2], _ =>
    have f0 := h2 (0, 3) (by simp)
    have f1 := h2 (1, 22) (by simp)
    have f2 := h2 (2, 3) (by simp)
    simp only [sz3, sz22, List.drop_zero, List.drop_succ_cons, List.take_succ_cons, List.take_zero] at f0 f1 f2
    obtain ⟨i, e0, _⟩ := wt_int d3 f0
    obtain ⟨xs, e1, hl⟩ := wt22 f1
    obtain ⟨j, e2, _⟩ := wt_int d3 f2
    injection e0 with e0; subst e0
    injection e1 with e1; subst e1
    injection e2 with e2; subst e2
    exact ⟨⟨i, xs, j⟩, rfl, hl⟩
theorem wt27 {n : Nat} {cs : List PV} (h : wt T n 27 cs) : ∃ a : Automaton, cs = row_Automaton a ∧ AW a := by
  obtain ⟨m, rfl, h1, h2⟩ := wt_st d27 h
  rw [sz27] at h1
  match cs, h1 with
  | [c0, c1, c2], _ =>
    have f0 := h2 (0, 3) (by simp)
    have f1 := h2 (1, 22) (by simp)
    have f2 := h2 (2, 25) (by simp)
    simp only [sz3, sz22, sz25, List.drop_zero, List.drop_succ_cons, List.take_succ_cons, List.take_zero] at f0 f1 f2
    obtain ⟨i, e0, _⟩ := wt_int d3 f0
    obtain ⟨xs, e1, hl⟩ := wt22 f1
    obtain ⟨rs, e2, hl2, hx⟩ := wt_slM (row := row_Rule) (P := fun x => x.From.length < 9223372036854775808) d25 f2 (fun m' r _ hr => wt83 hr)
    injection e0 with e0; subst e0
    injection e1 with e1; subst e1
    injection e2 with e2; subst e2
    exact ⟨⟨i, xs, rs⟩, rfl, hl, hl2, hx⟩
theorem closed : closedB T [3, 22, 24, 25, 27, 28, 30, 83] = true := by decide +kernel
end Go.AM.S03

namespace Go.AM.S03
open Go Go.Proofs Go.AM
set_option linter.unusedVariables false
set_option maxRecDepth 100000
set_option maxHeartbeats 4000000
theorem wt22i {n : Nat} {cs : List PV} (h : wt T n 22 cs) : ∃ r : List Int, cs = [.sl none 1 (r.map rowI)] ∧ ∀ x ∈ r, I64 x := by
  obtain ⟨xs, e, hl, hx⟩ := wt_slM (row := rowI) (P := fun x => I64 x) d22 h (fun m' r _ hr => by
    obtain ⟨i, e, h1, h2⟩ := wt_int d3 hr
    exact ⟨i, e, h1, h2⟩)
  rw [sz3] at e
  exact ⟨xs, e, hx⟩
theorem ask_01 (r : List Int) (a : Automaton) (t : Tree) : ask r a t = 0 ∨ ask r a t = 1 := by
  unfold ask; split
  · exact .inl rfl
  · exact .inr rfl
theorem runR_I64 {r : List Int} {a : Automaton} (ha : OKa r a) : ∀ (n : Nat) (t : Tree) (q : Int), tdT t < n → I64 q → ∀ x ∈ runF a t q, I64 x
  | 0, _, _, h, _ => by omega
  | n + 1, t, q, hd, hq => by
    rw [tdT_eq] at hd
    have hst := ha.st
    have H : ∀ (ks : List Tree) (f : List Int), tdL ks < n + 1 → (∀ s ∈ f, 0 ≤ s ∧ s < a.States) → ∀ x ∈ runL a ks f, I64 x := by
      intro ks
      induction ks with
      | nil => intro f _ _ x hx; rw [runL] at hx; cases hx
      | cons k ks ih =>
        intro f h1 h2 x hx
        obtain ⟨d1, d2⟩ := tdL_cons h1
        cases f with
        | nil => rw [runL] at hx; cases hx
        | cons s f =>
          rw [runL] at hx
          rcases List.mem_append.1 hx with hx | hx
          · have := h2 s (by simp)
            exact runR_I64 ha n k s d1 (i64_small this.1 (by omega)) x hx
          · exact ih f d2 (fun y hy => h2 y (List.mem_cons_of_mem _ hy)) x hx
    intro x hx
    rw [runF_eq] at hx
    rcases List.mem_cons.1 hx with rfl | hx
    · exact hq
    · split at hx
      · rename_i y hy
        exact H _ _ hd (ha.from' y (List.mem_of_find?_eq_some hy)) x hx
      · cases hx
theorem runs_law (m : Nat) (r : List Int) (a : Automaton) (t : Tree) (l : List Int) (w : AW a) (hd : tdT t ≤ m) (hw : twT t = true) (hl : ∀ x ∈ l, I64 x) : law03_AutoRuns (m + 340) ⟨r⟩ a t l = some true := by
  have aw : law03_awake (m + 340) = some true := awake_eq (m + 300)
  unfold law03_AutoRuns
  rw [few_eq r a t w (by omega) hw, aw]
  simp only [Option.bind_some]
  by_cases c : fewB r a t = true
  · rw [if_pos c]
    by_cases c2 : (400 : Int) < l.length
    · rw [if_pos c2]
    rw [if_neg c2, Check_eq w (by omega) hw c hl (by omega), rCheck_eq w (by omega) hw c, Run_eq w (by omega) hw c]
    simp only [Option.bind_some, if_true]
    rcases ask_01 r a t with c3 | c3
    · obtain ⟨hv1, hv2⟩ := ask_valid c3
      have ha := ok_of hv1 c
      obtain ⟨hr, hs, hsh⟩ := tvld_parts hv2
      have hst := ha.st
      simp only [c3, if_true]
      rw [Has_eq ha (by omega) hsh hs, Option.bind_some]
      unfold runR
      cases hf : a.Final.find? (stT a t) with
      | none => rfl
      | some s =>
        have hs1 := List.find?_some hf
        have hs2 := List.mem_of_find?_eq_some hf
        have hb := ha.fins s hs2
        obtain ⟨g1, g2, g3⟩ := run_ok ha (tdT t + 1) t s [] (by omega) hsh hs1
        rw [List.append_nil] at g2
        have hR : isR a t (runF a t s) = true := by
          unfold isR
          rw [g1, g3, g2, decide_eq_true rfl, decide_eq_true hs2]; rfl
        simp only [Option.isSome_some, if_true]
        rw [Check_eq w (by omega) hw c (runR_I64 ha (tdT t + 1) t s (by omega) (i64_small hb.1 (by omega))) (by omega), IsRun_eq ha (by omega) hs]
        simp only [Option.bind_some, c3, if_true, hR]
    · simp only [c3]
      rfl
  · rw [if_neg c]
theorem law6 (pss : List (List PV)) (h : wtAll T [24, 27, 30, 22] pss) : ∃ σ', call Tryd.prog T H (.fn 6) (argsOf T [24, 27, 30, 22] pss) [] = some (.ret (.p (.lit (.bool true))), σ') := by
  obtain ⟨p1, r1, rfl, ⟨n1, w1⟩, p2, r2, rfl, ⟨n2, w2⟩, p3, r3, rfl, ⟨n3, w3⟩, p4, r4, rfl, ⟨n4, w4⟩, rfl⟩ := h
  obtain ⟨r, rfl⟩ := wt24 w1
  obtain ⟨a, rfl, ha⟩ := wt27 w2
  obtain ⟨x, rfl, hx⟩ := wt30 n3 p3 w3
  obtain ⟨l, rfl, hl⟩ := wt22i w4
  have := spec6 (tdT x + 340) ⟨r⟩ a x l true (runs_law (tdT x) r a x l ha (Nat.le_refl _) hx hl)
  rw [row_Tree_eq]
  exact ⟨[], this⟩
end Go.AM.S03

namespace Go.AM
open Go Go.ChangeShapes Go.RowKit
/-- one variable of those that are laid -/
theorem laidVars_one {P : Program} {W : World} {x : String × DataW Unit} : ∀ {l : List (String × DataW Unit)} {ps : List MemPlace}, DataW.LaidVars P W l ps → x ∈ l → ∃ qs, DataW.LaidVars P W [x] qs ∧ qs.Sublist ps
  | [], _, _, hx => by cases hx
  | (n, d) :: r, ps, ⟨g, t, cs, fuel, p, q, h1, h2, h3, h4, h5, h6⟩, hx => by
    rcases List.mem_cons.1 hx with rfl | hx
    · refine ⟨MemPlace.row ⟨g, 0, none⟩ cs.size ++ p ++ [], ⟨g, t, cs, fuel, p, [], h1, h2, h3, h4, rfl, rfl⟩, ?_⟩
      rw [h6]
      exact List.Sublist.append (List.Sublist.refl _) (List.nil_sublist q)
    · obtain ⟨qs, h7, h8⟩ := laidVars_one h5 hx
      exact ⟨qs, h7, by rw [h6]; exact h8.trans (List.sublist_append_right _ _)⟩
theorem laidMet_one {P : Program} {W : World} {x : String × DataW Unit} {l : List (String × DataW Unit)} (h : laidMet P l W) (hx : x ∈ l) : laidMet P [x] W := by
  obtain ⟨ps, h1, h2, h3⟩ := h
  obtain ⟨qs, h4, h5⟩ := laidVars_one h1 hx
  exact ⟨qs, h4, h2.sublist h5, fun b off hb => h3 b off (h5.subset hb)⟩
/-- a package variable: an array of unsigned numbers -/
theorem laid_arr {P : Program} {W : World} {name : String} {g t e n : Nat} {k : IntKind} {zs : List Int} (hg : P.globalNamed name = some g) (hty : (P.globals[g]?).map (·.type) = some t) (ht : P.underlying t = some (.array n e))
    (he : P.underlying e = some (.int k)) (c1 : P.cellsOf t = n) (c3 : P.cellsOf e = 1) (hn : zs.length = n) (hlit : ∀ z : Int, litOk (.int k z) = true)
    (h' : laidMet P [(name, .agg (zs.map fun z => .lit (.int k z)))] W) : RelPC (memOf W) (zs.map fun z => .lit (.int k z)) g 0 := by
  obtain ⟨ps, ⟨g', t', cs, fuel, p, q, hg', hty', hvar, hd, _, _⟩, _⟩ := h'
  obtain rfl := Option.some.inj (hg.symm.trans hg')
  obtain rfl := Option.some.inj (hty.symm.trans hty')
  obtain ⟨xs, m, hm, hx, hl, hxl, hf⟩ := DataW.trod_array ht hd
  rw [c1] at hl
  rw [c3] at hf
  injection hx with hx1 hx2
  injection hx1 with hx1
  refine RelPC.mk fun i c hi => ?_
  rw [List.getElem?_map] at hi
  obtain ⟨z, hz, rfl⟩ := Option.map_eq_some_iff.1 hi
  have hi' := (List.getElem?_eq_some_iff.1 hz).1
  have h1 := hf i (by omega)
  rw [List.getElem?_eq_getElem (by omega)] at h1
  obtain ⟨z', hz1, hz2, _⟩ := DataW.trod_int he h1
  have h6 : (zs.map fun z => (DataW.lit (.int k z) : DataW Unit))[i]? = (xs.map (·.1))[i]? := by rw [hx1]
  rw [List.getElem?_map, List.getElem?_map, List.getElem?_eq_getElem (by omega : i < xs.length), hz2, hz] at h6
  have h7 : z = z' := by simpa using h6
  subst h7
  refine ⟨.int k z, ?_, rfl, by unfold RelP; exact ⟨rfl, hlit z⟩⟩
  have h8 : cs.toList[i]? = some (.int k z) := by
    rw [Nat.mul_one] at hz1
    have : ((cs.toList.drop i).take 1)[0]? = some (.int k z) := by rw [hz1]; rfl
    rw [List.getElem?_take_of_lt (by omega), List.getElem?_drop] at this
    simpa using this
  have := World.var?_cell hg hvar i
  show W.cell? ⟨g, 0 + i, none⟩ = some (.int k z)
  rw [Nat.zero_add, this, ← Array.getElem?_toList]
  exact h8
end Go.AM

