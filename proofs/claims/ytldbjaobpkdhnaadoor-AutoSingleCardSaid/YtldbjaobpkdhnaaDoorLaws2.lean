/- What the functions of this seat compute on the abstract machine, function by function, and the plain laws. -/
import Derived.Test.YtldbjaobpkdhnaaDoorLaws
import Derived.KernelRfl
import Derived.Test.YtldbjaobpkdhnaaDoorAmEntry
set_option linter.unusedSimpArgs false
namespace Go.AM.S03
open Go Go.Proofs Go.AM
set_option linter.unusedVariables false
theorem w64_eq {n : Int} (h1 : -9223372036854775808 ≤ n) (h2 : n ≤ 9223372036854775807) : w64 n = n := wrapN h1 h2
theorem app_ok {α : Type} {b : Nat} {xs ys : List α} (h : (xs.length + ys.length) * b ≤ 70368744177664) : app b xs ys = some (xs ++ ys) := if_pos h
mutual
def tsT : Tree → Nat
  | .mk _ k => 1 + tsL k
def tsL : List Tree → Nat
  | [] => 0
  | x :: r => tsT x + tsL r
end
mutual
def tdT : Tree → Nat
  | .mk _ k => tdL k
def tdL : List Tree → Nat
  | [] => 0
  | x :: r => max (tdT x + 1) (tdL r)
end
mutual
def twT : Tree → Bool
  | .mk _ k => decide (k.length < 9223372036854775808) && twL k
def twL : List Tree → Bool
  | [] => true
  | x :: r => twT x && twL r
end
theorem tsT_eq (t : Tree) : tsT t = 1 + tsL t.Kids := by cases t; rw [tsT]
theorem tdT_eq (t : Tree) : tdT t = tdL t.Kids := by cases t; rw [tdT]
theorem twT_eq (t : Tree) : twT t = (decide (t.Kids.length < 9223372036854775808) && twL t.Kids) := by cases t; rw [twT]
theorem tlen : ∀ l : List Tree, l.length ≤ tsL l
  | [] => Nat.zero_le _
  | x :: r => by rw [tsL, List.length_cons, tsT_eq]; have := tlen r; omega
theorem tdL_cons {x : Tree} {r : List Tree} {n : Nat} (h : tdL (x :: r) < n + 1) : tdT x < n ∧ tdL r < n + 1 := by rw [tdL] at h; omega
theorem tcount_eq : ∀ (n : Nat) (t : Tree) (m : Int), tdT t < n → twT t = true → 0 ≤ m → m ≤ 1000000 → ref01_count n t m = some (min (tsT t : Int) (m + 1)) := by
  intro n
  induction n with
  | zero => intro t m hd; omega
  | succ n ih =>
    intro t m hd hw h1 h2
    rw [twT_eq] at hw
    simp only [Bool.and_eq_true, decide_eq_true_eq] at hw
    rw [tdT_eq] at hd
    rw [ref01_count, rangeL, if_pos hw.1]
    suffices H : ∀ (l : List Tree) (i : Nat) (c : Nat) (k : Int → Option Int), 1 ≤ c → tdL l < n + 1 → twL l = true → rangeC (fun i1 x1 (s1 : Int) n1 => if s1 ≤ m then (ref01_count n x1 (w64 (m - s1))).bind fun v1 => n1 (w64 (s1 + v1)) else n1 s1) l i (min (c : Int) (m + 1)) k = k (min ((c + tsL l : Nat) : Int) (m + 1)) by
      have := H t.Kids 0 1 (fun s => some s) (by omega) hd hw.2
      rw [show min ((1 : Nat) : Int) (m + 1) = 1 by omega] at this
      rw [this, tsT_eq]
    intro l
    induction l with
    | nil => intro i c k _ _ _; rw [rangeC, tsL]; rfl
    | cons x r ihr =>
      intro i c k hc hd hw
      obtain ⟨d1, d2⟩ := tdL_cons hd
      rw [twL, Bool.and_eq_true] at hw
      rw [rangeC]
      by_cases cc : min (c : Int) (m + 1) ≤ m
      · rw [if_pos cc]
        have e : min (c : Int) (m + 1) = c := by omega
        rw [e, w64_eq (n := m - c) (by omega) (by omega), ih x _ d1 hw.1 (by omega) (by omega)]
        show rangeC _ r (i + 1) (w64 (c + min (tsT x : Int) (m - c + 1))) k = _
        rw [w64_eq (by omega) (by omega)]
        have := ihr (i + 1) (c + tsT x) k (by omega) d2 hw.2
        rw [show (c : Int) + min (tsT x : Int) (m - c + 1) = min ((c + tsT x : Nat) : Int) (m + 1) by omega, this, tsL]
        congr 2; omega
      · rw [if_neg cc]
        show rangeC _ r (i + 1) (min (c : Int) (m + 1)) k = _
        have := ihr (i + 1) (c + tsT x) k (by omega) d2 hw.2
        rw [show min (c : Int) (m + 1) = min ((c + tsT x : Nat) : Int) (m + 1) by omega, this, tsL]
        congr 2; omega
theorem tfew_eq {n : Nat} {t : Tree} {m : Int} (hd : tdT t < n) (hw : twT t = true) (h1 : 0 ≤ m) (h2 : m ≤ 1000000) : ref01_Few n t m = some (decide ((tsT t : Int) ≤ m)) := by
  rw [ref01_Few, tcount_eq n t m hd hw h1 h2]
  show some _ = some _
  congr 1
  exact decide_eq_decide.2 (by omega)
theorem ref01_Size_eq : ∀ (n : Nat) (t : Tree), tdT t < n → tsT t ≤ 1000000 → ref01_Size n t = some (tsT t : Int) := by
  intro n
  induction n with
  | zero => intro t hd; omega
  | succ n ih =>
    intro t hd hs
    rw [tdT_eq] at hd
    have hlen := tlen t.Kids
    rw [tsT_eq] at hs
    rw [ref01_Size, rangeL, if_pos (by omega)]
    suffices H : ∀ (l : List Tree) (i : Nat) (s : Int) (k : Int → Option Int), tdL l < n + 1 → 1 ≤ s → s + tsL l ≤ 1000001 → rangeC (fun i1 x1 (s1 : Int) n1 => (ref01_Size n x1).bind fun v1 => n1 (w64 (s1 + v1))) l i s k = k (s + tsL l) by
      rw [H t.Kids 0 1 _ hd (by omega) (by omega), tsT_eq]
      congr 1
    intro l
    induction l with
    | nil => intro i s k _ _ _; rw [rangeC, tsL]; congr 1; simp
    | cons x r ihr =>
      intro i s k hd h0 h1
      obtain ⟨d1, d2⟩ := tdL_cons hd
      rw [tsL] at h1
      rw [rangeC, ih x d1 (by omega)]
      simp only [Option.bind_some]
      rw [w64_eq (by omega) (by omega), ihr _ _ _ d2 (by omega) (by omega), tsL]
      congr 1; omega
def rk (r : List Int) (s : Int) : Int := (r[s.toNat]?).getD 0
theorem rk_get {r : List Int} {s : Int} (h0 : 0 ≤ s) (h1 : s < r.length) : idx r s = some (rk r s) := by
  unfold idx rk
  rw [if_pos h0, List.getElem?_eq_getElem (by omega)]; rfl
mutual
def shT (r : List Int) : Tree → Bool
  | .mk s k => decide (0 ≤ s ∧ s < r.length ∧ (k.length : Int) = rk r s) && shL r k
def shL (r : List Int) : List Tree → Bool
  | [] => true
  | x :: q => shT r x && shL r q
end
theorem shT_eq (r : List Int) (t : Tree) : shT r t = (decide (0 ≤ t.Sym ∧ t.Sym < r.length ∧ (t.Kids.length : Int) = rk r t.Sym) && shL r t.Kids) := by cases t; rw [shT]
theorem tw_out {t : Tree} (h : twT t = true) : t.Kids.length < 9223372036854775808 ∧ twL t.Kids = true := by
  rw [twT_eq] at h; simpa only [Bool.and_eq_true, decide_eq_true_eq] using h
theorem tw_cons {x : Tree} {q : List Tree} (h : twL (x :: q) = true) : twT x = true ∧ twL q = true := by
  rw [twL] at h; simpa only [Bool.and_eq_true] using h
theorem tformed_eq (r : List Int) : ∀ (n : Nat) (t : Tree) (m : Int), tdT t < n → twT t = true → 0 ≤ m → m ≤ 1000000 →
    (((tsT t : Int) ≤ m ∧ shT r t = true) ∧ tree_formed n ⟨r⟩ t m = some (true, m - tsT t)) ∨ (¬ ((tsT t : Int) ≤ m ∧ shT r t = true) ∧ ∃ v, tree_formed n ⟨r⟩ t m = some (false, v)) := by
  intro n
  induction n with
  | zero => intro t m hd; omega
  | succ n ih =>
    intro t m hd hw h1 h2
    obtain ⟨w1, w2⟩ := tw_out hw
    rw [tree_formed, shT_eq, tsT_eq]
    simp only [Bool.and_eq_true, decide_eq_true_eq]
    have e1 : w64 (m - 1) = m - 1 := w64_eq (by omega) (by omega)
    rw [e1]
    by_cases c1 : m - 1 < 0
    · exact .inr ⟨by omega, _, by rw [if_pos c1]⟩
    rw [if_neg c1]
    by_cases c2 : t.Sym < 0
    · exact .inr ⟨by omega, _, by rw [if_pos c2]⟩
    rw [if_neg c2]
    by_cases c3 : (r.length : Int) ≤ t.Sym
    · exact .inr ⟨by omega, _, by rw [if_pos c3]⟩
    rw [if_neg c3, rk_get (by omega) (by omega)]
    simp only [Option.bind_some]
    by_cases c4 : (t.Kids.length : Int) = rk r t.Sym
    · rw [if_pos c4]
      rw [rangeL, if_pos w1]
      rw [tdT_eq] at hd
      suffices H : ∀ (l : List Tree) (i : Nat) (s : Int), tdL l < n + 1 → twL l = true → 0 ≤ s → s ≤ 1000000 →
        (((tsL l : Int) ≤ s ∧ shL r l = true) ∧ ∀ k : Int → Option (Bool × Int), rangeC (fun i1 x1 (s1 : Int) n1 => (tree_formed n ⟨r⟩ x1 s1).bind fun v2 => if v2.1 = true then n1 v2.2 else some (false, v2.2)) l i s k = k (s - tsL l)) ∨
        (¬ ((tsL l : Int) ≤ s ∧ shL r l = true) ∧ ∃ v, ∀ k : Int → Option (Bool × Int), rangeC (fun i1 x1 (s1 : Int) n1 => (tree_formed n ⟨r⟩ x1 s1).bind fun v2 => if v2.1 = true then n1 v2.2 else some (false, v2.2)) l i s k = some (false, v)) by
        rcases H t.Kids 0 (m - 1) hd w2 (by omega) (by omega) with ⟨c, e⟩ | ⟨c, v, e⟩
        · exact .inl ⟨⟨by omega, ⟨by omega, by omega, c4⟩, c.2⟩, by rw [e]; congr 2; omega⟩
        · exact .inr ⟨fun hh => c ⟨by omega, hh.2.2⟩, v, e _⟩
      intro l
      induction l with
      | nil => intro i s _ _ h1 h2; exact .inl ⟨⟨by rw [tsL]; exact h1, by rw [shL]⟩, fun k => by rw [rangeC, tsL]; congr 1; simp⟩
      | cons x q ihr =>
        intro i s hd hw h1 h2
        obtain ⟨d1, d2⟩ := tdL_cons hd
        obtain ⟨v1, v2⟩ := tw_cons hw
        rw [tsL, shL]
        simp only [Bool.and_eq_true, rangeC]
        rcases ih x s d1 v1 h1 h2 with ⟨c, e⟩ | ⟨c, v, e⟩
        · rcases ihr (i + 1) (s - tsT x) d2 v2 (by omega) (by omega) with ⟨c', e'⟩ | ⟨c', v, e'⟩
          · exact .inl ⟨⟨by omega, c.2, c'.2⟩, fun k => by rw [e]; simp only [Option.bind_some, if_true]; rw [e' k]; congr 1; omega⟩
          · exact .inr ⟨fun hh => c' ⟨by omega, hh.2.2⟩, v, fun k => by rw [e]; simp only [Option.bind_some, if_true]; rw [e' k]⟩
        · exact .inr ⟨fun hh => c ⟨by omega, hh.2.1⟩, v, fun k => by rw [e]; rfl⟩
    · rw [if_neg c4]
      exact .inr ⟨fun hh => c4 hh.2.1.2.2, _, rfl⟩
theorem shaped_eq (r : List Int) : ∀ (n : Nat) (t : Tree), tdT t < n → twT t = true → ref01_shaped n ⟨r⟩ t = some (shT r t) := by
  intro n
  induction n with
  | zero => intro t hd; omega
  | succ n ih =>
    intro t hd hw
    obtain ⟨w1, w2⟩ := tw_out hw
    rw [ref01_shaped, shT_eq]
    by_cases c2 : t.Sym < 0
    · rw [if_pos c2, decide_eq_false (by omega)]; rfl
    rw [if_neg c2]
    by_cases c3 : (r.length : Int) ≤ t.Sym
    · simp only [] at c3 ⊢
      rw [if_pos c3, decide_eq_false (by omega)]; rfl
    have c3' : ¬ (r.length : Int) ≤ t.Sym := c3
    rw [if_neg c3, show idx (Alphabet.mk r).Ranks t.Sym = some (rk r t.Sym) from rk_get (r := r) (Int.not_lt.1 c2) (Int.not_le.1 c3')]
    simp only [Option.bind_some]
    by_cases c4 : (t.Kids.length : Int) = rk r t.Sym
    · rw [if_pos c4, rangeL, if_pos w1, decide_eq_true ⟨Int.not_lt.1 c2, Int.not_le.1 c3', c4⟩, Bool.true_and]
      rw [tdT_eq] at hd
      suffices H : ∀ (l : List Tree) (i : Nat), tdL l < n + 1 → twL l = true → rangeC (fun i1 x1 (s1 : Unit) n1 => (ref01_shaped n ⟨r⟩ x1).bind fun v2 => if v2 = true then n1 () else some false) l i () (fun _ => some true) = some (shL r l) from H t.Kids 0 hd w2
      intro l
      induction l with
      | nil => intro i _ _; rw [rangeC, shL]
      | cons x q ihr =>
        intro i hd hw
        obtain ⟨d1, d2⟩ := tdL_cons hd
        obtain ⟨v1, v2⟩ := tw_cons hw
        rw [rangeC, ih x d1 v1, shL]
        simp only [Option.bind_some]
        cases shT r x with
        | true => rw [if_pos rfl, ihr (i + 1) d2 v2]; rfl
        | false => rfl
    · rw [if_neg c4, decide_eq_false (fun hh => c4 hh.2.2)]; rfl
def vA (r : List Int) : Bool := decide (r.length ≤ 12) && r.all fun x => decide (0 ≤ x ∧ x ≤ 3)
theorem hvA (r : List Int) : tree_ValidAlphabet ⟨r⟩ = some (vA r) := by
  unfold tree_ValidAlphabet vA
  simp only []
  by_cases c : (r.length : Int) ≤ 12
  · rw [if_pos c, decide_eq_true (by omega : r.length ≤ 12), Bool.true_and]
    simp only [jn]
    rw [rangeL, if_pos (by omega)]
    suffices H : ∀ (l : List Int) (i : Nat), rangeC (fun i1 (x1 : Int) (s1 : Unit) n1 => (tree_ValidAlphabet_1 x1).bind fun v1 => if v1 = true then some (!decide ((0 : Int) ≤ (i1 : Int))) else n1 ()) l i () (fun _ => some (!decide ((0 : Int) ≤ -1))) = some (l.all fun x => decide (0 ≤ x ∧ x ≤ 3)) from H r 0
    intro l
    induction l with
    | nil => intro i; rw [rangeC]; rfl
    | cons x q ih =>
      intro i
      rw [rangeC, List.all_cons]
      unfold tree_ValidAlphabet_1
      by_cases c1 : x < 0
      · rw [if_pos c1, decide_eq_false (by omega : ¬ (0 ≤ x ∧ x ≤ 3))]
        simp only [Option.bind_some, if_true]
        rw [decide_eq_true (by omega : (0 : Int) ≤ (i : Int))]; rfl
      · rw [if_neg c1]
        simp only [Option.bind_some]
        by_cases c2 : 3 < x
        · rw [decide_eq_true c2, decide_eq_false (by omega : ¬ (0 ≤ x ∧ x ≤ 3)), if_pos rfl, decide_eq_true (by omega : (0 : Int) ≤ (i : Int))]; rfl
        · rw [decide_eq_false c2, decide_eq_true (by omega : 0 ≤ x ∧ x ≤ 3), if_neg (by decide), Bool.true_and]
          exact ih (i + 1)
  · rw [if_neg c, decide_eq_false (by omega : ¬ r.length ≤ 12)]; rfl
theorem rvA (r : List Int) : ref01_ValidAlphabet ⟨r⟩ = some (vA r) := by
  unfold ref01_ValidAlphabet vA
  simp only []
  by_cases c : 12 < (r.length : Int)
  · rw [if_pos c, decide_eq_false (by omega : ¬ r.length ≤ 12)]; rfl
  · rw [if_neg c, decide_eq_true (by omega : r.length ≤ 12), Bool.true_and, rangeL, if_pos (by omega)]
    suffices H : ∀ (l : List Int) (i : Nat), rangeC (fun i1 (x1 : Int) (s1 : Unit) n1 => if x1 < 0 then some false else if 3 < x1 then some false else n1 ()) l i () (fun _ => some true) = some (l.all fun x => decide (0 ≤ x ∧ x ≤ 3)) from H r 0
    intro l
    induction l with
    | nil => intro i; rw [rangeC]; rfl
    | cons x q ih =>
      intro i
      rw [rangeC, List.all_cons]
      by_cases c1 : x < 0
      · rw [if_pos c1, decide_eq_false (by omega : ¬ (0 ≤ x ∧ x ≤ 3))]; rfl
      · rw [if_neg c1]
        by_cases c2 : 3 < x
        · rw [if_pos c2, decide_eq_false (by omega : ¬ (0 ≤ x ∧ x ≤ 3))]; rfl
        · rw [if_neg c2, decide_eq_true (by omega : 0 ≤ x ∧ x ≤ 3), Bool.true_and]
          exact ih (i + 1)
def tvld (r : List Int) (t : Tree) : Bool := vA r && (decide ((tsT t : Int) ≤ 300) && shT r t)
theorem tvalid_eq (r : List Int) {n : Nat} {t : Tree} (hd : tdT t < n) (hw : twT t = true) : tree_Valid n ⟨r⟩ t = some (tvld r t) := by
  unfold tree_Valid tvld
  rw [hvA]
  simp only [Option.bind_some]
  cases vA r with
  | false => rfl
  | true =>
    rw [if_pos rfl, Bool.true_and]
    rcases tformed_eq r n t 300 hd hw (by omega) (by omega) with ⟨c, e⟩ | ⟨c, v, e⟩
    · rw [e, decide_eq_true c.1, c.2]; rfl
    · rw [e]
      simp only [Option.bind_some]
      congr 1
      cases h1 : shT r t with
      | false => simp
      | true => rw [decide_eq_false (fun h2 => c ⟨h2, h1⟩)]; rfl
theorem rtvalid_eq (r : List Int) {n : Nat} {t : Tree} (hd : tdT t < n) (hw : twT t = true) : ref01_Valid n ⟨r⟩ t = some (tvld r t) := by
  unfold ref01_Valid tvld
  rw [rvA]
  simp only [Option.bind_some]
  cases vA r with
  | false => rfl
  | true =>
    rw [if_pos rfl, Bool.true_and, tfew_eq hd hw (by omega) (by omega)]
    simp only [Option.bind_some]
    by_cases c3 : (tsT t : Int) ≤ 300
    · rw [decide_eq_true c3, if_pos rfl, shaped_eq r n t hd hw]; rfl
    · rw [decide_eq_false c3]; rfl
set_option linter.unusedVariables false
set_option linter.unusedVariables false
end Go.AM.S03
namespace Go.AM.S03
open Go Go.Proofs Go.AM
set_option linter.unusedVariables false
def allI {α : Type} (ok : Nat → α → Bool) : Nat → List α → Bool
  | _, [] => true
  | i, x :: r => ok i x && allI ok (i + 1) r
theorem chk {α R : Type} {body : Nat → α → Unit → (Unit → Option R) → Option R} {ok : Nat → α → Bool} {f : Option R} : ∀ (l : List α) (i : Nat) (k : Unit → Option R), (∀ j x n1, l[j]? = some x → body (i + j) x () n1 = if ok (i + j) x = true then n1 () else f) →
    rangeC body l i () k = if allI ok i l = true then k () else f
  | [], i, k, _ => by rw [rangeC, allI, if_pos rfl]
  | x :: l, i, k, h => by
    have h0 := h 0 x (fun u => rangeC body l (i + 1) u k) rfl
    rw [Nat.add_zero] at h0
    rw [rangeC, allI]
    rw [show (fun s' => rangeC body l (i + 1) s' k) = (fun u => rangeC body l (i + 1) u k) from rfl, h0]
    cases hk : ok i x with
    | false => simp
    | true =>
      simp only [if_true, Bool.true_and]
      exact chk l (i + 1) k (fun j y n1 hj => by have := h (j + 1) y n1 (by simpa using hj); rwa [show i + (j + 1) = i + 1 + j by omega] at this)
theorem allI_all {α : Type} {ok : α → Bool} : ∀ (l : List α) (i : Nat), allI (fun _ x => ok x) i l = l.all ok
  | [], _ => rfl
  | x :: l, i => by rw [allI, allI_all l, List.all_cons]
def stOk (m s : Int) : Bool := decide (0 ≤ s ∧ s < m)
def rOk (r : List Int) (m : Int) (x : Rule) : Bool := decide (0 ≤ x.Sym ∧ x.Sym < r.length ∧ (x.From.length : Int) = rk r x.Sym) && (stOk m x.To && x.From.all (stOk m))
def fOk (F : List Int) (m : Int) (i : Nat) (x : Int) : Bool := stOk m x && (decide (i = 0) || decide ((F[i - 1]?).getD 0 < x))
def aV (r : List Int) (a : Automaton) : Bool := vA r && (decide (0 ≤ a.States ∧ a.States ≤ 300 ∧ (a.Rules.length : Int) ≤ 20000) && (allI (fOk a.Final a.States) 0 a.Final && a.Rules.all (rOk r a.States)))
structure AW (a : Automaton) : Prop where
  fin : a.Final.length < 9223372036854775808
  rul : a.Rules.length < 9223372036854775808
  frm : ∀ x ∈ a.Rules, x.From.length < 9223372036854775808
theorem idx_prev {F : List Int} {i : Nat} {x : Int} (h : F[i]? = some x) (hi : 0 < i) (hl : F.length < 9223372036854775808) : idx F (w64 ((i : Int) - 1)) = some ((F[i - 1]?).getD 0) := by
  have hlt := (List.getElem?_eq_some_iff.1 h).1
  rw [w64_eq (by omega) (by omega)]
  unfold idx
  rw [if_pos (by omega), show ((i : Int) - 1).toNat = i - 1 by omega, List.getElem?_eq_getElem (by omega)]
  rfl
theorem rauto_eq (r : List Int) (a : Automaton) (w : AW a) : ref03_Valid ⟨r⟩ a = some (aV r a) := by
  unfold ref03_Valid aV
  rw [rvA]
  simp only [Option.bind_some]
  cases vA r with
  | false => rfl
  | true =>
    simp only [if_true, Bool.true_and]
    by_cases c1 : a.States < 0
    · rw [if_pos c1, decide_eq_false (by omega)]; rfl
    rw [if_neg c1]
    by_cases c2 : 300 < a.States
    · rw [if_pos c2, decide_eq_false (by omega)]; rfl
    rw [if_neg c2]
    by_cases c3 : 20000 < (a.Rules.length : Int)
    · rw [if_pos c3, decide_eq_false (by omega)]; rfl
    rw [if_neg c3, decide_eq_true (by omega), Bool.true_and]
    rw [rangeL, if_pos w.fin]
    rw [chk (ok := fOk a.Final a.States) (f := some false) a.Final 0 _ (fun j x n1 hj => by
      rw [Nat.zero_add]
      unfold fOk stOk
      by_cases d1 : x < 0
      · rw [if_pos d1, decide_eq_false (show ¬ (0 ≤ x ∧ x < a.States) from fun h => by omega)]; rfl
      rw [if_neg d1]
      by_cases d2 : a.States ≤ x
      · rw [if_pos d2, decide_eq_false (show ¬ (0 ≤ x ∧ x < a.States) from fun h => by omega)]; rfl
      rw [if_neg d2, decide_eq_true (show 0 ≤ x ∧ x < a.States by omega), Bool.true_and]
      by_cases d3 : 0 < (j : Int)
      · rw [if_pos d3, idx_prev hj (by omega) w.fin, decide_eq_false (show ¬ j = 0 by omega), Bool.false_or]
        simp only [Option.bind_some]
        by_cases d4 : x ≤ (a.Final[j - 1]?).getD 0
        · rw [if_pos d4, decide_eq_false (by omega)]; rfl
        · rw [if_neg d4, decide_eq_true (by omega)]; rfl
      · rw [if_neg d3, decide_eq_true (show j = 0 by omega)]; rfl)]
    cases allI (fOk a.Final a.States) 0 a.Final with
    | false => rfl
    | true =>
      simp only [if_true, Bool.true_and]
      rw [rangeL, if_pos w.rul]
      rw [chk (ok := fun _ x => rOk r a.States x) (f := some false) a.Rules 0 _ (fun j x n1 hj => by
        have hx := List.mem_of_getElem? hj
        unfold rOk
        by_cases d1 : x.Sym < 0
        · rw [if_pos d1, decide_eq_false (fun h => by omega)]; rfl
        rw [if_neg d1]
        by_cases d2 : (r.length : Int) ≤ x.Sym
        · rw [if_pos d2, decide_eq_false (fun h => by omega)]; rfl
        rw [if_neg d2, rk_get (by omega) (by omega)]
        simp only [Option.bind_some]
        by_cases d3 : (x.From.length : Int) = rk r x.Sym
        · rw [if_pos d3, decide_eq_true (show 0 ≤ x.Sym ∧ x.Sym < (r.length : Int) ∧ (x.From.length : Int) = rk r x.Sym from ⟨by omega, by omega, d3⟩), Bool.true_and]
          by_cases d4 : x.To < 0
          · rw [if_pos d4, show stOk a.States x.To = false from decide_eq_false (fun h => by omega)]; rfl
          rw [if_neg d4]
          by_cases d5 : a.States ≤ x.To
          · rw [if_pos d5, show stOk a.States x.To = false from decide_eq_false (fun h => by omega)]; rfl
          rw [if_neg d5, show stOk a.States x.To = true from decide_eq_true ⟨by omega, by omega⟩, Bool.true_and, rangeL, if_pos (w.frm x hx)]
          rw [chk (ok := fun _ s => stOk a.States s) (f := some false) x.From 0 _ (fun j y n1 _ => by
            unfold stOk
            by_cases e1 : y < 0
            · rw [if_pos e1, decide_eq_false (fun h => by omega)]; rfl
            rw [if_neg e1]
            by_cases e2 : a.States ≤ y
            · rw [if_pos e2, decide_eq_false (fun h => by omega)]; rfl
            rw [if_neg e2, decide_eq_true ⟨by omega, by omega⟩]; rfl), allI_all]
        · rw [if_neg d3, decide_eq_false (show ¬ (0 ≤ x.Sym ∧ x.Sym < (r.length : Int) ∧ (x.From.length : Int) = rk r x.Sym) from fun h => d3 h.2.2)]; rfl), allI_all]
      cases a.Rules.all (rOk r a.States) <;> rfl
end Go.AM.S03
namespace Go.AM.S03
open Go Go.Proofs Go.AM
set_option linter.unusedVariables false
set_option maxRecDepth 100000
theorem wrap_u64 {n : Int} (h1 : 0 ≤ n) (h2 : n < 18446744073709551616) : IntKind.u64.wrap n = n := by
  have : IntKind.u64.wrap n = n % 18446744073709551616 := rfl
  rw [this]; omega
theorem wrap_u32 {n : Int} (h1 : 0 ≤ n) (h2 : n < 4294967296) : IntKind.u32.wrap n = n := by
  have : IntKind.u32.wrap n = n % 4294967296 := rfl
  rw [this]; omega
theorem wrap_u8 {n : Int} (h1 : 0 ≤ n) (h2 : n < 256) : IntKind.u8.wrap n = n := by
  have : IntKind.u8.wrap n = n % 256 := rfl
  rw [this]; omega
def LEN : Str := [0, 1, 2, 2, 3, 3, 3, 3, 4, 4, 4, 4, 4, 4, 4, 4, 5, 5, 5, 5, 5, 5, 5, 5, 5, 5, 5, 5, 5, 5, 5, 5, 6, 6, 6, 6, 6, 6, 6, 6, 6, 6, 6, 6, 6, 6, 6, 6, 6, 6, 6, 6, 6, 6, 6, 6, 6, 6, 6, 6, 6, 6, 6, 6, 7, 7, 7, 7, 7, 7, 7, 7, 7, 7, 7, 7, 7, 7, 7, 7, 7, 7, 7, 7, 7, 7, 7, 7, 7, 7, 7, 7, 7, 7, 7, 7, 7, 7, 7, 7, 7, 7, 7, 7, 7, 7, 7, 7, 7, 7, 7, 7, 7, 7, 7, 7, 7, 7, 7, 7, 7, 7, 7, 7, 7, 7, 7, 7, 8, 8, 8, 8, 8, 8, 8, 8, 8, 8, 8, 8, 8, 8, 8, 8, 8, 8, 8, 8, 8, 8, 8, 8, 8, 8, 8, 8, 8, 8, 8, 8, 8, 8, 8, 8, 8, 8, 8, 8, 8, 8, 8, 8, 8, 8, 8, 8, 8, 8, 8, 8, 8, 8, 8, 8, 8, 8, 8, 8, 8, 8, 8, 8, 8, 8, 8, 8, 8, 8, 8, 8, 8, 8, 8, 8, 8, 8, 8, 8, 8, 8, 8, 8, 8, 8, 8, 8, 8, 8, 8, 8, 8, 8, 8, 8, 8, 8, 8, 8, 8, 8, 8, 8, 8, 8, 8, 8, 8, 8, 8, 8, 8, 8, 8, 8, 8, 8, 8, 8, 8, 8, 8, 8, 8, 8, 8, 8]
def TAB : Str := [48, 48, 48, 49, 48, 50, 48, 51, 48, 52, 48, 53, 48, 54, 48, 55, 48, 56, 48, 57, 49, 48, 49, 49, 49, 50, 49, 51, 49, 52, 49, 53, 49, 54, 49, 55, 49, 56, 49, 57, 50, 48, 50, 49, 50, 50, 50, 51, 50, 52, 50, 53, 50, 54, 50, 55, 50, 56, 50, 57, 51, 48, 51, 49, 51, 50, 51, 51, 51, 52, 51, 53, 51, 54, 51, 55, 51, 56, 51, 57, 52, 48, 52, 49, 52, 50, 52, 51, 52, 52, 52, 53, 52, 54, 52, 55, 52, 56, 52, 57, 53, 48, 53, 49, 53, 50, 53, 51, 53, 52, 53, 53, 53, 54, 53, 55, 53, 56, 53, 57, 54, 48, 54, 49, 54, 50, 54, 51, 54, 52, 54, 53, 54, 54, 54, 55, 54, 56, 54, 57, 55, 48, 55, 49, 55, 50, 55, 51, 55, 52, 55, 53, 55, 54, 55, 55, 55, 56, 55, 57, 56, 48, 56, 49, 56, 50, 56, 51, 56, 52, 56, 53, 56, 54, 56, 55, 56, 56, 56, 57, 57, 48, 57, 49, 57, 50, 57, 51, 57, 52, 57, 53, 57, 54, 57, 55, 57, 56, 57, 57]
theorem len_all : ∀ i : Fin 256, ((idx LEN ((i.val : Nat) : Int)).map fun b => decide (b.toNat ≤ 8 ∧ i.val < 2 ^ b.toNat)) = some true := by decide +kernel
theorem len_at {x : Int} (h0 : 0 ≤ x) (h1 : x < 256) : ∃ b : UInt8, idx LEN x = some b ∧ b.toNat ≤ 8 ∧ x < 2 ^ b.toNat := by
  obtain ⟨n, rfl⟩ : ∃ n : Nat, x = n := ⟨x.toNat, by omega⟩
  have := len_all ⟨n, by omega⟩
  simp only at this
  cases hb : idx LEN (n : Int) with
  | none => rw [hb] at this; cases this
  | some b =>
    rw [hb, Option.map_some] at this
    injection this with this
    have := of_decide_eq_true this
    exact ⟨b, rfl, this.1, by exact_mod_cast this.2⟩
theorem tab_all : ∀ i : Fin 100, ((idx TAB ((i.val * 2 + 1 : Nat) : Int)).map fun b => decide (b.toNat = 48 + i.val % 10)) = some true ∧ ((idx TAB ((i.val * 2 : Nat) : Int)).map fun b => decide (b.toNat = 48 + i.val / 10)) = some true := by decide +kernel
theorem tab1 {x : Int} (h0 : 0 ≤ x) (h1 : x < 100) : ∃ b : UInt8, idx TAB (IntKind.u32.wrap (IntKind.u32.wrap (x * 2) + 1)) = some b ∧ (b.toNat : Int) = 48 + x % 10 := by
  rw [wrap_u32 (n := x * 2) (by omega) (by omega), wrap_u32 (by omega) (by omega)]
  obtain ⟨n, rfl⟩ : ∃ n : Nat, x = n := ⟨x.toNat, by omega⟩
  have := (tab_all ⟨n, by omega⟩).1
  simp only at this
  rw [show ((n : Int) * 2 + 1) = ((n * 2 + 1 : Nat) : Int) by omega]
  cases hb : idx TAB ((n * 2 + 1 : Nat) : Int) with
  | none => rw [hb] at this; cases this
  | some b =>
    rw [hb, Option.map_some] at this
    injection this with this
    have := of_decide_eq_true this
    exact ⟨b, rfl, by omega⟩
theorem tab0 {x : Int} (h0 : 0 ≤ x) (h1 : x < 100) : ∃ b : UInt8, idx TAB (IntKind.u32.wrap (x * 2)) = some b ∧ (b.toNat : Int) = 48 + x / 10 := by
  rw [wrap_u32 (n := x * 2) (by omega) (by omega)]
  obtain ⟨n, rfl⟩ : ∃ n : Nat, x = n := ⟨x.toNat, by omega⟩
  have := (tab_all ⟨n, by omega⟩).2
  simp only at this
  rw [show ((n : Int) * 2) = ((n * 2 : Nat) : Int) by omega]
  cases hb : idx TAB ((n * 2 : Nat) : Int) with
  | none => rw [hb] at this; cases this
  | some b =>
    rw [hb, Option.map_some] at this
    injection this with this
    have := of_decide_eq_true this
    exact ⟨b, rfl, by omega⟩
theorem shr32 {n : Int} : shrI .u64 n 32 = n / 4294967296 := by
  show n.fdiv 4294967296 = _
  rw [Int.fdiv_eq_ediv_of_nonneg _ (by omega)]
theorem shr16 {n : Int} : shrI .u64 n 16 = n / 65536 := by
  show n.fdiv 65536 = _
  rw [Int.fdiv_eq_ediv_of_nonneg _ (by omega)]
theorem shr8 {n : Int} : shrI .u64 n 8 = n / 256 := by
  show n.fdiv 256 = _
  rw [Int.fdiv_eq_ediv_of_nonneg _ (by omega)]
theorem len_get {x : Int} {c : Int} {s : Nat} (h0 : 0 ≤ x) (h1 : x < 256) (hc : c = s) (hs : s ≤ 56) : ∃ b : Nat, ((idx LEN (IntKind.u8.wrap x)).bind fun v : UInt8 => some (w64 (c + IntKind.i64.wrap (v.toNat : Int)))) = some (b : Int) ∧ b ≤ s + 8 ∧ ∃ k : Nat, k ≤ 8 ∧ b = s + k ∧ x < 2 ^ k := by
  rw [wrap_u8 h0 h1]
  obtain ⟨v, hv, h2, h3⟩ := len_at h0 h1
  rw [hv, Option.bind_some, wrap_id (n := (v.toNat : Int)) (by omega) (by omega), w64_eq (by omega) (by omega)]
  exact ⟨s + v.toNat, by rw [hc]; push_cast; rfl, by omega, v.toNat, h2, rfl, h3⟩
theorem pow_split (s k : Nat) : (2 : Int) ^ (s + k) = 2 ^ s * 2 ^ k := Int.pow_add 2 s k
theorem Len64_eq {u : Int} (h0 : 0 ≤ u) (h1 : u < 18446744073709551616) : ∃ b : Nat, math_bits_Len64 u = some (b : Int) ∧ b ≤ 64 ∧ u < 2 ^ b := by
  have fin : ∀ {x : Int} {c : Int} {s : Nat} {A : Option Int}, A = ((idx LEN (IntKind.u8.wrap x)).bind fun v : UInt8 => some (w64 (c + IntKind.i64.wrap (v.toNat : Int)))) → 0 ≤ x → x < 256 → c = s → s ≤ 56 → (∀ y : Int, x < y → u < 2 ^ s * y) → ∃ b : Nat, A = some (b : Int) ∧ b ≤ 64 ∧ u < 2 ^ b := by
    intro x c s A hA h0 h1 hc hs hy
    obtain ⟨b, e, hb, k, hk, rfl, hx⟩ := len_get h0 h1 hc hs
    exact ⟨s + k, by rw [hA, e], by omega, by rw [pow_split]; exact hy _ hx⟩
  unfold math_bits_Len64
  rw [shr32, shr16, shr16, shr8, shr8, shr8, shr8]
  by_cases c1 : 4294967296 ≤ u
  · rw [if_pos c1]
    by_cases c2 : 65536 ≤ u / 4294967296
    · rw [if_pos c2]
      by_cases c3 : 256 ≤ u / 4294967296 / 65536
      · rw [if_pos c3]
        exact fin (s := 56) rfl (by omega) (by omega) rfl (by omega) (fun y hy => by omega)
      · rw [if_neg c3]
        exact fin (s := 48) rfl (by omega) (by omega) rfl (by omega) (fun y hy => by omega)
    · rw [if_neg c2]
      by_cases c3 : 256 ≤ u / 4294967296
      · rw [if_pos c3]
        exact fin (s := 40) rfl (by omega) (by omega) rfl (by omega) (fun y hy => by omega)
      · rw [if_neg c3]
        exact fin (s := 32) rfl (by omega) (by omega) rfl (by omega) (fun y hy => by omega)
  · rw [if_neg c1]
    by_cases c2 : 65536 ≤ u
    · rw [if_pos c2]
      by_cases c3 : 256 ≤ u / 65536
      · rw [if_pos c3]
        exact fin (s := 24) rfl (by omega) (by omega) rfl (by omega) (fun y hy => by omega)
      · rw [if_neg c3]
        exact fin (s := 16) rfl (by omega) (by omega) rfl (by omega) (fun y hy => by omega)
    · rw [if_neg c2]
      by_cases c3 : 256 ≤ u
      · rw [if_pos c3]
        exact fin (s := 8) rfl (by omega) (by omega) rfl (by omega) (fun y hy => by omega)
      · rw [if_neg c3]
        exact fin (s := 0) rfl (by omega) (by omega) rfl (by omega) (fun y hy => by omega)
theorem log_all : ∀ b : Fin 65, ((internal_strconv_log10Pow2 ((b.val : Nat) : Int)).bind fun t => (idx pow10L t).map fun p => decide (0 ≤ t ∧ t ≤ 19 ∧ p = 10 ^ t.toNat ∧ 2 ^ b.val ≤ p * 10)) = some true := by decide +kernel
theorem numDigits_eq {u : Int} (h0 : 0 ≤ u) (h1 : u < 18446744073709551616) : ∃ d : Nat, internal_strconv_numDigits u = some (d : Int) ∧ d ≤ 20 ∧ u < 10 ^ d := by
  obtain ⟨b, hb, hb64, hub⟩ := Len64_eq h0 h1
  unfold internal_strconv_numDigits
  rw [hb, Option.bind_some]
  have h := log_all ⟨b, by omega⟩
  simp only at h
  cases ht : internal_strconv_log10Pow2 (b : Int) with
  | none => rw [ht] at h; cases h
  | some t =>
    rw [ht, Option.bind_some] at h
    rw [Option.bind_some]
    cases hp : idx pow10L t with
    | none => rw [hp] at h; cases h
    | some p =>
      rw [hp, Option.map_some] at h
      injection h with h
      obtain ⟨t0, t19, hp10, h2⟩ := of_decide_eq_true h
      rw [Option.bind_some]
      unfold internal_strconv_bool2_int
      obtain ⟨m, rfl⟩ : ∃ m : Nat, t = m := ⟨t.toNat, by omega⟩
      rw [Int.toNat_natCast] at hp10
      by_cases c : p ≤ u
      · rw [decide_eq_true c, if_pos rfl, Option.bind_some, w64_eq (by omega) (by omega)]
        refine ⟨m + 1, rfl, by omega, ?_⟩
        have : (10 : Int) ^ (m + 1) = 10 ^ m * 10 := Int.pow_succ 10 m
        rw [this, ← hp10]
        omega
      · rw [decide_eq_false c, if_neg (by simp), Option.bind_some, w64_eq (by omega) (by omega)]
        exact ⟨m, by simp, by omega, by rw [← hp10]; omega⟩
end Go.AM.S03
namespace Go.AM.S03
open Go Go.Proofs Go.AM
set_option linter.unusedVariables false
set_option maxRecDepth 100000
set_option maxHeartbeats 4000000
def fbBody (l0 : Nat) (k1 : Int × Int × (List Int) → Option (List Int)) (s1 : Int × Int × (List Int)) (n1 : Int × Int × (List Int) → Option (List Int)) : Option (List Int) :=
    if 8 ≤ s1.2.1 then
      (idx TAB (IntKind.u32.wrap ((IntKind.u32.wrap ((Int.tmod (Int.tmod (IntKind.u32.wrap (Int.tmod s1.1 100000000)) 10000) 100) * 2)) + 1))).bind fun v21 =>
      (idx TAB (IntKind.u32.wrap ((Int.tmod (Int.tmod (IntKind.u32.wrap (Int.tmod s1.1 100000000)) 10000) 100) * 2))).bind fun v22 =>
      (idxM l0 s1.2.2 (w64 (s1.2.1 - 1))).bind fun v23 =>
      (idxM l0 (List.set s1.2.2 ((w64 (s1.2.1 - 1)).toNat) (v21.toNat : Int)) (w64 (s1.2.1 - 2))).bind fun v24 =>
      (idx TAB (IntKind.u32.wrap ((IntKind.u32.wrap ((IntKind.u32.wrap (Int.tdiv (Int.tmod (IntKind.u32.wrap (Int.tmod s1.1 100000000)) 10000) 100)) * 2)) + 1))).bind fun v25 =>
      (idx TAB (IntKind.u32.wrap ((IntKind.u32.wrap (Int.tdiv (Int.tmod (IntKind.u32.wrap (Int.tmod s1.1 100000000)) 10000) 100)) * 2))).bind fun v26 =>
      (idxM l0 (List.set (List.set s1.2.2 ((w64 (s1.2.1 - 1)).toNat) (v21.toNat : Int)) ((w64 (s1.2.1 - 2)).toNat) (v22.toNat : Int)) (w64 (s1.2.1 - 3))).bind fun v27 =>
      (idxM l0 (List.set (List.set (List.set s1.2.2 ((w64 (s1.2.1 - 1)).toNat) (v21.toNat : Int)) ((w64 (s1.2.1 - 2)).toNat) (v22.toNat : Int)) ((w64 (s1.2.1 - 3)).toNat) (v25.toNat : Int)) (w64 (s1.2.1 - 4))).bind fun v28 =>
      (idx TAB (IntKind.u32.wrap ((IntKind.u32.wrap ((Int.tmod (IntKind.u32.wrap (Int.tdiv (IntKind.u32.wrap (Int.tmod s1.1 100000000)) 10000)) 100) * 2)) + 1))).bind fun v29 =>
      (idx TAB (IntKind.u32.wrap ((Int.tmod (IntKind.u32.wrap (Int.tdiv (IntKind.u32.wrap (Int.tmod s1.1 100000000)) 10000)) 100) * 2))).bind fun v30 =>
      (idxM l0 (List.set (List.set (List.set (List.set s1.2.2 ((w64 (s1.2.1 - 1)).toNat) (v21.toNat : Int)) ((w64 (s1.2.1 - 2)).toNat) (v22.toNat : Int)) ((w64 (s1.2.1 - 3)).toNat) (v25.toNat : Int)) ((w64 (s1.2.1 - 4)).toNat) (v26.toNat : Int)) (w64 (s1.2.1 - 5))).bind fun v31 =>
      (idxM l0 (List.set (List.set (List.set (List.set (List.set s1.2.2 ((w64 (s1.2.1 - 1)).toNat) (v21.toNat : Int)) ((w64 (s1.2.1 - 2)).toNat) (v22.toNat : Int)) ((w64 (s1.2.1 - 3)).toNat) (v25.toNat : Int)) ((w64 (s1.2.1 - 4)).toNat) (v26.toNat : Int)) ((w64 (s1.2.1 - 5)).toNat) (v29.toNat : Int)) (w64 (s1.2.1 - 6))).bind fun v32 =>
      (idx TAB (IntKind.u32.wrap ((IntKind.u32.wrap ((IntKind.u32.wrap (Int.tdiv (IntKind.u32.wrap (Int.tdiv (IntKind.u32.wrap (Int.tmod s1.1 100000000)) 10000)) 100)) * 2)) + 1))).bind fun v33 =>
      (idx TAB (IntKind.u32.wrap ((IntKind.u32.wrap (Int.tdiv (IntKind.u32.wrap (Int.tdiv (IntKind.u32.wrap (Int.tmod s1.1 100000000)) 10000)) 100)) * 2))).bind fun v34 =>
      (idxM l0 (List.set (List.set (List.set (List.set (List.set (List.set s1.2.2 ((w64 (s1.2.1 - 1)).toNat) (v21.toNat : Int)) ((w64 (s1.2.1 - 2)).toNat) (v22.toNat : Int)) ((w64 (s1.2.1 - 3)).toNat) (v25.toNat : Int)) ((w64 (s1.2.1 - 4)).toNat) (v26.toNat : Int)) ((w64 (s1.2.1 - 5)).toNat) (v29.toNat : Int)) ((w64 (s1.2.1 - 6)).toNat) (v30.toNat : Int)) (w64 (s1.2.1 - 7))).bind fun v35 =>
      (idxM l0 (List.set (List.set (List.set (List.set (List.set (List.set (List.set s1.2.2 ((w64 (s1.2.1 - 1)).toNat) (v21.toNat : Int)) ((w64 (s1.2.1 - 2)).toNat) (v22.toNat : Int)) ((w64 (s1.2.1 - 3)).toNat) (v25.toNat : Int)) ((w64 (s1.2.1 - 4)).toNat) (v26.toNat : Int)) ((w64 (s1.2.1 - 5)).toNat) (v29.toNat : Int)) ((w64 (s1.2.1 - 6)).toNat) (v30.toNat : Int)) ((w64 (s1.2.1 - 7)).toNat) (v33.toNat : Int)) (w64 (s1.2.1 - 8))).bind fun v36 =>
      n1 (IntKind.u64.wrap (Int.tdiv s1.1 100000000), w64 (s1.2.1 - 8), (List.set (List.set (List.set (List.set (List.set (List.set (List.set (List.set s1.2.2 ((w64 (s1.2.1 - 1)).toNat) (v21.toNat : Int)) ((w64 (s1.2.1 - 2)).toNat) (v22.toNat : Int)) ((w64 (s1.2.1 - 3)).toNat) (v25.toNat : Int)) ((w64 (s1.2.1 - 4)).toNat) (v26.toNat : Int)) ((w64 (s1.2.1 - 5)).toNat) (v29.toNat : Int)) ((w64 (s1.2.1 - 6)).toNat) (v30.toNat : Int)) ((w64 (s1.2.1 - 7)).toNat) (v33.toNat : Int)) ((w64 (s1.2.1 - 8)).toNat) (v34.toNat : Int)))
    else
      k1 (s1.1, s1.2.1, s1.2.2)
def fbTail (l0 : Nat) (s1 : Int × Int × (List Int)) : Option (List Int) :=
  if 4 ≤ s1.2.1 then
    (idx TAB (IntKind.u32.wrap ((IntKind.u32.wrap ((Int.tmod (Int.tmod (IntKind.u32.wrap s1.1) 10000) 100) * 2)) + 1))).bind fun v1 =>
    (idx TAB (IntKind.u32.wrap ((Int.tmod (Int.tmod (IntKind.u32.wrap s1.1) 10000) 100) * 2))).bind fun v2 =>
    (idxM l0 s1.2.2 (w64 (s1.2.1 - 1))).bind fun v3 =>
    (idxM l0 (List.set s1.2.2 ((w64 (s1.2.1 - 1)).toNat) (v1.toNat : Int)) (w64 (s1.2.1 - 2))).bind fun v4 =>
    (idx TAB (IntKind.u32.wrap ((IntKind.u32.wrap ((IntKind.u32.wrap (Int.tdiv (Int.tmod (IntKind.u32.wrap s1.1) 10000) 100)) * 2)) + 1))).bind fun v5 =>
    (idx TAB (IntKind.u32.wrap ((IntKind.u32.wrap (Int.tdiv (Int.tmod (IntKind.u32.wrap s1.1) 10000) 100)) * 2))).bind fun v6 =>
    (idxM l0 (List.set (List.set s1.2.2 ((w64 (s1.2.1 - 1)).toNat) (v1.toNat : Int)) ((w64 (s1.2.1 - 2)).toNat) (v2.toNat : Int)) (w64 (s1.2.1 - 3))).bind fun v7 =>
    (idxM l0 (List.set (List.set (List.set s1.2.2 ((w64 (s1.2.1 - 1)).toNat) (v1.toNat : Int)) ((w64 (s1.2.1 - 2)).toNat) (v2.toNat : Int)) ((w64 (s1.2.1 - 3)).toNat) (v5.toNat : Int)) (w64 (s1.2.1 - 4))).bind fun v8 =>
    if 2 ≤ (w64 (s1.2.1 - 4)) then
      (idx TAB (IntKind.u32.wrap ((IntKind.u32.wrap ((Int.tmod (IntKind.u32.wrap (Int.tdiv (IntKind.u32.wrap s1.1) 10000)) 100) * 2)) + 1))).bind fun v9 =>
      (idx TAB (IntKind.u32.wrap ((Int.tmod (IntKind.u32.wrap (Int.tdiv (IntKind.u32.wrap s1.1) 10000)) 100) * 2))).bind fun v10 =>
      (idxM l0 (List.set (List.set (List.set (List.set s1.2.2 ((w64 (s1.2.1 - 1)).toNat) (v1.toNat : Int)) ((w64 (s1.2.1 - 2)).toNat) (v2.toNat : Int)) ((w64 (s1.2.1 - 3)).toNat) (v5.toNat : Int)) ((w64 (s1.2.1 - 4)).toNat) (v6.toNat : Int)) (w64 ((w64 (s1.2.1 - 4)) - 1))).bind fun v11 =>
      (idxM l0 (List.set (List.set (List.set (List.set (List.set s1.2.2 ((w64 (s1.2.1 - 1)).toNat) (v1.toNat : Int)) ((w64 (s1.2.1 - 2)).toNat) (v2.toNat : Int)) ((w64 (s1.2.1 - 3)).toNat) (v5.toNat : Int)) ((w64 (s1.2.1 - 4)).toNat) (v6.toNat : Int)) ((w64 ((w64 (s1.2.1 - 4)) - 1)).toNat) (v9.toNat : Int)) (w64 ((w64 (s1.2.1 - 4)) - 2))).bind fun v12 =>
      if 0 < (w64 ((w64 (s1.2.1 - 4)) - 2)) then
        (idxM l0 (List.set (List.set (List.set (List.set (List.set (List.set s1.2.2 ((w64 (s1.2.1 - 1)).toNat) (v1.toNat : Int)) ((w64 (s1.2.1 - 2)).toNat) (v2.toNat : Int)) ((w64 (s1.2.1 - 3)).toNat) (v5.toNat : Int)) ((w64 (s1.2.1 - 4)).toNat) (v6.toNat : Int)) ((w64 ((w64 (s1.2.1 - 4)) - 1)).toNat) (v9.toNat : Int)) ((w64 ((w64 (s1.2.1 - 4)) - 2)).toNat) (v10.toNat : Int)) 0).bind fun v13 =>
        some (List.set (List.set (List.set (List.set (List.set (List.set (List.set s1.2.2 ((w64 (s1.2.1 - 1)).toNat) (v1.toNat : Int)) ((w64 (s1.2.1 - 2)).toNat) (v2.toNat : Int)) ((w64 (s1.2.1 - 3)).toNat) (v5.toNat : Int)) ((w64 (s1.2.1 - 4)).toNat) (v6.toNat : Int)) ((w64 ((w64 (s1.2.1 - 4)) - 1)).toNat) (v9.toNat : Int)) ((w64 ((w64 (s1.2.1 - 4)) - 2)).toNat) (v10.toNat : Int)) 0 (IntKind.u8.wrap (IntKind.u32.wrap (48 + (IntKind.u32.wrap (Int.tdiv (IntKind.u32.wrap (Int.tdiv (IntKind.u32.wrap s1.1) 10000)) 100))))))
      else
        some (List.set (List.set (List.set (List.set (List.set (List.set s1.2.2 ((w64 (s1.2.1 - 1)).toNat) (v1.toNat : Int)) ((w64 (s1.2.1 - 2)).toNat) (v2.toNat : Int)) ((w64 (s1.2.1 - 3)).toNat) (v5.toNat : Int)) ((w64 (s1.2.1 - 4)).toNat) (v6.toNat : Int)) ((w64 ((w64 (s1.2.1 - 4)) - 1)).toNat) (v9.toNat : Int)) ((w64 ((w64 (s1.2.1 - 4)) - 2)).toNat) (v10.toNat : Int))
    else
      if 0 < (w64 (s1.2.1 - 4)) then
        (idxM l0 (List.set (List.set (List.set (List.set s1.2.2 ((w64 (s1.2.1 - 1)).toNat) (v1.toNat : Int)) ((w64 (s1.2.1 - 2)).toNat) (v2.toNat : Int)) ((w64 (s1.2.1 - 3)).toNat) (v5.toNat : Int)) ((w64 (s1.2.1 - 4)).toNat) (v6.toNat : Int)) 0).bind fun v14 =>
        some (List.set (List.set (List.set (List.set (List.set s1.2.2 ((w64 (s1.2.1 - 1)).toNat) (v1.toNat : Int)) ((w64 (s1.2.1 - 2)).toNat) (v2.toNat : Int)) ((w64 (s1.2.1 - 3)).toNat) (v5.toNat : Int)) ((w64 (s1.2.1 - 4)).toNat) (v6.toNat : Int)) 0 (IntKind.u8.wrap (IntKind.u32.wrap (48 + (IntKind.u32.wrap (Int.tdiv (IntKind.u32.wrap s1.1) 10000))))))
      else
        some (List.set (List.set (List.set (List.set s1.2.2 ((w64 (s1.2.1 - 1)).toNat) (v1.toNat : Int)) ((w64 (s1.2.1 - 2)).toNat) (v2.toNat : Int)) ((w64 (s1.2.1 - 3)).toNat) (v5.toNat : Int)) ((w64 (s1.2.1 - 4)).toNat) (v6.toNat : Int))
  else
    if 2 ≤ s1.2.1 then
      (idx TAB (IntKind.u32.wrap ((IntKind.u32.wrap ((Int.tmod (IntKind.u32.wrap s1.1) 100) * 2)) + 1))).bind fun v15 =>
      (idx TAB (IntKind.u32.wrap ((Int.tmod (IntKind.u32.wrap s1.1) 100) * 2))).bind fun v16 =>
      (idxM l0 s1.2.2 (w64 (s1.2.1 - 1))).bind fun v17 =>
      (idxM l0 (List.set s1.2.2 ((w64 (s1.2.1 - 1)).toNat) (v15.toNat : Int)) (w64 (s1.2.1 - 2))).bind fun v18 =>
      if 0 < (w64 (s1.2.1 - 2)) then
        (idxM l0 (List.set (List.set s1.2.2 ((w64 (s1.2.1 - 1)).toNat) (v15.toNat : Int)) ((w64 (s1.2.1 - 2)).toNat) (v16.toNat : Int)) 0).bind fun v19 =>
        some (List.set (List.set (List.set s1.2.2 ((w64 (s1.2.1 - 1)).toNat) (v15.toNat : Int)) ((w64 (s1.2.1 - 2)).toNat) (v16.toNat : Int)) 0 (IntKind.u8.wrap (IntKind.u32.wrap (48 + (IntKind.u32.wrap (Int.tdiv (IntKind.u32.wrap s1.1) 100))))))
      else
        some (List.set (List.set s1.2.2 ((w64 (s1.2.1 - 1)).toNat) (v15.toNat : Int)) ((w64 (s1.2.1 - 2)).toNat) (v16.toNat : Int))
    else
      if 0 < s1.2.1 then
        (idxM l0 s1.2.2 0).bind fun v20 =>
        some (List.set s1.2.2 0 (IntKind.u8.wrap (IntKind.u32.wrap (48 + (IntKind.u32.wrap s1.1)))))
      else
        some s1.2.2
theorem fb_eq (n : Nat) (a0 : List Int) (l0 : Nat) (a1 : Int) : internal_strconv_formatBase10_mx n a0 l0 a1 = whileL n (a1, (l0 : Int), a0) (fbBody l0) (fbTail l0) := rfl
/-- the value of a row of digits -/
def vl : List Int → Int
  | [] => 0
  | c :: r => (c - 48) * 10 ^ r.length + vl r
structure DI (U : Int) (nd : Nat) (u : Int) (i : Nat) (a : List Int) : Prop where
  len : a.length = 24
  hn : nd ≤ 20
  hi : i ≤ nd
  u0 : 0 ≤ u
  ui : u < 10 ^ i
  val : U = u * 10 ^ (nd - i) + vl ((a.take nd).drop i)
  dig : ∀ c ∈ (a.take nd).drop i, 48 ≤ c ∧ c ≤ 57
theorem drop_set_self {l : List Int} {k : Nat} {c : Int} (h : k < l.length) : (l.set k c).drop k = c :: l.drop (k + 1) := by
  rw [List.drop_eq_getElem_cons (by rw [List.length_set]; exact h)]
  congr 1
  · simp
  · rw [List.drop_set_of_lt (by omega)]
theorem DI.step {U : Int} {nd : Nat} {u : Int} {k : Nat} {a : List Int} (h : DI U nd u (k + 1) a) : DI U nd (u / 10) k (a.set k (48 + u % 10)) := by
  have hk : k < nd := h.hi
  have hn := h.hn
  have hlen := h.len
  have hl : (a.take nd).length = nd := by rw [List.length_take]; omega
  have e : ((a.set k (48 + u % 10)).take nd).drop k = (48 + u % 10) :: (a.take nd).drop (k + 1) := by
    rw [List.take_set, drop_set_self (by rw [hl]; exact hk)]
  have hp : (10 : Int) ^ (k + 1) = 10 ^ k * 10 := Int.pow_succ 10 k
  have hu := h.ui
  rw [hp] at hu
  have h0 := h.u0
  refine ⟨by rw [List.length_set]; exact h.len, hn, by omega, by omega, by omega, ?_, ?_⟩
  · rw [e, vl, List.length_drop, hl]
    have h1 : (10 : Int) ^ (nd - k) = 10 ^ (nd - (k + 1)) * 10 := by rw [← Int.pow_succ]; congr 1; omega
    rw [h1, h.val]
    generalize (10 : Int) ^ (nd - (k + 1)) = p
    generalize vl _ = v
    have h2 : u = u / 10 * 10 + u % 10 := by omega
    have h3 : u * p = (u / 10 * 10 + u % 10) * p := by rw [← h2]
    rw [h3, Int.add_mul, Int.mul_assoc, Int.mul_comm 10 p, show (48 + u % 10 - 48) = u % 10 by omega, Int.add_assoc]
  · intro c hc
    rw [e] at hc
    rcases List.mem_cons.1 hc with rfl | hc
    · omega
    · exact h.dig c hc
theorem bindM {α β : Type} {l0 k : Nat} {a : List α} {R : Option β} (h : k < l0) (h2 : k < a.length) : ((idxM l0 a (k : Int)).bind fun _ => R) = R := by
  unfold idxM
  rw [if_pos ⟨by omega, by rw [Int.toNat_natCast]; exact h⟩, Int.toNat_natCast, List.getElem?_eq_getElem h2]; rfl
theorem wj (j c k : Nat) (h : j + c ≤ 24) (hk : k ≤ c) : w64 (((j + c : Nat) : Int) - (k : Int)) = ((j + (c - k) : Nat) : Int) := by
  rw [w64_eq (by omega) (by omega)]; omega
theorem block8 {U : Int} {nd : Nat} {u : Int} {j : Nat} {a : List Int} (h : DI U nd u (j + 8) a) (hu : u < 18446744073709551616) (k1 n1) :
    ∃ a', fbBody nd k1 (u, ((j + 8 : Nat) : Int), a) n1 = n1 (u / 10 / 10 / 10 / 10 / 10 / 10 / 10 / 10, ((j : Nat) : Int), a') ∧ DI U nd (u / 10 / 10 / 10 / 10 / 10 / 10 / 10 / 10) j a' := by
  have h0 := h.u0
  have hi := h.hi
  have hn := h.hn
  have hlen := h.len
  have e1 : IntKind.u32.wrap (Int.tmod u 100000000) = u % 100000000 := by rw [Int.tmod_eq_emod_of_nonneg h0, wrap_u32 (by omega) (by omega)]
  have e2 : Int.tmod (u % 100000000) 10000 = u % 10000 := by rw [Int.tmod_eq_emod_of_nonneg (by omega)]; omega
  have e3 : Int.tmod (u % 10000) 100 = u % 100 := by rw [Int.tmod_eq_emod_of_nonneg (by omega)]; omega
  have e4 : IntKind.u32.wrap (Int.tdiv (u % 10000) 100) = u / 100 % 100 := by rw [Int.tdiv_eq_ediv_of_nonneg (by omega), wrap_u32 (by omega) (by omega)]; omega
  have e5 : IntKind.u32.wrap (Int.tdiv (u % 100000000) 10000) = u / 10000 % 10000 := by rw [Int.tdiv_eq_ediv_of_nonneg (by omega), wrap_u32 (by omega) (by omega)]; omega
  have e6 : Int.tmod (u / 10000 % 10000) 100 = u / 10000 % 100 := by rw [Int.tmod_eq_emod_of_nonneg (by omega)]; omega
  have e7 : IntKind.u32.wrap (Int.tdiv (u / 10000 % 10000) 100) = u / 1000000 % 100 := by rw [Int.tdiv_eq_ediv_of_nonneg (by omega), wrap_u32 (by omega) (by omega)]; omega
  have e8 : IntKind.u64.wrap (Int.tdiv u 100000000) = u / 10 / 10 / 10 / 10 / 10 / 10 / 10 / 10 := by rw [Int.tdiv_eq_ediv_of_nonneg h0, wrap_u64 (by omega) (by omega)]; omega
  have w1 : w64 (((j + 8 : Nat) : Int) - 1) = ((j + 7 : Nat) : Int) := wj j 8 1 (by omega) (by omega)
  have w2 : w64 (((j + 8 : Nat) : Int) - 2) = ((j + 6 : Nat) : Int) := wj j 8 2 (by omega) (by omega)
  have w3 : w64 (((j + 8 : Nat) : Int) - 3) = ((j + 5 : Nat) : Int) := wj j 8 3 (by omega) (by omega)
  have w4 : w64 (((j + 8 : Nat) : Int) - 4) = ((j + 4 : Nat) : Int) := wj j 8 4 (by omega) (by omega)
  have w5 : w64 (((j + 8 : Nat) : Int) - 5) = ((j + 3 : Nat) : Int) := wj j 8 5 (by omega) (by omega)
  have w6 : w64 (((j + 8 : Nat) : Int) - 6) = ((j + 2 : Nat) : Int) := wj j 8 6 (by omega) (by omega)
  have w7 : w64 (((j + 8 : Nat) : Int) - 7) = ((j + 1 : Nat) : Int) := wj j 8 7 (by omega) (by omega)
  have w8 : w64 (((j + 8 : Nat) : Int) - 8) = ((j : Nat) : Int) := wj j 8 8 (by omega) (by omega)
  obtain ⟨c1, t1, f1⟩ := tab1 (x := u % 100) (by omega) (by omega)
  obtain ⟨c2, t2, f2⟩ := tab0 (x := u % 100) (by omega) (by omega)
  obtain ⟨c3, t3, f3⟩ := tab1 (x := u / 100 % 100) (by omega) (by omega)
  obtain ⟨c4, t4, f4⟩ := tab0 (x := u / 100 % 100) (by omega) (by omega)
  obtain ⟨c5, t5, f5⟩ := tab1 (x := u / 10000 % 100) (by omega) (by omega)
  obtain ⟨c6, t6, f6⟩ := tab0 (x := u / 10000 % 100) (by omega) (by omega)
  obtain ⟨c7, t7, f7⟩ := tab1 (x := u / 1000000 % 100) (by omega) (by omega)
  obtain ⟨c8, t8, f8⟩ := tab0 (x := u / 1000000 % 100) (by omega) (by omega)
  have g1 : (c1.toNat : Int) = 48 + u % 10 := by rw [f1]; omega
  have g2 : (c2.toNat : Int) = 48 + u / 10 % 10 := by rw [f2]; omega
  have g3 : (c3.toNat : Int) = 48 + u / 10 / 10 % 10 := by rw [f3]; omega
  have g4 : (c4.toNat : Int) = 48 + u / 10 / 10 / 10 % 10 := by rw [f4]; omega
  have g5 : (c5.toNat : Int) = 48 + u / 10 / 10 / 10 / 10 % 10 := by rw [f5]; omega
  have g6 : (c6.toNat : Int) = 48 + u / 10 / 10 / 10 / 10 / 10 % 10 := by rw [f6]; omega
  have g7 : (c7.toNat : Int) = 48 + u / 10 / 10 / 10 / 10 / 10 / 10 % 10 := by rw [f7]; omega
  have g8 : (c8.toNat : Int) = 48 + u / 10 / 10 / 10 / 10 / 10 / 10 / 10 % 10 := by rw [f8]; omega
  have hL := h.step.step.step.step.step.step.step.step
  refine ⟨_, ?_, hL⟩
  unfold fbBody
  dsimp only
  rw [if_pos (by omega)]
  simp only [e1, e2, e3, e4, e5, e6, e7, e8, w1, w2, w3, w4, w5, w6, w7, w8, Int.toNat_natCast]
  rw [t1, Option.bind_some, t2, Option.bind_some, bindM (by omega) (by omega), bindM (by omega) (by simp only [List.length_set]; omega)]
  rw [t3, Option.bind_some, t4, Option.bind_some, bindM (by omega) (by simp only [List.length_set]; omega), bindM (by omega) (by simp only [List.length_set]; omega)]
  rw [t5, Option.bind_some, t6, Option.bind_some, bindM (by omega) (by simp only [List.length_set]; omega), bindM (by omega) (by simp only [List.length_set]; omega)]
  rw [t7, Option.bind_some, t8, Option.bind_some, bindM (by omega) (by simp only [List.length_set]; omega), bindM (by omega) (by simp only [List.length_set]; omega)]
  rw [g1, g2, g3, g4, g5, g6, g7, g8]
theorem bindM0 {α β : Type} {l0 : Nat} {a : List α} {R : Option β} (h : 0 < l0) (h2 : 0 < a.length) : ((idxM l0 a 0).bind fun _ => R) = R := bindM (k := 0) h h2
theorem last_digit {x : Int} (h0 : 0 ≤ x) (h1 : x < 10) : IntKind.u8.wrap (IntKind.u32.wrap (48 + x)) = 48 + x % 10 := by
  rw [wrap_u32 (by omega) (by omega), wrap_u8 (by omega) (by omega)]; omega
theorem tail_eq {U : Int} {nd : Nat} {u : Int} {i : Nat} {a : List Int} (h : DI U nd u i a) (hi8 : i < 8) : ∃ a' u', fbTail nd (u, (i : Int), a) = some a' ∧ DI U nd u' 0 a' := by
  have h0 := h.u0
  have hi := h.hi
  have hn := h.hn
  have hlen := h.len
  have hui := h.ui
  have hu7 : u < 10000000 := by
    have : ∀ k : Fin 8, (10 : Int) ^ k.val ≤ 10000000 := by decide
    have := this ⟨i, hi8⟩
    simp only at this
    omega
  have e0 : IntKind.u32.wrap u = u := wrap_u32 (by omega) (by omega)
  have e2 : Int.tmod u 10000 = u % 10000 := by rw [Int.tmod_eq_emod_of_nonneg h0]
  have e3 : Int.tmod (u % 10000) 100 = u % 100 := by rw [Int.tmod_eq_emod_of_nonneg (by omega)]; omega
  have e4 : IntKind.u32.wrap (Int.tdiv (u % 10000) 100) = u / 100 % 100 := by rw [Int.tdiv_eq_ediv_of_nonneg (by omega), wrap_u32 (by omega) (by omega)]; omega
  have e5 : IntKind.u32.wrap (Int.tdiv u 10000) = u / 10000 := by rw [Int.tdiv_eq_ediv_of_nonneg h0, wrap_u32 (by omega) (by omega)]
  have e6 : Int.tmod (u / 10000) 100 = u / 10000 % 100 := by rw [Int.tmod_eq_emod_of_nonneg (by omega)]
  have e7 : IntKind.u32.wrap (Int.tdiv (u / 10000) 100) = u / 10 / 10 / 10 / 10 / 10 / 10 := by rw [Int.tdiv_eq_ediv_of_nonneg (by omega), wrap_u32 (by omega) (by omega)]; omega
  have e8 : Int.tmod u 100 = u % 100 := by rw [Int.tmod_eq_emod_of_nonneg h0]
  have e9 : IntKind.u32.wrap (Int.tdiv u 100) = u / 10 / 10 := by rw [Int.tdiv_eq_ediv_of_nonneg h0, wrap_u32 (by omega) (by omega)]; omega
  have e10 : u / 10000 = u / 10 / 10 / 10 / 10 := by omega
  obtain ⟨c1, t1, f1⟩ := tab1 (x := u % 100) (by omega) (by omega)
  obtain ⟨c2, t2, f2⟩ := tab0 (x := u % 100) (by omega) (by omega)
  obtain ⟨c3, t3, f3⟩ := tab1 (x := u / 100 % 100) (by omega) (by omega)
  obtain ⟨c4, t4, f4⟩ := tab0 (x := u / 100 % 100) (by omega) (by omega)
  obtain ⟨c5, t5, f5⟩ := tab1 (x := u / 10000 % 100) (by omega) (by omega)
  obtain ⟨c6, t6, f6⟩ := tab0 (x := u / 10000 % 100) (by omega) (by omega)
  have g1 : (c1.toNat : Int) = 48 + u % 10 := by rw [f1]; omega
  have g2 : (c2.toNat : Int) = 48 + u / 10 % 10 := by rw [f2]; omega
  have g3 : (c3.toNat : Int) = 48 + u / 10 / 10 % 10 := by rw [f3]; omega
  have g4 : (c4.toNat : Int) = 48 + u / 10 / 10 / 10 % 10 := by rw [f4]; omega
  have g5 : (c5.toNat : Int) = 48 + u / 10 / 10 / 10 / 10 % 10 := by rw [f5]; omega
  have g6 : (c6.toNat : Int) = 48 + u / 10 / 10 / 10 / 10 / 10 % 10 := by rw [f6]; omega
  unfold fbTail
  dsimp only
  by_cases c4' : 4 ≤ i
  · obtain ⟨j, rfl⟩ : ∃ j, i = j + 4 := ⟨i - 4, by omega⟩
    have w1 : w64 (((j + 4 : Nat) : Int) - 1) = ((j + 3 : Nat) : Int) := wj j 4 1 (by omega) (by omega)
    have w2 : w64 (((j + 4 : Nat) : Int) - 2) = ((j + 2 : Nat) : Int) := wj j 4 2 (by omega) (by omega)
    have w3 : w64 (((j + 4 : Nat) : Int) - 3) = ((j + 1 : Nat) : Int) := wj j 4 3 (by omega) (by omega)
    have w4 : w64 (((j + 4 : Nat) : Int) - 4) = ((j : Nat) : Int) := wj j 4 4 (by omega) (by omega)
    have hL := h.step.step.step.step
    rw [if_pos (by omega)]
    simp only [e0, e2, e3, e4, e5, e6, e7, w1, w2, w3, w4, Int.toNat_natCast]
    rw [t1, Option.bind_some, t2, Option.bind_some, bindM (by omega) (by omega), bindM (by omega) (by simp only [List.length_set]; omega)]
    rw [t3, Option.bind_some, t4, Option.bind_some, bindM (by omega) (by simp only [List.length_set]; omega), bindM (by omega) (by simp only [List.length_set]; omega)]
    rw [g1, g2, g3, g4]
    by_cases c2' : 2 ≤ j
    · obtain ⟨m, rfl⟩ : ∃ m, j = m + 2 := ⟨j - 2, by omega⟩
      have w5 : w64 (((m + 2 : Nat) : Int) - 1) = ((m + 1 : Nat) : Int) := wj m 2 1 (by omega) (by omega)
      have w6 : w64 (((m + 2 : Nat) : Int) - 2) = ((m : Nat) : Int) := wj m 2 2 (by omega) (by omega)
      have hL2 := hL.step.step
      rw [if_pos (by omega)]
      simp only [w5, w6, Int.toNat_natCast]
      rw [t5, Option.bind_some, t6, Option.bind_some, bindM (by omega) (by simp only [List.length_set]; omega), bindM (by omega) (by simp only [List.length_set]; omega), g5, g6]
      by_cases c1' : 0 < m
      · obtain rfl : m = 1 := by omega
        rw [if_pos (by omega), bindM0 (by omega) (by simp only [List.length_set]; omega)]
        have hu1 := hL2.ui
        rw [last_digit (by omega) (by rw [Int.pow_succ, Int.pow_zero] at hu1; omega)]
        exact ⟨_, _, rfl, hL2.step⟩
      · obtain rfl : m = 0 := by omega
        rw [if_neg (by omega)]
        exact ⟨_, _, rfl, hL2⟩
    · rw [if_neg (by omega)]
      by_cases c1' : 0 < j
      · obtain rfl : j = 1 := by omega
        rw [if_pos (by omega), bindM0 (by omega) (by simp only [List.length_set]; omega)]
        have hu1 := hL.ui
        rw [e10, last_digit (by omega) (by rw [Int.pow_succ, Int.pow_zero] at hu1; omega)]
        exact ⟨_, _, rfl, hL.step⟩
      · obtain rfl : j = 0 := by omega
        rw [if_neg (by omega)]
        exact ⟨_, _, rfl, hL⟩
  · rw [if_neg (by omega)]
    by_cases c2' : 2 ≤ i
    · obtain ⟨m, rfl⟩ : ∃ m, i = m + 2 := ⟨i - 2, by omega⟩
      have w5 : w64 (((m + 2 : Nat) : Int) - 1) = ((m + 1 : Nat) : Int) := wj m 2 1 (by omega) (by omega)
      have w6 : w64 (((m + 2 : Nat) : Int) - 2) = ((m : Nat) : Int) := wj m 2 2 (by omega) (by omega)
      have hL := h.step.step
      rw [if_pos (by omega)]
      simp only [e0, e8, e9, w5, w6, Int.toNat_natCast]
      rw [t1, Option.bind_some, t2, Option.bind_some, bindM (by omega) (by omega), bindM (by omega) (by simp only [List.length_set]; omega), g1, g2]
      by_cases c1' : 0 < m
      · obtain rfl : m = 1 := by omega
        rw [if_pos (by omega), bindM0 (by omega) (by simp only [List.length_set]; omega)]
        have hu1 := hL.ui
        rw [last_digit (by omega) (by rw [Int.pow_succ, Int.pow_zero] at hu1; omega)]
        exact ⟨_, _, rfl, hL.step⟩
      · obtain rfl : m = 0 := by omega
        rw [if_neg (by omega)]
        exact ⟨_, _, rfl, hL⟩
    · rw [if_neg (by omega)]
      by_cases c1' : 0 < i
      · obtain rfl : i = 1 := by omega
        rw [if_pos (by omega), bindM0 (by omega) (by omega), e0]
        rw [last_digit (by omega) (by rw [Int.pow_succ, Int.pow_zero] at hui; omega)]
        exact ⟨_, _, rfl, h.step⟩
      · obtain rfl : i = 0 := by omega
        rw [if_neg (by omega)]
        exact ⟨_, _, rfl, h⟩
theorem fb_loop {U : Int} {nd : Nat} : ∀ (n : Nat) (u : Int) (i : Nat) (a : List Int), DI U nd u i a → u < 18446744073709551616 → i < 8 * n → ∃ a' u', whileC (fbBody nd (fbTail nd)) n (u, (i : Int), a) = some a' ∧ DI U nd u' 0 a'
  | 0, u, i, a, h, hu, hi => by omega
  | n + 1, u, i, a, h, hu, hi => by
    have hn := h.hn
    have hin := h.hi
    have h0 := h.u0
    rw [whileC]
    by_cases c : 8 ≤ i
    · obtain ⟨j, rfl⟩ : ∃ j, i = j + 8 := ⟨i - 8, by omega⟩
      obtain ⟨a', e, h'⟩ := block8 h hu (fbTail nd) (whileC (fbBody nd (fbTail nd)) n)
      rw [e]
      exact fb_loop n _ j a' h' (by omega) (by omega)
    · obtain ⟨a', u', e, h'⟩ := tail_eq h (by omega)
      refine ⟨a', u', ?_, h'⟩
      rw [← e]
      unfold fbBody
      dsimp only
      rw [if_neg (by omega)]
theorem format_eq {n : Nat} {u : Int} {nd : Nat} (h0 : 0 ≤ u) (h1 : u < 18446744073709551616) (hnd : nd ≤ 20) (hu : u < 10 ^ nd) (hn : 4 ≤ n) : ∃ a', internal_strconv_formatBase10_mx n (List.replicate 24 0) nd u = some a' ∧ a'.length = 24 ∧ vl (a'.take nd) = u ∧ ∀ c ∈ a'.take nd, 48 ≤ c ∧ c ≤ 57 := by
  have hd : (List.take nd (List.replicate 24 (0 : Int))).drop nd = [] := by
    apply List.drop_eq_nil_of_le; rw [List.length_take]; omega
  obtain ⟨a', u', e, h⟩ := fb_loop (U := u) n u nd (List.replicate 24 0) ⟨by simp, hnd, Nat.le_refl _, h0, hu, by rw [hd, Nat.sub_self, vl, Int.pow_zero]; omega, by rw [hd]; intro c hc; cases hc⟩ h1 (by omega)
  refine ⟨a', by rw [fb_eq]; exact e, h.len, ?_, ?_⟩
  · have hv := h.val
    have hu := h.ui
    have h0 := h.u0
    rw [Int.pow_zero] at hu
    obtain rfl : u' = 0 := by omega
    rw [List.drop_zero] at hv
    rw [hv, Int.zero_mul, Int.zero_add]
  · have := h.dig
    rw [List.drop_zero] at this
    exact this
/-- so many digits of a number -/
def digs : Nat → Int → List Int
  | 0, _ => []
  | k + 1, u => digs k (u / 10) ++ [48 + u % 10]
theorem digs_len : ∀ k u, (digs k u).length = k
  | 0, _ => rfl
  | k + 1, u => by rw [digs, List.length_append, digs_len k]; rfl
theorem digs_dig : ∀ k u, ∀ c ∈ digs k u, 48 ≤ c ∧ c ≤ 57
  | 0, _, c, h => by cases h
  | k + 1, u, c, h => by
    rw [digs] at h
    rcases List.mem_append.1 h with h | h
    · exact digs_dig k _ c h
    · simp only [List.mem_singleton] at h; omega
theorem vl_snoc (c : Int) : ∀ l : List Int, vl (l ++ [c]) = vl l * 10 + (c - 48)
  | [] => by
    show (c - 48) * 10 ^ (0 : Nat) + 0 = 0 * 10 + (c - 48)
    rw [Int.pow_zero]; omega
  | d :: l => by
    rw [List.cons_append, vl, vl, vl_snoc c l, List.length_append]
    simp only [List.length_cons, List.length_nil, Nat.zero_add]
    rw [Int.pow_succ, Int.add_mul, Int.mul_assoc, Int.add_assoc]
theorem vl_digs : ∀ k u, 0 ≤ u → u < 10 ^ k → vl (digs k u) = u
  | 0, u, h0, h => by rw [Int.pow_zero] at h; show (0 : Int) = u; omega
  | k + 1, u, h0, h => by
    rw [Int.pow_succ] at h
    rw [digs, vl_snoc, vl_digs k (u / 10) (by omega) (by omega)]
    omega
theorem snoc_of {l : List Int} {k : Nat} (h : l.length = k + 1) : ∃ p c, l = p ++ [c] ∧ p.length = k := by
  have hne : l ≠ [] := by intro e; rw [e] at h; cases h
  refine ⟨l.dropLast, l.getLast hne, (List.dropLast_concat_getLast hne).symm, by rw [List.length_dropLast]; omega⟩
theorem digs_of : ∀ (k : Nat) (l : List Int), l.length = k → (∀ c ∈ l, 48 ≤ c ∧ c ≤ 57) → l = digs k (vl l)
  | 0, l, h, _ => by rw [List.length_eq_zero_iff.1 h]; rfl
  | k + 1, l, h, hd => by
    obtain ⟨p, c, rfl, hp⟩ := snoc_of h
    have hc := hd c (by simp)
    have ih := digs_of k p hp (fun d hd' => hd d (by simp [hd']))
    rw [digs, vl_snoc]
    have e1 : (vl p * 10 + (c - 48)) / 10 = vl p := by omega
    have e2 : (vl p * 10 + (c - 48)) % 10 = c - 48 := by omega
    rw [e1, e2, ← ih]
    congr 2
    omega
/-- the number of digits -/
def nD (u : Int) : Nat := if u < 10 then 1 else if u < 100 then 2 else ((internal_strconv_numDigits u).getD 0).toNat
def dU (u : Int) : List Int := digs (nD u) u
theorem small_all : ∀ i : Fin 100, ((internal_strconv_small ((i.val : Nat) : Int)).map fun s => decide (ofStr s = digs (if i.val < 10 then 1 else 2) ((i.val : Nat) : Int))) = some true := by decide +kernel
theorem small_eq {u : Int} (h0 : 0 ≤ u) (h1 : u < 100) : ∃ s, internal_strconv_small u = some s ∧ ofStr s = dU u := by
  obtain ⟨n, rfl⟩ : ∃ n : Nat, u = n := ⟨u.toNat, by omega⟩
  have h := small_all ⟨n, by omega⟩
  simp only at h
  cases hs : internal_strconv_small (n : Int) with
  | none => rw [hs] at h; cases h
  | some s =>
    rw [hs, Option.map_some] at h
    injection h with h
    refine ⟨s, rfl, ?_⟩
    rw [of_decide_eq_true h]
    unfold dU nD
    by_cases c : n < 10
    · rw [if_pos c, if_pos (by omega)]
    · rw [if_neg c, if_neg (by omega), if_pos (by omega)]
theorem nD_le {u : Int} (h0 : 0 ≤ u) (h1 : u < 18446744073709551616) : 1 ≤ nD u ∧ nD u ≤ 20 ∧ u < 10 ^ nD u := by
  unfold nD
  split
  · exact ⟨by omega, by omega, by rw [Int.pow_succ, Int.pow_zero]; omega⟩
  · split
    · exact ⟨by omega, by omega, by rw [Int.pow_succ, Int.pow_succ, Int.pow_zero]; omega⟩
    · obtain ⟨d, e, h2, h3⟩ := numDigits_eq h0 h1
      rw [e, Option.getD_some, Int.toNat_natCast]
      refine ⟨?_, h2, h3⟩
      rcases Nat.eq_zero_or_pos d with rfl | hd
      · rw [Int.pow_zero] at h3; omega
      · exact hd
theorem dU_val {u : Int} (h0 : 0 ≤ u) (h1 : u < 18446744073709551616) : vl (dU u) = u := vl_digs _ _ h0 (nD_le h0 h1).2.2
theorem dU_len {u : Int} (h0 : 0 ≤ u) (h1 : u < 18446744073709551616) : 1 ≤ (dU u).length ∧ (dU u).length ≤ 20 := by
  unfold dU; rw [digs_len]; exact ⟨(nD_le h0 h1).1, (nD_le h0 h1).2.1⟩
theorem AppendUint_eq {n : Nat} {u : Int} {a : List Int} (h0 : 0 ≤ u) (h1 : u < 18446744073709551616) (hn : 4 ≤ n) (ha : a.length ≤ 1000000000) : internal_strconv_AppendUint n a u 10 = some (a ++ dU u) := by
  have hl := dU_len h0 h1
  unfold internal_strconv_AppendUint
  rw [if_pos rfl]
  by_cases c : u < 100
  · rw [if_pos c, wrap_id (by omega) (by omega)]
    obtain ⟨s, e, hs⟩ := small_eq h0 c
    rw [e, Option.bind_some, hs, app_ok (by omega)]; rfl
  · rw [if_neg c]
    obtain ⟨d, e, h2, h3⟩ := numDigits_eq h0 h1
    have hd : nD u = d := by
      unfold nD
      rw [if_neg (by omega), if_neg c, e, Option.getD_some, Int.toNat_natCast]
    obtain ⟨a', ef, hl', hv, hdg⟩ := format_eq h0 h1 h2 h3 hn
    have hc1 : cutE 24 (List.replicate 24 (0 : Int)) (d : Int) = some d := by
      unfold cutE; rw [if_pos ⟨by simp, by omega, by omega⟩, Int.toNat_natCast]
    have hc2 : cutE 24 a' (d : Int) = some d := by
      unfold cutE; rw [if_pos ⟨by omega, by omega, by omega⟩, Int.toNat_natCast]
    have hall : allM 0 d a' = some (a'.take d) := by
      unfold allM; rw [if_pos (by omega), List.drop_zero]
    have hta : a'.take d = dU u := by
      have := digs_of d (a'.take d) (by rw [List.length_take]; omega) hdg
      rw [hv] at this
      rw [this]; unfold dU; rw [hd]
    show (zrow 24 (0 : Int)).bind _ = _
    unfold zrow
    rw [Option.bind_some, e, Option.bind_some, hc1, Option.bind_some, ef, Option.bind_some, hc2, Option.bind_some, hall, Option.bind_some, hta, app_ok (by omega)]; rfl
/-- the digits of a number with its sign -/
def dI (x : Int) : List Int := if x < 0 then 45 :: dU (-x) else dU x
/-- it is an int -/
def I64 (x : Int) : Prop := -9223372036854775808 ≤ x ∧ x ≤ 9223372036854775807
theorem wrap_u64_neg {n : Int} (h1 : -9223372036854775808 ≤ n) (h2 : n < 0) : IntKind.u64.wrap (0 - IntKind.u64.wrap n) = -n := by
  have e : ∀ m : Int, IntKind.u64.wrap m = m % 18446744073709551616 := fun _ => rfl
  rw [e, e]; omega
theorem AppendInt_eq {n : Nat} {x : Int} {a : List Int} (hx : I64 x) (hn : 4 ≤ n) (ha : a.length ≤ 1000000) : strconv_AppendInt n a x 10 = some (a ++ dI x) := by
  unfold strconv_AppendInt internal_strconv_AppendInt dI
  obtain ⟨x1, x2⟩ := hx
  by_cases c : x < 0
  · rw [if_pos c, if_pos c, app_ok (by simp only [List.length_cons, List.length_nil]; omega), Option.bind_some, wrap_u64_neg x1 c, AppendUint_eq (by omega) (by omega) hn (by simp only [List.length_append, List.length_cons, List.length_nil]; omega), Option.bind_some, Option.bind_some, List.append_assoc]; rfl
  · rw [if_neg c, if_neg c, wrap_u64 (by omega) (by omega), AppendUint_eq (by omega) (by omega) hn (by omega), Option.bind_some, Option.bind_some]
theorem dI_len {x : Int} (hx : I64 x) : 1 ≤ (dI x).length ∧ (dI x).length ≤ 21 := by
  obtain ⟨x1, x2⟩ := hx
  unfold dI
  split
  · have := dU_len (u := -x) (by omega) (by omega)
    rw [List.length_cons]; omega
  · have := dU_len (u := x) (by omega) (by omega)
    omega
theorem dI_dig {x : Int} : ∀ c ∈ dI x, 45 ≤ c ∧ c ≤ 57 := by
  intro c hc
  unfold dI at hc
  split at hc
  · rcases List.mem_cons.1 hc with rfl | hc
    · omega
    · have := digs_dig _ _ c hc; omega
  · have := digs_dig _ _ c hc; omega
theorem dU_head {u : Int} (h0 : 0 ≤ u) (h1 : u < 18446744073709551616) (t : List Int) : dU u ≠ 45 :: t := by
  intro e
  have := digs_dig (nD u) u 45 (by show 45 ∈ dU u; rw [e]; simp)
  omega
theorem dI_inj {x y : Int} (hx : I64 x) (hy : I64 y) (h : dI x = dI y) : x = y := by
  obtain ⟨x1, x2⟩ := hx
  obtain ⟨y1, y2⟩ := hy
  unfold dI at h
  split at h
  · split at h
    · injection h with _ h
      have e1 := dU_val (u := -x) (by omega) (by omega)
      have e2 := dU_val (u := -y) (by omega) (by omega)
      rw [h, e2] at e1
      omega
    · exact absurd h.symm (dU_head (by omega) (by omega) _)
  · split at h
    · exact absurd h (dU_head (by omega) (by omega) _)
    · have e1 := dU_val (u := x) (by omega) (by omega)
      have e2 := dU_val (u := y) (by omega) (by omega)
      rw [h, e2] at e1
      omega
/-- the text of a list of numbers, each after a comma -/
def cs : List Int → List Int
  | [] => []
  | x :: l => 44 :: (dI x ++ cs l)
theorem key_loop {n : Nat} (hn : 4 ≤ n) {R : Type} : ∀ (l : List Int) (i : Nat) (s : List Int) (k : List Int → Option R), (∀ x ∈ l, I64 x) → s.length + 22 * l.length ≤ 900000 →
    rangeC (fun i1 x1 (s1 : (List Int)) n1 =>
      (app 1 s1 [44]).bind fun v2 =>
      (strconv_AppendInt n v2 x1 10).bind fun v3 =>
      n1 v3) l i s k = k (s ++ cs l)
  | [], i, s, k, _, _ => by rw [rangeC, cs, List.append_nil]
  | x :: l, i, s, k, h, hs => by
    rw [List.length_cons] at hs
    have := dI_len (h x (by simp))
    rw [rangeC, app_ok (by simp only [List.length_cons, List.length_nil]; omega), Option.bind_some, AppendInt_eq (h x (by simp)) hn (by simp only [List.length_append, List.length_cons, List.length_nil]; omega), Option.bind_some]
    show rangeC _ l (i + 1) _ k = _
    rw [key_loop hn l (i + 1) _ k (fun y hy => h y (List.mem_cons_of_mem _ hy)) (by simp only [List.length_append, List.length_cons, List.length_nil]; omega), cs]
    congr 1
    simp [List.append_assoc]
/-- the key of a symbol and a list of states -/
def kS (sym : Int) (l : List Int) : List Int := dI sym ++ cs l
theorem key_eq {n : Nat} {sym : Int} {l : List Int} (hn : 4 ≤ n) (hs : I64 sym) (hl : ∀ x ∈ l, I64 x) (hlen : l.length ≤ 10000) : auto_key n sym l = some (strB (kS sym l)) := by
  have := dI_len hs
  unfold auto_key
  rw [AppendInt_eq hs hn (by simp), Option.bind_some, List.nil_append, rangeL, if_pos (by omega), key_loop hn l 0 _ _ hl (by omega)]
  rfl
/-- where the first comma is -/
theorem split_comma : ∀ (p q : List Int) (r s : List Int), (∀ c ∈ p, 45 ≤ c) → (∀ c ∈ q, 45 ≤ c) → (r = [] ∨ ∃ t, r = 44 :: t) → (s = [] ∨ ∃ t, s = 44 :: t) → p ++ r = q ++ s → p = q ∧ r = s
  | [], [], r, s, _, _, _, _, h => ⟨rfl, h⟩
  | [], c :: q, r, s, _, hq, hr, _, h => by
    have := hq c (by simp)
    rcases hr with rfl | ⟨t, rfl⟩
    · cases h
    · rw [List.nil_append, List.cons_append] at h
      injection h with h _; omega
  | c :: p, [], r, s, hp, _, _, hs, h => by
    have := hp c (by simp)
    rcases hs with rfl | ⟨t, rfl⟩
    · cases h
    · rw [List.nil_append, List.cons_append] at h
      injection h with h _; omega
  | c :: p, d :: q, r, s, hp, hq, hr, hs, h => by
    rw [List.cons_append, List.cons_append] at h
    injection h with h1 h2
    have := split_comma p q r s (fun c hc => hp c (List.mem_cons_of_mem _ hc)) (fun c hc => hq c (List.mem_cons_of_mem _ hc)) hr hs h2
    exact ⟨by rw [h1, this.1], this.2⟩
theorem cs_or : ∀ l : List Int, cs l = [] ∨ ∃ t, cs l = 44 :: t
  | [] => .inl rfl
  | x :: l => .inr ⟨_, rfl⟩
theorem cs_inj : ∀ (l m : List Int), (∀ x ∈ l, I64 x) → (∀ x ∈ m, I64 x) → cs l = cs m → l = m
  | [], [], _, _, _ => rfl
  | [], _ :: _, _, _, h => by cases h
  | _ :: _, [], _, _, h => by cases h
  | x :: l, y :: m, hl, hm, h => by
    rw [cs, cs] at h
    injection h with _ h
    obtain ⟨h1, h2⟩ := split_comma _ _ _ _ (fun c hc => (dI_dig c hc).1) (fun c hc => (dI_dig c hc).1) (cs_or l) (cs_or m) h
    rw [dI_inj (hl x (by simp)) (hm y (by simp)) h1, cs_inj l m (fun x hx => hl x (List.mem_cons_of_mem _ hx)) (fun x hx => hm x (List.mem_cons_of_mem _ hx)) h2]
theorem kS_inj {s t : Int} {l m : List Int} (hs : I64 s) (ht : I64 t) (hl : ∀ x ∈ l, I64 x) (hm : ∀ x ∈ m, I64 x) (h : kS s l = kS t m) : s = t ∧ l = m := by
  obtain ⟨h1, h2⟩ := split_comma _ _ _ _ (fun c hc => (dI_dig c hc).1) (fun c hc => (dI_dig c hc).1) (cs_or l) (cs_or m) h
  exact ⟨dI_inj hs ht h1, cs_inj l m hl hm h2⟩
theorem cs_byte : ∀ (l : List Int), ∀ c ∈ cs l, 44 ≤ c ∧ c ≤ 57
  | [], c, h => by cases h
  | x :: l, c, h => by
    rw [cs] at h
    rcases List.mem_cons.1 h with rfl | h
    · omega
    · rcases List.mem_append.1 h with h | h
      · have := dI_dig c h; omega
      · exact cs_byte l c h
theorem kS_byte {s : Int} {l : List Int} : ∀ c ∈ kS s l, 44 ≤ c ∧ c ≤ 57 := by
  intro c h
  rcases List.mem_append.1 h with h | h
  · have := dI_dig c h; omega
  · exact cs_byte l c h
theorem strB_inj : ∀ (l m : List Int), (∀ c ∈ l, 44 ≤ c ∧ c ≤ 57) → (∀ c ∈ m, 44 ≤ c ∧ c ≤ 57) → strB l = strB m → l = m
  | [], [], _, _, _ => rfl
  | [], _ :: _, _, _, h => by cases h
  | _ :: _, [], _, _, h => by cases h
  | x :: l, y :: m, hl, hm, h => by
    have h1 := hl x (by simp)
    have h2 := hm y (by simp)
    unfold strB at h
    rw [List.map_cons, List.map_cons] at h
    injection h with h3 h4
    have ih := strB_inj l m (fun c hc => hl c (List.mem_cons_of_mem _ hc)) (fun c hc => hm c (List.mem_cons_of_mem _ hc)) h4
    have h5 := congrArg UInt8.toNat h3
    rw [UInt8.toNat_ofNat', UInt8.toNat_ofNat'] at h5
    rw [ih, show x = y by omega]
theorem key_inj {s t : Int} {l m : List Int} (hs : I64 s) (ht : I64 t) (hl : ∀ x ∈ l, I64 x) (hm : ∀ x ∈ m, I64 x) (h : strB (kS s l) = strB (kS t m)) : s = t ∧ l = m :=
  kS_inj hs ht hl hm (strB_inj _ _ kS_byte kS_byte h)
theorem td_mem : ∀ {l : List Tree} {x : Tree}, x ∈ l → tdT x + 1 ≤ tdL l
  | [], _, h => by cases h
  | y :: l, x, h => by
    rw [tdL]
    rcases List.mem_cons.1 h with rfl | h
    · omega
    · have := td_mem h; omega
/-- a valid automaton of the statements' size -/
structure OKa (r : List Int) (a : Automaton) : Prop where
  rk : r.length ≤ 12
  st : 0 ≤ a.States ∧ a.States ≤ 300
  rul : a.Rules.length ≤ 400
  fin : a.Final.length ≤ 400
  frm : ∀ x ∈ a.Rules, x.From.length ≤ 10
  sym : ∀ x ∈ a.Rules, 0 ≤ x.Sym ∧ x.Sym < r.length ∧ (x.From.length : Int) = S03.rk r x.Sym
  to : ∀ x ∈ a.Rules, 0 ≤ x.To ∧ x.To < a.States
  from' : ∀ x ∈ a.Rules, ∀ s ∈ x.From, 0 ≤ s ∧ s < a.States
  fins : ∀ s ∈ a.Final, 0 ≤ s ∧ s < a.States
theorem list_eq (f g : List Int) (hf : f.length < 9223372036854775808) : ref01_List f g = some (decide (f = g)) := by
  unfold ref01_List
  by_cases c : (f.length : Int) = (g.length : Int)
  · rw [if_pos c, rangeL, if_pos hf]
    suffices H : ∀ (u p q : List Int), f = p ++ u → g.length = f.length → p.length = q.length → g.take p.length = q → rangeC (fun i1 x1 (s1 : Unit) n1 => (g[i1]?).bind fun v1 => if x1 = v1 then n1 () else some false) u p.length () (fun _ => some true) = some (decide (u = g.drop p.length)) by
      have := H f [] [] rfl (by omega) rfl rfl
      exact this
    intro u
    induction u with
    | nil =>
      intro p q h1 h2 _ _
      rw [rangeC]
      have : g.drop p.length = [] := List.drop_eq_nil_of_le (by rw [h2, h1]; simp)
      rw [this]; rfl
    | cons x u ih =>
      intro p q h1 h2 h3 h4
      have hp : p.length < g.length := by rw [h2, h1]; simp
      rw [rangeC, List.getElem?_eq_getElem hp, Option.bind_some]
      have hd : g.drop p.length = g[p.length] :: g.drop (p.length + 1) := List.drop_eq_getElem_cons hp
      by_cases e : x = g[p.length]
      · rw [if_pos e]
        have := ih (p ++ [x]) (g.take (p.length + 1)) (by simp [h1]) h2 (by simp; omega) (by simp)
        rw [List.length_append] at this
        simp only [List.length_cons, List.length_nil, Nat.zero_add] at this
        show rangeC _ u (p.length + 1) () _ = _
        rw [this, hd]
        congr 1
        by_cases e2 : u = g.drop (p.length + 1)
        · rw [decide_eq_true e2, decide_eq_true (by rw [e, ← e2])]
        · rw [decide_eq_false e2, decide_eq_false (fun h => by injection h with _ h; exact e2 h)]
      · rw [if_neg e, hd, decide_eq_false (fun h => by injection h with h _; exact e h)]
  · rw [if_neg c, decide_eq_false (fun h => c (by rw [h]))]
theorem mget_mput {K V : Type} [DecidableEq K] (k k' : K) (v : V) : ∀ m : List (K × V), mget k (mput k' v m) = if k = k' then some v else mget k m
  | [] => by rw [mput, mget]; rfl
  | (k2, v2) :: m => by
    rw [mput]
    by_cases c : k' = k2
    · rw [if_pos c, mget, mget]
      by_cases e : k = k'
      · rw [if_pos e, if_pos e]
      · rw [if_neg e, if_neg e, if_neg (fun h => e (h.trans c.symm))]
    · rw [if_neg c, mget, mget, mget_mput k k' v m]
      by_cases e : k = k'
      · subst e; simp [c]
      · simp [e]
theorem snoc_inj {l m : List Int} {a b : Int} (h : l ++ [a] = m ++ [b]) : l = m ∧ a = b := by
  have := List.append_inj' h rfl
  exact ⟨this.1, by simpa using this.2⟩
theorem i64_small {x : Int} (h0 : 0 ≤ x) (h1 : x < 1000000) : I64 x := ⟨by omega, by omega⟩
theorem sh_parts {r : List Int} {t : Tree} (h : shT r t = true) : 0 ≤ t.Sym ∧ t.Sym < r.length ∧ (t.Kids.length : Int) = rk r t.Sym ∧ shL r t.Kids = true := by
  rw [shT_eq, Bool.and_eq_true] at h
  have := of_decide_eq_true h.1
  exact ⟨this.1, this.2.1, this.2.2, h.2⟩
theorem shL_cons {r : List Int} {t : Tree} {l : List Tree} (h : shL r (t :: l) = true) : shT r t = true ∧ shL r l = true := by
  rw [shL, Bool.and_eq_true] at h; exact h
theorem in_eq (l : List Int) (v : Int) (hl : l.length < 9223372036854775808) : ref03_In l v = some (decide (v ∈ l)) := by
  unfold ref03_In
  rw [rangeL, if_pos hl]
  generalize 0 = i
  induction l generalizing i with
  | nil => rfl
  | cons x l ih =>
    rw [rangeC]
    by_cases c : x = v
    · rw [if_pos c, decide_eq_true (by simp [c])]
    · rw [if_neg c]
      have := ih (by rw [List.length_cons] at hl; omega) (i + 1)
      show rangeC _ l (i + 1) () _ = _
      rw [this]
      congr 1
      by_cases c2 : v ∈ l
      · rw [decide_eq_true c2, decide_eq_true (by simp [c2])]
      · rw [decide_eq_false c2, decide_eq_false (by simp [c2]; exact fun h => c h.symm)]
theorem tvld_parts {r : List Int} {t : Tree} (h : tvld r t = true) : r.length ≤ 12 ∧ tsT t ≤ 300 ∧ shT r t = true := by
  unfold tvld vA at h
  simp only [Bool.and_eq_true, decide_eq_true_eq] at h
  obtain ⟨⟨h1, _⟩, h2, h3⟩ := h
  exact ⟨h1, by omega, h3⟩
mutual
/-- whether a run assigns a state to the root -/
def stT (a : Automaton) : Tree → Int → Bool
  | .mk s ks, q => a.Rules.any fun x => decide (x.Sym = s ∧ x.To = q) && stL a ks x.From
def stL (a : Automaton) : List Tree → List Int → Bool
  | [], _ => true
  | _ :: _, [] => true
  | k :: ks, f :: fs => stT a k f && stL a ks fs
end
theorem stT_eq (a : Automaton) (t : Tree) (q : Int) : stT a t q = a.Rules.any fun x => decide (x.Sym = t.Sym ∧ x.To = q) && stL a t.Kids x.From := by cases t; rw [stT]
/-- Insert keeps what is there and adds one -/
theorem Insert_eq {n : Nat} {l : List Int} {x : Int} (hn : l.length + 1 ≤ n) (hl : l.length ≤ 1000) : ∃ l', ref03_Insert n l x = some l' ∧ (∀ y, y ∈ l' ↔ y ∈ l ∨ y = x) ∧ l'.length ≤ l.length + 1 := by
  unfold ref03_Insert whileL
  have W : ∀ (m i : Nat) (k : Int → Option (List Int)), i ≤ l.length → l.length - i + 1 ≤ m → ∃ j : Nat, j ≤ l.length ∧ whileC (fun (s1 : Int) n1 =>
    if s1 < (l.length : Int) then
      (idx l s1).bind fun v12 =>
      if v12 < x then
        n1 (w64 (s1 + 1))
      else
        k s1
    else
      k s1) m (i : Int) = k (j : Int) := by
    intro m
    induction m with
    | zero => intro i k _ h; omega
    | succ m ih =>
      intro i k hi hm
      rw [whileC]
      by_cases c : i < l.length
      · have e : idx l (i : Int) = some l[i] := by unfold idx; rw [if_pos (by omega), Int.toNat_natCast, List.getElem?_eq_getElem c]
        rw [if_pos (by omega), e, Option.bind_some]
        by_cases c2 : l[i] < x
        · rw [if_pos c2, w64_eq (by omega) (by omega), show ((i : Int) + 1) = ((i + 1 : Nat) : Int) by omega]
          exact ih (i + 1) k (by omega) (by omega)
        · rw [if_neg c2]; exact ⟨i, hi, rfl⟩
      · rw [if_neg (by omega)]; exact ⟨i, hi, rfl⟩
  obtain ⟨j, hj, e⟩ := W n 0 (fun s1 =>
  if s1 < (l.length : Int) then
    (idx l s1).bind fun v1 =>
    if v1 = x then
      some l
    else
      (slcT l s1).bind fun v2 =>
      (app 8 ([] : List Int) v2).bind fun v3 =>
      (app 8 v3 [x]).bind fun v4 =>
      (slcF l s1).bind fun v5 =>
      (app 8 v4 v5).bind fun v6 =>
      some v6
  else
    (slcT l s1).bind fun v7 =>
    (app 8 ([] : List Int) v7).bind fun v8 =>
    (app 8 v8 [x]).bind fun v9 =>
    (slcF l s1).bind fun v10 =>
    (app 8 v9 v10).bind fun v11 =>
    some v11) (by omega) (by omega)
  show ∃ l', whileC _ n ((0 : Nat) : Int) = some l' ∧ _
  rw [e]
  have eT : slcT l (j : Int) = some (l.take j) := by unfold slcT; rw [if_pos (by omega), Int.toNat_natCast]
  have eF : slcF l (j : Int) = some (l.drop j) := by unfold slcF; rw [if_pos (by omega), Int.toNat_natCast]
  have tl : (l.take j).length = j := by rw [List.length_take]; omega
  have dl : (l.drop j).length = l.length - j := List.length_drop ..
  have fin : ((slcT l (j : Int)).bind fun v2 =>
      (app 8 ([] : List Int) v2).bind fun v3 =>
      (app 8 v3 [x]).bind fun v4 =>
      (slcF l (j : Int)).bind fun v5 =>
      (app 8 v4 v5).bind fun v6 =>
      some v6) = some (l.take j ++ [x] ++ l.drop j) := by
    rw [eT, Option.bind_some, app_ok (by simp only [List.length_nil]; omega), Option.bind_some, List.nil_append, app_ok (by simp only [List.length_cons, List.length_nil]; omega), Option.bind_some, eF, Option.bind_some, app_ok (by simp only [List.length_append, List.length_cons, List.length_nil]; omega)]; rfl
  have res : ∃ l', some (l.take j ++ [x] ++ l.drop j) = some l' ∧ (∀ y, y ∈ l' ↔ y ∈ l ∨ y = x) ∧ l'.length ≤ l.length + 1 := by
    refine ⟨_, rfl, fun y => ?_, by simp only [List.length_append, List.length_cons, List.length_nil]; omega⟩
    conv => rhs; rw [← List.take_append_drop j l]
    simp only [List.mem_append, List.mem_singleton]
    constructor
    · rintro ((h | h) | h)
      · exact .inl (.inl h)
      · exact .inr h
      · exact .inl (.inr h)
    · rintro ((h | h) | h)
      · exact .inl (.inl h)
      · exact .inr h
      · exact .inl (.inr h)
  by_cases c : j < l.length
  · have e2 : idx l (j : Int) = some l[j] := by unfold idx; rw [if_pos (by omega), Int.toNat_natCast, List.getElem?_eq_getElem c]
    rw [if_pos (by omega), e2, Option.bind_some]
    by_cases c2 : l[j] = x
    · rw [if_pos c2]
      refine ⟨l, rfl, fun y => ⟨fun h => .inl h, fun h => ?_⟩, by omega⟩
      rcases h with h | rfl
      · exact h
      · rw [← c2]; exact List.getElem_mem c
    · rw [if_neg c2, fin]; exact res
  · rw [if_neg (by omega), fin]; exact res
/-- one state of each set -/
def inL : List (List Int) → List Int → Bool
  | [], _ => true
  | _ :: _, [] => true
  | A :: As, f :: fs => decide (f ∈ A) && inL As fs
theorem fits_while {A : List (List Int)} {F : List Int} (hA : A.length ≤ 1000) (hAl : ∀ x ∈ A, x.length ≤ 1000) {R : Type} (k : Bool × Int → Option R) : ∀ (As : List (List Int)) (fs : List Int) (i m : Nat) (b : Bool), A.drop i = As → F.drop i = fs → fs.length = As.length → As.length + 2 ≤ m →
    ∃ z, whileC (fun (s4 : Bool × Int) n4 =>
      if s4.1 = true then
        if s4.2 < (A.length : Int) then
          (idx A s4.2).bind fun v2 =>
          (idx F s4.2).bind fun v3 =>
          (ref03_In v2 v3).bind fun v4 =>
          n4 (v4, w64 (s4.2 + 1))
        else
          k (true, s4.2)
      else
        k (false, s4.2)) m (b, (i : Int)) = k (b && inL As fs, z)
  | As, fs, i, 0, b, _, _, _, hm => by omega
  | [], fs, i, m + 1, b, hd, _, _, hm => by
    have : A.length ≤ i := List.drop_eq_nil_iff.1 hd
    rw [whileC, inL, Bool.and_true]
    cases b with
    | false => exact ⟨_, by rw [if_neg (by simp)]⟩
    | true => exact ⟨_, by rw [if_pos rfl, if_neg (by simp only []; omega)]⟩
  | X :: As, [], i, m + 1, b, hd, hf, hl, hm => by cases hl
  | X :: As, f :: fs, i, m + 1, b, hd, hf, hl, hm => by
    have hi : i < A.length := by
      rcases Nat.lt_or_ge i A.length with h | h
      · exact h
      · rw [List.drop_eq_nil_of_le h] at hd; cases hd
    have hif : i < F.length := by
      rcases Nat.lt_or_ge i F.length with h | h
      · exact h
      · rw [List.drop_eq_nil_of_le h] at hf; cases hf
    rw [List.drop_eq_getElem_cons hi] at hd
    injection hd with hd1 hd2
    rw [List.drop_eq_getElem_cons hif] at hf
    injection hf with hf1 hf2
    rw [whileC, inL]
    cases b with
    | false => exact ⟨_, by rw [if_neg (by simp), Bool.false_and]⟩
    | true =>
      rw [if_pos rfl]
      simp only [Bool.true_and]
      have e1 : idx A (i : Int) = some X := by unfold idx; rw [if_pos (by omega), Int.toNat_natCast, List.getElem?_eq_getElem hi, hd1]
      have e2 : idx F (i : Int) = some f := by unfold idx; rw [if_pos (by omega), Int.toNat_natCast, List.getElem?_eq_getElem hif, hf1]
      have hX : X ∈ A := by rw [← hd1]; exact List.getElem_mem hi
      rw [if_pos (by omega), e1, Option.bind_some, e2, Option.bind_some, in_eq X f (by have := hAl X hX; omega), Option.bind_some, w64_eq (by omega) (by omega), show ((i : Int) + 1) = ((i + 1 : Nat) : Int) by omega]
      exact fits_while hA hAl k As fs (i + 1) m (decide (f ∈ X)) hd2 hf2 (by simpa using hl) (by simp only [List.length_cons] at hm; omega)
theorem Step_eq {r : List Int} {a : Automaton} (ha : OKa r a) {n : Nat} {s : Int} {A : List (List Int)} (hrk : (A.length : Int) = rk r s) (hA : A.length ≤ 300) (hAl : ∀ x ∈ A, x.length ≤ 1000) (hn : 402 ≤ n) :
    ∃ out, ref03_Step n a s A = some out ∧ (∀ y, y ∈ out ↔ ∃ x ∈ a.Rules, x.Sym = s ∧ x.To = y ∧ inL A x.From = true) ∧ out.length ≤ 400 := by
  have hrul := ha.rul
  unfold ref03_Step
  rw [rangeL, if_pos (by omega)]
  have H : ∀ (l : List Rule) (i : Nat) (o : List Int), (∀ x ∈ l, x ∈ a.Rules) → o.length + l.length ≤ 400 →
      ∃ out, rangeC (fun i3 x3 (s3 : (List Int)) n3 =>
    whileL n ((x3.Sym == s), 0) (fun k4 (s4 : Bool × Int) n4 =>
      if s4.1 = true then
        if s4.2 < (A.length : Int) then
          (idx A s4.2).bind fun v2 =>
          (idx x3.From s4.2).bind fun v3 =>
          (ref03_In v2 v3).bind fun v4 =>
          n4 (v4, w64 (s4.2 + 1))
        else
          k4 (true, s4.2)
      else
        k4 (false, s4.2)) fun s4 =>
    if s4.1 = true then
      (ref03_Insert n s3 x3.To).bind fun v1 =>
      n3 v1
    else
      n3 s3) l i o (fun s3 => some s3) = some out ∧ (∀ y, y ∈ out ↔ y ∈ o ∨ ∃ x ∈ l, x.Sym = s ∧ x.To = y ∧ inL A x.From = true) ∧ out.length ≤ 400 := by
    intro l
    induction l with
    | nil => intro i o _ h; exact ⟨o, rfl, fun y => by simp, by simpa using h⟩
    | cons x l ih =>
      intro i o hx hl
      have hmem := hx x (by simp)
      have hsy := ha.sym x hmem
      rw [List.length_cons] at hl
      have hW : ∀ k : Bool × Int → Option (List Int), ∃ z, whileC (fun (s4 : Bool × Int) n4 =>
      if s4.1 = true then
        if s4.2 < (A.length : Int) then
          (idx A s4.2).bind fun v2 =>
          (idx x.From s4.2).bind fun v3 =>
          (ref03_In v2 v3).bind fun v4 =>
          n4 (v4, w64 (s4.2 + 1))
        else
          k (true, s4.2)
      else
        k (false, s4.2)) n ((x.Sym == s), 0) = k (decide (x.Sym = s) && inL A x.From, z) := by
        intro k
        by_cases c : x.Sym = s
        · rw [decide_eq_true c, show (x.Sym == s) = true by simp [c]]
          have hfl : x.From.length = A.length := by have := hsy.2.2; rw [c] at this; omega
          exact fits_while (by omega) hAl k A x.From 0 n true rfl rfl hfl (by omega)
        · rw [decide_eq_false c, show (x.Sym == s) = false by simp [c], Bool.false_and]
          obtain ⟨n', rfl⟩ : ∃ n', n = n' + 1 := ⟨n - 1, by omega⟩
          exact ⟨0, by rw [whileC, if_neg (by simp)]⟩
      rw [rangeC, whileL]
      obtain ⟨z, e⟩ := hW (fun s4 =>
    if s4.1 = true then
      (ref03_Insert n o x.To).bind fun v1 =>
      (fun s' => rangeC (fun i3 x3 (s3 : (List Int)) n3 =>
    whileL n ((x3.Sym == s), 0) (fun k4 (s4 : Bool × Int) n4 =>
      if s4.1 = true then
        if s4.2 < (A.length : Int) then
          (idx A s4.2).bind fun v2 =>
          (idx x3.From s4.2).bind fun v3 =>
          (ref03_In v2 v3).bind fun v4 =>
          n4 (v4, w64 (s4.2 + 1))
        else
          k4 (true, s4.2)
      else
        k4 (false, s4.2)) fun s4 =>
    if s4.1 = true then
      (ref03_Insert n s3 x3.To).bind fun v1 =>
      n3 v1
    else
      n3 s3) l (i + 1) s' (fun s3 => some s3)) v1
    else
      (fun s' => rangeC (fun i3 x3 (s3 : (List Int)) n3 =>
    whileL n ((x3.Sym == s), 0) (fun k4 (s4 : Bool × Int) n4 =>
      if s4.1 = true then
        if s4.2 < (A.length : Int) then
          (idx A s4.2).bind fun v2 =>
          (idx x3.From s4.2).bind fun v3 =>
          (ref03_In v2 v3).bind fun v4 =>
          n4 (v4, w64 (s4.2 + 1))
        else
          k4 (true, s4.2)
      else
        k4 (false, s4.2)) fun s4 =>
    if s4.1 = true then
      (ref03_Insert n s3 x3.To).bind fun v1 =>
      n3 v1
    else
      n3 s3) l (i + 1) s' (fun s3 => some s3)) o)
      have hsplit : ∀ {o' : List Int} {out : List Int} (c : Bool), (∀ y, y ∈ o' ↔ y ∈ o ∨ (c = true ∧ y = x.To)) → c = (decide (x.Sym = s) && inL A x.From) → (∀ y, y ∈ out ↔ y ∈ o' ∨ ∃ x ∈ l, x.Sym = s ∧ x.To = y ∧ inL A x.From = true) → ∀ y, y ∈ out ↔ y ∈ o ∨ ∃ z ∈ x :: l, z.Sym = s ∧ z.To = y ∧ inL A z.From = true := by
        intro o' out c h1 hc h2 y
        rw [h2, h1]
        constructor
        · rintro ((h | ⟨h, rfl⟩) | ⟨z, hz, h⟩)
          · exact .inl h
          · rw [hc, Bool.and_eq_true, decide_eq_true_eq] at h
            exact .inr ⟨x, by simp, h.1, rfl, h.2⟩
          · exact .inr ⟨z, List.mem_cons_of_mem _ hz, h⟩
        · rintro (h | ⟨z, hz, h⟩)
          · exact .inl (.inl h)
          · rcases List.mem_cons.1 hz with rfl | hz
            · exact .inl (.inr ⟨by rw [hc, Bool.and_eq_true, decide_eq_true_eq]; exact ⟨h.1, h.2.2⟩, h.2.1.symm⟩)
            · exact .inr ⟨z, hz, h⟩
      cases c : (decide (x.Sym = s) && inL A x.From) with
      | true =>
        obtain ⟨o', eo, ho, hol⟩ := Insert_eq (n := n) (l := o) (x := x.To) (by omega) (by omega)
        obtain ⟨out, e2, h2, h3⟩ := ih (i + 1) o' (fun y hy => hx y (List.mem_cons_of_mem _ hy)) (by omega)
        refine ⟨out, ?_, hsplit true (fun y => by rw [ho]; simp) c.symm h2, h3⟩
        refine e.trans ?_
        rw [c]
        simp only [if_true]
        rw [eo, Option.bind_some]; exact e2
      | false =>
        obtain ⟨out, e2, h2, h3⟩ := ih (i + 1) o (fun y hy => hx y (List.mem_cons_of_mem _ hy)) (by omega)
        refine ⟨out, ?_, hsplit false (fun y => by simp) c.symm h2, h3⟩
        refine e.trans ?_
        rw [c]
        exact e2
  obtain ⟨out, e, h1, h2⟩ := H a.Rules 0 [] (fun _ h => h) (by simp; omega)
  exact ⟨out, e, fun y => by rw [h1]; simp, h2⟩
theorem Of_eq {r : List Int} {a : Automaton} (ha : OKa r a) : ∀ (n : Nat) (t : Tree), tdT t + 403 ≤ n → shT r t = true → tsT t ≤ 300 → ∃ l, ref03_Of n a t = some l ∧ (∀ q, q ∈ l ↔ stT a t q = true) ∧ l.length ≤ 400
  | 0, _, h, _, _ => by omega
  | n + 1, t, hd, hs, hl => by
    rw [tdT_eq] at hd
    have hts := tsT_eq t
    have htl := tlen t.Kids
    obtain ⟨s1, s2, s3, s4⟩ := sh_parts hs
    unfold ref03_Of
    rw [rangeL, if_pos (by omega)]
    have H : ∀ (ks : List Tree) (i : Nat) (acc : List (List Int)) (K : List (List Int) → Option (List Int)), tdL ks + 403 ≤ n + 1 → shL r ks = true → tsL ks ≤ 300 → acc.length + ks.length ≤ 1000 →
        ∃ A, rangeC (fun i1 x1 (s1 : (List (List Int))) n1 =>
      (ref03_Of n a x1).bind fun v2 =>
      (app 24 s1 [v2]).bind fun v3 =>
      n1 v3) ks i acc K = K (acc ++ A) ∧ A.length = ks.length ∧ (∀ x ∈ A, x.length ≤ 1000) ∧ ∀ f : List Int, inL A f = stL a ks f := by
      intro ks
      induction ks with
      | nil => intro i acc K _ _ _ _; refine ⟨[], by rw [rangeC, List.append_nil], rfl, (fun x h => by cases h), fun f => by rw [inL, stL]⟩
      | cons k ks ih =>
        intro i acc K h1 h2 h3 h4
        have hdk : tdT k + 1 ≤ tdL (k :: ks) := td_mem (by simp)
        have hdks : tdL ks ≤ tdL (k :: ks) := by rw [tdL]; omega
        obtain ⟨q1, q2⟩ := shL_cons h2
        rw [tsL] at h3
        rw [List.length_cons] at h4
        obtain ⟨v, ev, hv, hvl⟩ := Of_eq ha n k (by omega) q1 (by omega)
        obtain ⟨A, e, h5, h6, h7⟩ := ih (i + 1) (acc ++ [v]) K (by omega) q2 (by omega) (by simp only [List.length_append, List.length_cons, List.length_nil]; omega)
        refine ⟨v :: A, ?_, by rw [List.length_cons, List.length_cons, h5], fun x hx => ?_, fun f => ?_⟩
        · rw [rangeC, ev, Option.bind_some, app_ok (by simp only [List.length_cons, List.length_nil]; omega), Option.bind_some]
          show rangeC _ ks (i + 1) _ K = _
          rw [e, List.append_assoc]; rfl
        · rcases List.mem_cons.1 hx with rfl | hx
          · omega
          · exact h6 x hx
        · cases f with
          | nil => rw [inL, stL]
          | cons f fs =>
            rw [inL, stL, h7]
            congr 1
            by_cases c : f ∈ v
            · rw [decide_eq_true c, (hv f).1 c]
            · rw [decide_eq_false c]; exact (Bool.eq_false_iff.2 (fun h => c ((hv f).2 h))).symm
    obtain ⟨A, e, h5, h6, h7⟩ := H t.Kids 0 [] (fun s1 => (ref03_Step n a t.Sym s1).bind fun v1 => some v1) (by omega) s4 (by omega) (by simp; omega)
    obtain ⟨out, e2, h8, h9⟩ := Step_eq ha (n := n) (s := t.Sym) (A := A) (by rw [h5]; exact s3) (by omega) h6 (by omega)
    refine ⟨out, ?_, fun q => ?_, h9⟩
    · rw [e, List.nil_append, e2]; rfl
    · rw [h8, stT_eq, List.any_eq_true]
      constructor
      · rintro ⟨x, hx, g1, g2, g3⟩
        exact ⟨x, hx, by rw [← h7, g3, decide_eq_true ⟨g1, g2⟩]; rfl⟩
      · rintro ⟨x, hx, g⟩
        rw [Bool.and_eq_true, decide_eq_true_eq, ← h7] at g
        exact ⟨x, hx, g.1.1, g.1.2, g.2⟩
theorem Has_eq {r : List Int} {a : Automaton} (ha : OKa r a) {n : Nat} {t : Tree} (hd : tdT t + 403 ≤ n) (hs : shT r t = true) (hl : tsT t ≤ 300) : ref03_Has n a t = some (a.Final.find? (stT a t)).isSome := by
  obtain ⟨l, e, h1, h2⟩ := Of_eq ha n t hd hs hl
  unfold ref03_Has ref03_Meet
  rw [e, Option.bind_some, rangeL, if_pos (by omega)]
  have H : ∀ (l : List Int) (i : Nat), rangeC (fun i1 x1 (s1 : Unit) n1 =>
    (ref03_In a.Final x1).bind fun v1 =>
    if v1 = true then
      some true
    else
      n1 ()) l i () (fun s1 => some false) = some (l.any fun x => decide (x ∈ a.Final)) := by
    intro l
    induction l with
    | nil => intro i; rfl
    | cons x l ih =>
      intro i
      rw [rangeC, in_eq _ _ (by have := ha.fin; omega), Option.bind_some, List.any_cons]
      cases decide (x ∈ a.Final) with
      | true => rw [if_pos rfl, Bool.true_or]
      | false => rw [if_neg (by simp), Bool.false_or]; exact ih (i + 1)
  rw [H l 0, Option.bind_some]
  congr 1
  rw [Bool.eq_iff_iff, List.any_eq_true, List.find?_isSome]
  constructor
  · rintro ⟨x, hx, h⟩
    exact ⟨x, of_decide_eq_true h, (h1 x).1 hx⟩
  · rintro ⟨x, hx, h⟩
    exact ⟨x, (h1 x).2 h, decide_eq_true hx⟩
theorem awake_eq (m : Nat) : law03_awake (m + 40) = some true := by rfl
mutual
theorem st_mono {S S' : Int} {F F' : List Int} {R N : List Rule} : ∀ (t : Tree) (q : Int), stT ⟨S, F, R⟩ t q = true → stT ⟨S', F', R ++ N⟩ t q = true
  | .mk s ks, q, h => by
    rw [stT, List.any_eq_true] at h ⊢
    obtain ⟨x, hx, h⟩ := h
    rw [Bool.and_eq_true] at h
    exact ⟨x, List.mem_append_left _ hx, by rw [Bool.and_eq_true]; exact ⟨h.1, stL_mono ks _ h.2⟩⟩
theorem stL_mono {S S' : Int} {F F' : List Int} {R N : List Rule} : ∀ (ks : List Tree) (f : List Int), stL ⟨S, F, R⟩ ks f = true → stL ⟨S', F', R ++ N⟩ ks f = true
  | [], _, _ => by rw [stL]
  | _ :: _, [], _ => by rw [stL]
  | k :: ks, f :: fs, h => by
    rw [stL, Bool.and_eq_true] at h ⊢
    exact ⟨st_mono k f h.1, stL_mono ks fs h.2⟩
end
def keyOf (x : Rule) : Str := strB (kS x.Sym x.From)
/-- the state q is below s -/
inductive Bel (R : List Rule) (s : Int) : Int → Prop
  | refl : Bel R s s
  | step {x : Rule} {q : Int} : Bel R s x.To → x ∈ R → q ∈ x.From → Bel R s q
theorem Bel.mono {R N : List Rule} {s q : Int} (h : Bel R s q) : Bel (R ++ N) s q := by
  induction h with
  | refl => exact .refl
  | step _ hx hq ih => exact .step ih (List.mem_append_left _ hx) hq
theorem Bel.trans {R : List Rule} {s f q : Int} (h : Bel R s f) (k : Bel R f q) : Bel R s q := by
  induction k with
  | refl => exact h
  | step _ hx hq ih => exact .step ih hx hq
/-- what Single has built so far -/
structure SG (r : List Int) (R : List Rule) (m : List (Str × Int)) : Prop where
  to : ∀ (i : Nat) x, R[i]? = some x → x.To = (i : Int)
  frm : ∀ (i : Nat) x, R[i]? = some x → ∀ s ∈ x.From, 0 ≤ s ∧ s < (i : Int)
  shp : ∀ x ∈ R, 0 ≤ x.Sym ∧ x.Sym < r.length ∧ (x.From.length : Int) = rk r x.Sym
  map1 : ∀ (i : Nat) x, R[i]? = some x → mget (keyOf x) m = some (i : Int)
  map2 : ∀ k v, mget k m = some v → ∃ (i : Nat) (x : Rule), R[i]? = some x ∧ k = keyOf x ∧ v = (i : Int)
theorem SG.nil (r : List Int) : SG r [] [] := ⟨fun i x h => by simp at h, fun i x h => by simp at h, fun x h => by simp at h, fun i x h => by simp at h, fun k v h => by cases h⟩
theorem get_snoc {α : Type} {R : List α} {y : α} {i : Nat} {x : α} (h : (R ++ [y])[i]? = some x) : (R[i]? = some x ∧ i < R.length) ∨ (i = R.length ∧ x = y) := by
  rcases Nat.lt_trichotomy i R.length with e | e | e
  · rw [List.getElem?_append_left e] at h; exact .inl ⟨h, e⟩
  · rw [List.getElem?_append_right (by omega), e, Nat.sub_self] at h
    injection h with h
    exact .inr ⟨e, h.symm⟩
  · rw [List.getElem?_eq_none (by rw [List.length_append, List.length_cons, List.length_nil]; omega)] at h; cases h
theorem SG.snoc {r : List Int} {R : List Rule} {m : List (Str × Int)} (h : SG r R m) {sym : Int} {fs : List Int} (h1 : 0 ≤ sym ∧ sym < r.length ∧ (fs.length : Int) = rk r sym) (h2 : ∀ s ∈ fs, 0 ≤ s ∧ s < (R.length : Int)) (hn : mget (strB (kS sym fs)) m = none) :
    SG r (R ++ [⟨sym, fs, (R.length : Int)⟩]) (mput (strB (kS sym fs)) (R.length : Int) m) := by
  refine ⟨fun i x hi => ?_, fun i x hi => ?_, fun x hx => ?_, fun i x hi => ?_, fun k v hk => ?_⟩
  · rcases get_snoc hi with ⟨hi, _⟩ | ⟨rfl, rfl⟩
    · exact h.to i x hi
    · rfl
  · rcases get_snoc hi with ⟨hi, _⟩ | ⟨rfl, rfl⟩
    · exact h.frm i x hi
    · exact h2
  · rcases List.mem_append.1 hx with hx | hx
    · exact h.shp x hx
    · simp only [List.mem_singleton] at hx; subst hx; exact h1
  · rw [mget_mput]
    rcases get_snoc hi with ⟨hi, _⟩ | ⟨rfl, rfl⟩
    · have := h.map1 i x hi
      rw [if_neg (fun e => by rw [e, hn] at this; cases this)]
      exact this
    · exact if_pos rfl
  · rw [mget_mput] at hk
    split at hk
    · rename_i e
      injection hk with hk
      exact ⟨R.length, ⟨sym, fs, (R.length : Int)⟩, by rw [List.getElem?_append_right (Nat.le_refl _), Nat.sub_self]; rfl, e, hk.symm⟩
    · obtain ⟨i, x, h3, h4, h5⟩ := h.map2 k v hk
      exact ⟨i, x, by rw [List.getElem?_append_left (List.getElem?_eq_some_iff.1 h3).1]; exact h3, h4, h5⟩
theorem add_eq {r : List Int} (hr : r.length ≤ 12) {F : List Int} : ∀ (n : Nat) (t : Tree) (R : List Rule) (m : List (Str × Int)), tdT t + 5 ≤ n → shT r t = true → SG r R m → R.length + tsT t ≤ 300 →
    ∃ (s : Int) (R' : List Rule) (m' : List (Str × Int)), auto_Single_1_xcefd n t ⟨(R.length : Int), F, R⟩ m = some (s, ⟨(R'.length : Int), F, R'⟩, m') ∧ SG r R' m' ∧ (∃ N, R' = R ++ N) ∧ R'.length ≤ R.length + tsT t ∧ (0 ≤ s ∧ s < (R'.length : Int)) ∧
      stT ⟨0, [], R'⟩ t s = true ∧ ∀ q : Nat, R.length ≤ q → q < R'.length → Bel R' s (q : Int)
  | 0, _, _, _, h, _, _, _ => by omega
  | n + 1, t, R, m, hd, hs, hG, hl => by
    rw [tdT_eq] at hd
    have hts := tsT_eq t
    have htl := tlen t.Kids
    obtain ⟨s1, s2, s3, s4⟩ := sh_parts hs
    unfold auto_Single_1_xcefd
    rw [rangeL, if_pos (by omega)]
    have H : ∀ (ks : List Tree) (i : Nat) (acc : List Int) (R : List Rule) (m : List (Str × Int)) (K : List Int × Int × List Int × List Rule × List (Str × Int) → Option (Int × Automaton × List (Str × Int))), tdL ks + 5 ≤ n + 1 → shL r ks = true → SG r R m → R.length + tsL ks ≤ 300 → acc.length + ks.length ≤ 1000 →
        ∃ (fs : List Int) (R' : List Rule) (m' : List (Str × Int)), rangeC (fun i1 x1 (s1 : (List Int) × Int × (List Int) × (List Rule) × (List (Str × Int))) n1 =>
      (auto_Single_1_xcefd n x1 (Automaton.mk s1.2.1 s1.2.2.1 s1.2.2.2.1) s1.2.2.2.2).bind fun v3 =>
      (app 8 s1.1 [v3.1]).bind fun v4 =>
      n1 (v4, v3.2.1.States, v3.2.1.Final, v3.2.1.Rules, v3.2.2)) ks i (acc, (R.length : Int), F, R, m) K = K (acc ++ fs, (R'.length : Int), F, R', m') ∧ SG r R' m' ∧ (∃ N, R' = R ++ N) ∧ R'.length ≤ R.length + tsL ks ∧ fs.length = ks.length ∧
          (∀ f ∈ fs, 0 ≤ f ∧ f < (R'.length : Int)) ∧ stL ⟨0, [], R'⟩ ks fs = true ∧ ∀ q : Nat, R.length ≤ q → q < R'.length → ∃ f ∈ fs, Bel R' f (q : Int) := by
      intro ks
      induction ks with
      | nil =>
        intro i acc R m K _ _ hG _ _
        exact ⟨[], R, m, by rw [rangeC, List.append_nil], hG, ⟨[], by rw [List.append_nil]⟩, by omega, rfl, (fun f h => by cases h), by rw [stL], fun q h1 h2 => by omega⟩
      | cons k ks ih =>
        intro i acc R m K h1 h2 hG h3 h4
        have hdk : tdT k + 1 ≤ tdL (k :: ks) := td_mem (by simp)
        have hdks : tdL ks ≤ tdL (k :: ks) := by rw [tdL]; omega
        obtain ⟨q1, q2⟩ := shL_cons h2
        rw [tsL] at h3
        rw [List.length_cons] at h4
        obtain ⟨s, R1, m1, e1, g1, ⟨N1, hN1⟩, l1, b1, t1, z1⟩ := add_eq hr (F := F) n k R m (by omega) q1 hG (by omega)
        obtain ⟨fs, R2, m2, e2, g2, ⟨N2, hN2⟩, l2, k2, b2, t2, z2⟩ := ih (i + 1) (acc ++ [s]) R1 m1 K (by omega) q2 g1 (by omega) (by simp only [List.length_append, List.length_cons, List.length_nil]; omega)
        have hle : R1.length ≤ R2.length := by rw [hN2, List.length_append]; omega
        refine ⟨s :: fs, R2, m2, ?_, g2, ⟨N1 ++ N2, by rw [hN2, hN1, List.append_assoc]⟩, by rw [tsL]; omega, by rw [List.length_cons, List.length_cons, k2], fun f hf => ?_, ?_, fun q hq1 hq2 => ?_⟩
        · rw [rangeC]
          simp only []
          rw [e1, Option.bind_some]
          simp only []
          rw [app_ok (by simp only [List.length_cons, List.length_nil]; omega), Option.bind_some]
          show rangeC _ ks (i + 1) _ K = _
          rw [e2, List.append_assoc]; rfl
        · rcases List.mem_cons.1 hf with rfl | hf
          · exact ⟨b1.1, by omega⟩
          · exact b2 f hf
        · rw [stL, t2, Bool.and_true, hN2]
          exact st_mono k s t1
        · by_cases c : q < R1.length
          · refine ⟨s, by simp, ?_⟩
            rw [hN2]
            exact (z1 q hq1 c).mono
          · obtain ⟨f, hf, hb⟩ := z2 q (by omega) hq2
            exact ⟨f, List.mem_cons_of_mem _ hf, hb⟩
    obtain ⟨fs, R1, m1, e1, g1, ⟨N1, hN1⟩, l1, k1, b1, t1, z1⟩ := H t.Kids 0 [] R m (fun s1 =>
    (auto_key n t.Sym s1.1).bind fun v1 =>
    if ((mget v1 s1.2.2.2.2).isSome) = true then
      some (((mget v1 s1.2.2.2.2).getD 0), (Automaton.mk s1.2.1 s1.2.2.1 s1.2.2.2.1), s1.2.2.2.2)
    else
      (app 40 s1.2.2.2.1 [(Rule.mk t.Sym s1.1 s1.2.1)]).bind fun v2 =>
      some (s1.2.1, (Automaton.mk (w64 (s1.2.1 + 1)) s1.2.2.1 v2), (mput v1 s1.2.1 s1.2.2.2.2))) (by omega) s4 hG (by omega) (by simp; omega)
    rw [List.nil_append] at e1
    have hfi : ∀ x ∈ fs, I64 x := fun x hx => i64_small (b1 x hx).1 (by have := (b1 x hx).2; omega)
    have hsi : I64 t.Sym := i64_small s1 (by omega)
    have hfl : (fs.length : Int) = rk r t.Sym := by rw [k1]; exact s3
    simp only []
    rw [e1]
    simp only []
    rw [key_eq (by omega) hsi hfi (by omega), Option.bind_some]
    cases hm : mget (strB (kS t.Sym fs)) m1 with
    | some v =>
      obtain ⟨i, x, h1, h2, h3⟩ := g1.map2 _ _ hm
      have hx := List.mem_of_getElem? h1
      have hxs := g1.shp x hx
      obtain ⟨e3, e4⟩ := key_inj hsi (i64_small hxs.1 (by omega)) hfi (fun y hy => i64_small (g1.frm i x h1 y hy).1 (by have := (g1.frm i x h1 y hy).2; have := (List.getElem?_eq_some_iff.1 h1).1; omega)) h2
      have hi := (List.getElem?_eq_some_iff.1 h1).1
      have hto := g1.to i x h1
      refine ⟨v, R1, m1, rfl, g1, ⟨N1, hN1⟩, by omega, ⟨by omega, by omega⟩, ?_, fun q hq1 hq2 => ?_⟩
      · rw [stT_eq, List.any_eq_true]
        exact ⟨x, hx, by rw [← e4, t1, decide_eq_true ⟨e3.symm, by rw [hto, h3]⟩]; rfl⟩
      · obtain ⟨f, hf, hb⟩ := z1 q hq1 hq2
        exact Bel.trans (Bel.step (x := x) (by rw [hto, h3]; exact .refl) hx (by rw [← e4]; exact hf)) hb
    | none =>
      simp only [Option.isSome_none, Bool.false_eq_true, if_false]
      rw [app_ok (by simp only [List.length_cons, List.length_nil]; omega), Option.bind_some, w64_eq (by omega) (by omega)]
      have hx : (⟨t.Sym, fs, (R1.length : Int)⟩ : Rule) ∈ R1 ++ [⟨t.Sym, fs, (R1.length : Int)⟩] := by simp
      have hlen : (R1 ++ [(⟨t.Sym, fs, (R1.length : Int)⟩ : Rule)]).length = R1.length + 1 := by simp
      refine ⟨(R1.length : Int), R1 ++ [⟨t.Sym, fs, (R1.length : Int)⟩], mput (strB (kS t.Sym fs)) (R1.length : Int) m1, ?_, g1.snoc ⟨s1, s2, hfl⟩ b1 hm, ⟨N1 ++ [⟨t.Sym, fs, (R1.length : Int)⟩], by rw [hN1, List.append_assoc]⟩, by rw [hlen]; omega, ⟨by omega, by rw [hlen]; omega⟩, ?_, fun q hq1 hq2 => ?_⟩
      · rw [hlen]; rfl
      · rw [stT_eq, List.any_eq_true]
        refine ⟨_, hx, ?_⟩
        rw [decide_eq_true ⟨rfl, rfl⟩, Bool.true_and]
        exact stL_mono _ _ t1
      · rw [hlen] at hq2
        by_cases c : q < R1.length
        · obtain ⟨f, hf, hb⟩ := z1 q hq1 c
          exact Bel.trans (Bel.step (x := ⟨t.Sym, fs, (R1.length : Int)⟩) .refl hx hf) hb.mono
        · rw [show q = R1.length by omega]; exact .refl
theorem less_eq (a b : List Int) (ha : a.length ≤ 1000) (hb : b.length ≤ 1000) : ∃ c, ref03_Less a b = some c ∧ (c = 0 ↔ a = b) := by
  unfold ref03_Less
  have hm : minI (a.length : Int) (b.length : Int) = ((min a.length b.length : Nat) : Int) := by unfold minI; split <;> omega
  rw [hm, rangeI, if_pos (by omega), Int.toNat_natCast]
  have H : ∀ (m p : Nat), p + m = min a.length b.length → (∀ i, i < p → a[i]? = b[i]?) → ∃ c, rangeC (fun i1 (_ : Unit) (s1 : Unit) (n1 : Unit → Option Int) =>
      (a[i1]?).bind fun v1 => (b[i1]?).bind fun v2 => if v1 < v2 then some (-1) else if v2 < v1 then some 1 else n1 ()) (List.replicate m ()) p () (fun s1 => if (a.length : Int) < (b.length : Int) then some (-1) else if (b.length : Int) < (a.length : Int) then some 1 else some 0) = some c ∧ (c = 0 ↔ a = b) := by
    intro m
    induction m with
    | zero =>
      intro p hp he
      rw [List.replicate_zero, rangeC]
      by_cases c1 : a.length < b.length
      · exact ⟨-1, by rw [if_pos (by omega)], ⟨fun h => by omega, fun h => by rw [h] at c1; omega⟩⟩
      · rw [if_neg (by omega)]
        by_cases c2 : b.length < a.length
        · exact ⟨1, by rw [if_pos (by omega)], ⟨fun h => by omega, fun h => by rw [h] at c2; omega⟩⟩
        · refine ⟨0, by rw [if_neg (by omega)], ⟨fun _ => ?_, fun _ => rfl⟩⟩
          apply List.ext_getElem?
          intro i
          by_cases hi : i < p
          · exact he i hi
          · rw [List.getElem?_eq_none (by omega), List.getElem?_eq_none (by omega)]
    | succ m ih =>
      intro p hp he
      have h1 : p < a.length := by omega
      have h2 : p < b.length := by omega
      rw [List.replicate_succ, rangeC, List.getElem?_eq_getElem h1, Option.bind_some, List.getElem?_eq_getElem h2, Option.bind_some]
      have hne : a[p] ≠ b[p] → a ≠ b := fun h e => by subst e; exact h rfl
      by_cases c1 : a[p] < b[p]
      · exact ⟨-1, by rw [if_pos c1], ⟨fun h => by omega, fun h => absurd h (hne (by omega))⟩⟩
      · rw [if_neg c1]
        by_cases c2 : b[p] < a[p]
        · exact ⟨1, by rw [if_pos c2], ⟨fun h => by omega, fun h => absurd h (hne (by omega))⟩⟩
        · rw [if_neg c2]
          exact ih (p + 1) (by omega) (fun i hi => by
            by_cases e : i = p
            · subst e; rw [List.getElem?_eq_getElem h1, List.getElem?_eq_getElem h2]; congr 1; omega
            · exact he i (by omega))
  exact H _ 0 (by omega) (fun i hi => by omega)
def kL (x : Rule) : List Int := x.Sym :: (x.From ++ [x.To])
theorem rkey_eq (x : Rule) (h : x.From.length ≤ 100) : ref03_key x = some (kL x) := by
  unfold ref03_key
  rw [app_ok (by simp only [List.length_cons, List.length_nil]; omega), Option.bind_some, app_ok (by simp only [List.length_append, List.length_cons, List.length_nil]; omega)]; rfl
theorem kL_inj {x y : Rule} (h : kL x = kL y) : x = y := by
  unfold kL at h
  injection h with h1 h2
  obtain ⟨h3, h4⟩ := snoc_inj h2
  cases x; cases y
  simp only at h1 h3 h4
  rw [h1, h3, h4]
theorem kL_len {x : Rule} (h : x.From.length ≤ 100) : (kL x).length ≤ 1000 := by
  unfold kL; rw [List.length_cons, List.length_append]; simp only [List.length_cons, List.length_nil]; omega
theorem search_eq {L : List Rule} {x : Rule} {n : Nat} (hL : L.length ≤ 1000) (hf : ∀ y ∈ L, y.From.length ≤ 100) (hx : x.From.length ≤ 100) {R : Type} (k : Int × Int → Option R) : ∀ (d lo hi : Nat), lo ≤ hi → hi ≤ L.length → hi - lo < d →
    ∃ (j : Nat) (z : Int), j ≤ L.length ∧ whileC (fun (s2 : Int × Int) n2 =>
      if s2.1 < s2.2 then
        (idx L (w64 (Int.tdiv (w64 (s2.1 + s2.2)) 2))).bind fun v1 =>
        (ref03_key v1).bind fun v2 =>
        (ref03_key x).bind fun v3 =>
        (ref03_Less v2 v3).bind fun v4 =>
        if v4 < 0 then
          n2 (w64 ((w64 (Int.tdiv (w64 (s2.1 + s2.2)) 2)) + 1), s2.2)
        else
          n2 (s2.1, w64 (Int.tdiv (w64 (s2.1 + s2.2)) 2))
      else
        k (s2.1, s2.2)) d ((lo : Int), (hi : Int)) = k ((j : Int), z)
  | 0, lo, hi, _, _, h => by omega
  | d + 1, lo, hi, h1, h2, h3 => by
    rw [whileC]
    by_cases c : lo < hi
    · rw [if_pos (by simp only []; omega)]
      simp only []
      have e1 : w64 (Int.tdiv (w64 ((lo : Int) + (hi : Int))) 2) = (((lo + hi) / 2 : Nat) : Int) := by
        rw [w64_eq (n := (lo : Int) + hi) (by omega) (by omega), Int.tdiv_eq_ediv_of_nonneg (by omega), w64_eq (by omega) (by omega)]; omega
      have hm : (lo + hi) / 2 < L.length := by omega
      have e2 : idx L (((lo + hi) / 2 : Nat) : Int) = some L[(lo + hi) / 2] := by unfold idx; rw [if_pos (by omega), Int.toNat_natCast, List.getElem?_eq_getElem hm]
      have hy := hf _ (List.getElem_mem hm)
      obtain ⟨v, ev, _⟩ := less_eq (kL L[(lo + hi) / 2]) (kL x) (kL_len hy) (kL_len hx)
      rw [e1, e2, Option.bind_some, rkey_eq _ hy, Option.bind_some, rkey_eq _ hx, Option.bind_some, ev, Option.bind_some]
      by_cases c4 : v < 0
      · rw [if_pos c4, w64_eq (by omega) (by omega), show ((((lo + hi) / 2 : Nat) : Int) + 1) = (((lo + hi) / 2 + 1 : Nat) : Int) by omega]
        have ih := search_eq (n := n) hL hf hx k d ((lo + hi) / 2 + 1) hi (by omega) h2 (by omega)
        rw [rkey_eq x hx] at ih
        exact ih
      · rw [if_neg c4]
        have ih := search_eq (n := n) hL hf hx k d lo ((lo + hi) / 2) (by omega) (by omega) (by omega)
        rw [rkey_eq x hx] at ih
        exact ih
    · rw [if_neg (by simp only []; omega)]
      exact ⟨lo, (hi : Int), by omega, rfl⟩
theorem sort_eq {n : Nat} (hn : 402 ≤ n) (l : List Rule) (hl : l.length ≤ 400) (hd : l.Nodup) (hf : ∀ y ∈ l, y.From.length ≤ 100) : ∃ L, ref03_Sort n l = some L ∧ L.Perm l := by
  unfold ref03_Sort
  rw [rangeL, if_pos (by omega)]
  have H : ∀ (l : List Rule) (i : Nat) (o : List Rule), (∀ x ∈ l, x ∉ o) → l.Nodup → o.length + l.length ≤ 400 → (∀ y ∈ l, y.From.length ≤ 100) → (∀ y ∈ o, y.From.length ≤ 100) →
      ∃ L, rangeC (fun i1 x1 (s1 : List Rule) n1 =>
    whileL n ((0 : Int), (s1.length : Int)) (fun k2 (s2 : Int × Int) n2 =>
      if s2.1 < s2.2 then
        (idx s1 (w64 (Int.tdiv (w64 (s2.1 + s2.2)) 2))).bind fun v1 =>
        (ref03_key v1).bind fun v2 =>
        (ref03_key x1).bind fun v3 =>
        (ref03_Less v2 v3).bind fun v4 =>
        if v4 < 0 then
          n2 (w64 ((w64 (Int.tdiv (w64 (s2.1 + s2.2)) 2)) + 1), s2.2)
        else
          n2 (s2.1, w64 (Int.tdiv (w64 (s2.1 + s2.2)) 2))
      else
        k2 (s2.1, s2.2)) fun s2 =>
    if s2.1 = (s1.length : Int) then
      (insM 40 s2.1 x1 s1).bind n1
    else
      (idx s1 s2.1).bind fun v5 =>
      (ref03_key v5).bind fun v6 =>
      (ref03_key x1).bind fun v7 =>
      (ref03_Less v6 v7).bind fun v8 =>
      if v8 = 0 then
        n1 s1
      else
        (insM 40 s2.1 x1 s1).bind n1) l i o (fun s1 => some s1) = some L ∧ L.Perm (o ++ l) := by
    intro l
    induction l with
    | nil => intro i o _ _ _ _ _; exact ⟨o, rfl, by rw [List.append_nil]⟩
    | cons x l ih =>
      intro i o hx hd hl hf hfo
      rw [List.length_cons] at hl
      have hxf := hf x (by simp)
      obtain ⟨hd1, hd2⟩ := List.nodup_cons.1 hd
      have ins : ∀ j : Nat, j ≤ o.length → insM 40 (j : Int) x o = some (o.take j ++ x :: o.drop j) := fun j hj => by
        unfold insM; rw [if_pos ⟨by omega, by omega, by omega⟩, Int.toNat_natCast]
      have perm : ∀ j : Nat, (o.take j ++ x :: o.drop j).Perm (x :: o) := fun j => by
        have := (List.perm_middle (a := x) (l₁ := o.take j) (l₂ := o.drop j))
        rw [List.take_append_drop] at this
        exact this
      have rest : ∀ j : Nat, j ≤ o.length → ∃ L, rangeC (fun i1 x1 (s1 : List Rule) n1 =>
    whileL n ((0 : Int), (s1.length : Int)) (fun k2 (s2 : Int × Int) n2 =>
      if s2.1 < s2.2 then
        (idx s1 (w64 (Int.tdiv (w64 (s2.1 + s2.2)) 2))).bind fun v1 =>
        (ref03_key v1).bind fun v2 =>
        (ref03_key x1).bind fun v3 =>
        (ref03_Less v2 v3).bind fun v4 =>
        if v4 < 0 then
          n2 (w64 ((w64 (Int.tdiv (w64 (s2.1 + s2.2)) 2)) + 1), s2.2)
        else
          n2 (s2.1, w64 (Int.tdiv (w64 (s2.1 + s2.2)) 2))
      else
        k2 (s2.1, s2.2)) fun s2 =>
    if s2.1 = (s1.length : Int) then
      (insM 40 s2.1 x1 s1).bind n1
    else
      (idx s1 s2.1).bind fun v5 =>
      (ref03_key v5).bind fun v6 =>
      (ref03_key x1).bind fun v7 =>
      (ref03_Less v6 v7).bind fun v8 =>
      if v8 = 0 then
        n1 s1
      else
        (insM 40 s2.1 x1 s1).bind n1) l (i + 1) (o.take j ++ x :: o.drop j) (fun s1 => some s1) = some L ∧ L.Perm (o ++ x :: l) := fun j hj => by
        have hp := perm j
        obtain ⟨L, e, hL⟩ := ih (i + 1) (o.take j ++ x :: o.drop j) (fun y hy hy2 => by
          rcases List.mem_cons.1 (hp.mem_iff.1 hy2) with rfl | h
          · exact hd1 hy
          · exact hx y (List.mem_cons_of_mem _ hy) h) hd2 (by rw [hp.length_eq, List.length_cons]; omega) (fun y hy => hf y (List.mem_cons_of_mem _ hy)) (fun y hy => by
          rcases List.mem_cons.1 (hp.mem_iff.1 hy) with rfl | h
          · exact hxf
          · exact hfo y h)
        refine ⟨L, e, hL.trans ((hp.append_right l).trans ?_)⟩
        exact List.perm_middle.symm
      rw [rangeC, whileL]
      obtain ⟨j, z, hj, e⟩ := search_eq (n := n) (L := o) (x := x) (by omega) hfo hxf (R := List Rule) (fun s2 =>
    if s2.1 = (o.length : Int) then
      (insM 40 s2.1 x o).bind (fun s' => rangeC (fun i1 x1 (s1 : List Rule) n1 =>
    whileL n ((0 : Int), (s1.length : Int)) (fun k2 (s2 : Int × Int) n2 =>
      if s2.1 < s2.2 then
        (idx s1 (w64 (Int.tdiv (w64 (s2.1 + s2.2)) 2))).bind fun v1 =>
        (ref03_key v1).bind fun v2 =>
        (ref03_key x1).bind fun v3 =>
        (ref03_Less v2 v3).bind fun v4 =>
        if v4 < 0 then
          n2 (w64 ((w64 (Int.tdiv (w64 (s2.1 + s2.2)) 2)) + 1), s2.2)
        else
          n2 (s2.1, w64 (Int.tdiv (w64 (s2.1 + s2.2)) 2))
      else
        k2 (s2.1, s2.2)) fun s2 =>
    if s2.1 = (s1.length : Int) then
      (insM 40 s2.1 x1 s1).bind n1
    else
      (idx s1 s2.1).bind fun v5 =>
      (ref03_key v5).bind fun v6 =>
      (ref03_key x1).bind fun v7 =>
      (ref03_Less v6 v7).bind fun v8 =>
      if v8 = 0 then
        n1 s1
      else
        (insM 40 s2.1 x1 s1).bind n1) l (i + 1) s' (fun s1 => some s1))
    else
      (idx o s2.1).bind fun v5 =>
      (ref03_key v5).bind fun v6 =>
      (ref03_key x).bind fun v7 =>
      (ref03_Less v6 v7).bind fun v8 =>
      if v8 = 0 then
        (fun s' => rangeC (fun i1 x1 (s1 : List Rule) n1 =>
    whileL n ((0 : Int), (s1.length : Int)) (fun k2 (s2 : Int × Int) n2 =>
      if s2.1 < s2.2 then
        (idx s1 (w64 (Int.tdiv (w64 (s2.1 + s2.2)) 2))).bind fun v1 =>
        (ref03_key v1).bind fun v2 =>
        (ref03_key x1).bind fun v3 =>
        (ref03_Less v2 v3).bind fun v4 =>
        if v4 < 0 then
          n2 (w64 ((w64 (Int.tdiv (w64 (s2.1 + s2.2)) 2)) + 1), s2.2)
        else
          n2 (s2.1, w64 (Int.tdiv (w64 (s2.1 + s2.2)) 2))
      else
        k2 (s2.1, s2.2)) fun s2 =>
    if s2.1 = (s1.length : Int) then
      (insM 40 s2.1 x1 s1).bind n1
    else
      (idx s1 s2.1).bind fun v5 =>
      (ref03_key v5).bind fun v6 =>
      (ref03_key x1).bind fun v7 =>
      (ref03_Less v6 v7).bind fun v8 =>
      if v8 = 0 then
        n1 s1
      else
        (insM 40 s2.1 x1 s1).bind n1) l (i + 1) s' (fun s1 => some s1)) o
      else
        (insM 40 s2.1 x o).bind (fun s' => rangeC (fun i1 x1 (s1 : List Rule) n1 =>
    whileL n ((0 : Int), (s1.length : Int)) (fun k2 (s2 : Int × Int) n2 =>
      if s2.1 < s2.2 then
        (idx s1 (w64 (Int.tdiv (w64 (s2.1 + s2.2)) 2))).bind fun v1 =>
        (ref03_key v1).bind fun v2 =>
        (ref03_key x1).bind fun v3 =>
        (ref03_Less v2 v3).bind fun v4 =>
        if v4 < 0 then
          n2 (w64 ((w64 (Int.tdiv (w64 (s2.1 + s2.2)) 2)) + 1), s2.2)
        else
          n2 (s2.1, w64 (Int.tdiv (w64 (s2.1 + s2.2)) 2))
      else
        k2 (s2.1, s2.2)) fun s2 =>
    if s2.1 = (s1.length : Int) then
      (insM 40 s2.1 x1 s1).bind n1
    else
      (idx s1 s2.1).bind fun v5 =>
      (ref03_key v5).bind fun v6 =>
      (ref03_key x1).bind fun v7 =>
      (ref03_Less v6 v7).bind fun v8 =>
      if v8 = 0 then
        n1 s1
      else
        (insM 40 s2.1 x1 s1).bind n1) l (i + 1) s' (fun s1 => some s1))) n 0 o.length (Nat.zero_le _) (Nat.le_refl _) (by omega)
      obtain ⟨L, eL, hL⟩ := rest j hj
      refine ⟨L, ?_, hL⟩
      refine e.trans ?_
      simp only []
      by_cases c : (j : Int) = (o.length : Int)
      · rw [if_pos c, ins j hj, Option.bind_some]; exact eL
      · have hjl : j < o.length := by omega
        have e5 : idx o (j : Int) = some o[j] := by unfold idx; rw [if_pos (by omega), Int.toNat_natCast, List.getElem?_eq_getElem hjl]
        have hy := hfo _ (List.getElem_mem hjl)
        obtain ⟨v, ev, hv⟩ := less_eq (kL o[j]) (kL x) (kL_len hy) (kL_len hxf)
        rw [if_neg c, e5, Option.bind_some, rkey_eq _ hy, Option.bind_some, rkey_eq _ hxf, Option.bind_some, ev, Option.bind_some]
        have hv0 : ¬ v = 0 := fun h => by
          have := kL_inj (hv.1 h)
          exact hx x (by simp) (by rw [← this]; exact List.getElem_mem hjl)
        rw [if_neg hv0, ins j hj, Option.bind_some]; exact eL
  obtain ⟨L, e, hL⟩ := H l 0 [] (fun x _ h => by cases h) hd (by simpa using hl) hf (fun y h => by cases h)
  exact ⟨L, e, by simpa using hL⟩
end Go.AM.S03
namespace Go.AM.S03
open Go Go.Proofs Go.AM
set_option linter.unusedVariables false
set_option maxRecDepth 100000
set_option maxHeartbeats 4000000
/-- the automaton of Single -/
structure SA (r : List Int) (k : Nat) (s : Int) (R : List Rule) : Prop where
  rk : r.length ≤ 12
  rk3 : ∀ x ∈ r, 0 ≤ x ∧ x ≤ 3
  va : vA r = true
  len : R.length = k
  k1 : 1 ≤ k
  k300 : k ≤ 300
  s0 : 0 ≤ s ∧ s < (k : Int)
  to : ∀ (i : Nat) x, R[i]? = some x → x.To = (i : Int)
  frm : ∀ (i : Nat) x, R[i]? = some x → ∀ s ∈ x.From, 0 ≤ s ∧ s < (i : Int)
  shp : ∀ x ∈ R, 0 ≤ x.Sym ∧ x.Sym < r.length ∧ (x.From.length : Int) = S03.rk r x.Sym
  inj : ∀ (i j : Nat) x y, R[i]? = some x → R[j]? = some y → x.Sym = y.Sym → x.From = y.From → i = j
  bel : ∀ q : Nat, q < k → Bel R s (q : Int)
variable {r : List Int} {k : Nat} {s : Int} {R : List Rule}
theorem SA.from3 (h : SA r k s R) : ∀ x ∈ R, x.From.length ≤ 3 := by
  intro x hx
  obtain ⟨h1, h2, h3⟩ := h.shp x hx
  have : S03.rk r x.Sym ≤ 3 := by
    unfold S03.rk
    have hl : x.Sym.toNat < r.length := by omega
    rw [List.getElem?_eq_getElem hl]
    exact (h.rk3 _ (List.getElem_mem hl)).2
  omega
theorem SA.toB (h : SA r k s R) : ∀ x ∈ R, 0 ≤ x.To ∧ x.To < (k : Int) := by
  intro x hx
  obtain ⟨i, hi, rfl⟩ := List.getElem_of_mem hx
  have := h.to i _ (List.getElem?_eq_getElem hi)
  have := h.len
  omega
theorem SA.frmB (h : SA r k s R) : ∀ x ∈ R, ∀ q ∈ x.From, 0 ≤ q ∧ q < (k : Int) := by
  intro x hx q hq
  obtain ⟨i, hi, rfl⟩ := List.getElem_of_mem hx
  have := h.frm i _ (List.getElem?_eq_getElem hi) q hq
  have := h.len
  omega
theorem SA.ok (h : SA r k s R) : OKa r ⟨(k : Int), [s], R⟩ := by
  have := h.len
  have := h.k300
  refine ⟨h.rk, ⟨by show (0 : Int) ≤ (k : Int); omega, by show (k : Int) ≤ 300; omega⟩, by show R.length ≤ 400; omega, by simp, fun x hx => by have := h.from3 x hx; omega, h.shp, h.toB, h.frmB, fun q hq => ?_⟩
  have : q = s := by simpa using hq
  subst this; exact h.s0
theorem SA.valid (h : SA r k s R) : ref03_Valid ⟨r⟩ ⟨(k : Int), [s], R⟩ = some true := by
  have hlen := h.len
  have hk := h.k300
  rw [rauto_eq r _ ⟨by simp, by show R.length < _; omega, fun x hx => by have := h.from3 x hx; omega⟩]
  congr 1
  unfold aV
  have h1 : allI (fOk [s] (k : Int)) 0 [s] = true := by
    rw [allI, allI]
    unfold fOk stOk
    rw [decide_eq_true h.s0]; rfl
  have h2 : R.all (rOk r (k : Int)) = true := List.all_eq_true.2 fun x hx => by
    unfold rOk stOk
    rw [decide_eq_true (h.shp x hx), decide_eq_true (h.toB x hx), Bool.true_and, Bool.true_and, List.all_eq_true]
    intro q hq
    exact decide_eq_true (h.frmB x hx q hq)
  show (vA r && (decide (0 ≤ (k : Int) ∧ (k : Int) ≤ 300 ∧ (R.length : Int) ≤ 20000) && (allI (fOk [s] (k : Int)) 0 [s] && R.all (rOk r (k : Int))))) = true
  rw [h.va, h1, h2, decide_eq_true ⟨by omega, by omega, by omega⟩]; rfl
theorem allI_true {α : Type} : ∀ (l : List α) (i : Nat), allI (fun _ _ => true) i l = true
  | [], _ => rfl
  | x :: l, i => by rw [allI, allI_true l]; rfl
theorem SA.one (h : SA r k s R) : ref03_One ⟨(k : Int), [s], R⟩ = some true := by
  have hlen := h.len
  have hk := h.k300
  unfold ref03_One
  rw [rangeL, if_pos (by show R.length < _; omega)]
  show rangeC _ R 0 () _ = _
  rw [chk (ok := fun _ _ => true) (f := some false) R 0 _ (fun j x n1 hj => ?_), allI_true, if_pos rfl]
  rw [Nat.zero_add, if_pos rfl]
  have hjl := (List.getElem?_eq_some_iff.1 hj).1
  have e1 : slcT R (j : Int) = some (R.take j) := by unfold slcT; rw [if_pos (by omega), Int.toNat_natCast]
  show (slcT R (j : Int)).bind _ = _
  rw [e1, Option.bind_some, rangeL, if_pos (by rw [List.length_take]; omega)]
  rw [chk (ok := fun _ _ => true) (f := some false) (R.take j) 0 _ (fun i y n2 hi => ?_), allI_true, if_pos rfl]
  rw [if_pos rfl]
  by_cases c1 : x.Sym = y.Sym
  · rw [if_pos c1, list_eq _ _ (by have := h.from3 x (List.mem_of_getElem? hj); omega), Option.bind_some]
    have hi2 : R[i]? = some y ∧ i < j := by
      rw [List.getElem?_take] at hi
      split at hi
      · exact ⟨hi, by assumption⟩
      · cases hi
    have : x.From ≠ y.From := fun e => by
      have := h.inj j i x y hj hi2.1 c1 e
      omega
    rw [decide_eq_false this, if_neg (by simp)]
  · rw [if_neg c1]
/-- the counts of the states -/
theorem count_loop : ∀ (l : List Rule) (i : Nat) (c : List Int) (K : List Int → Option Bool), (∀ x ∈ l, 0 ≤ x.To ∧ x.To < (k : Int)) → c.length = k → (∀ (q : Nat) v, c[q]? = some v → 0 ≤ v ∧ v + l.length ≤ 1000) →
    ∃ c', rangeC (fun i1 x1 (s1 : (List Int)) n1 =>
    (idxM k s1 x1.To).bind fun v3 =>
    n1 (List.set s1 ((x1.To).toNat) (w64 (v3 + 1)))) l i c K = K c' ∧ c'.length = k ∧ ∀ q : Nat, q < k → c'[q]? = some ((c[q]?).getD 0 + ((l.filter fun x => x.To = (q : Int)).length : Int))
  | [], i, c, K, _, hc, _ => ⟨c, rfl, hc, fun q hq => by rw [List.getElem?_eq_getElem (by omega)]; simp⟩
  | x :: l, i, c, K, hx, hc, hb => by
    obtain ⟨h0, h1⟩ := hx x (by simp)
    obtain ⟨m, hm⟩ : ∃ m : Nat, x.To = m := ⟨x.To.toNat, by omega⟩
    have hmk : m < k := by omega
    have hg : c[m]? = some c[m] := List.getElem?_eq_getElem (by omega)
    have hbm := hb m _ hg
    rw [List.length_cons] at hbm
    have e1 : idxM k c x.To = some c[m] := by unfold idxM; rw [hm, if_pos ⟨by omega, by omega⟩, Int.toNat_natCast, hg]
    obtain ⟨c', e, h2, h3⟩ := count_loop l (i + 1) (c.set m (c[m] + 1)) K (fun y hy => hx y (List.mem_cons_of_mem _ hy)) (by rw [List.length_set]; exact hc) (fun q v hv => by
      rw [List.getElem?_set] at hv
      split at hv
      · split at hv
        · injection hv with hv; omega
        · cases hv
      · have := hb q v hv; rw [List.length_cons] at this; omega)
    refine ⟨c', ?_, h2, fun q hq => ?_⟩
    · rw [rangeC, e1, Option.bind_some, w64_eq (by omega) (by omega), hm, Int.toNat_natCast]; exact e
    · rw [h3 q hq, List.getElem?_set, List.filter_cons, hm]
      by_cases e : m = q
      · subst e
        rw [if_pos rfl, if_pos (by omega), hg, if_pos (by simp)]
        simp only [Option.getD_some, List.length_cons]
        congr 1
        omega
      · rw [if_neg e, if_neg (by simp; omega)]
theorem to_count : ∀ (R : List Rule) (off : Nat), (∀ (i : Nat) x, R[i]? = some x → x.To = ((off + i : Nat) : Int)) → ∀ q : Nat, (R.filter fun x => x.To = (q : Int)).length = if off ≤ q ∧ q < off + R.length then 1 else 0
  | [], off, _, q => by rw [if_neg (by simp)]; rfl
  | x :: R, off, h, q => by
    have h0 := h 0 x rfl
    have ih := to_count R (off + 1) (fun i y hy => by rw [h (i + 1) y (by rw [List.getElem?_cons_succ]; exact hy)]; congr 1; omega) q
    rw [List.filter_cons, List.length_cons]
    by_cases e : off = q
    · subst e
      rw [if_pos (by simp [h0]), List.length_cons, ih, if_neg (by omega), if_pos (by omega)]
    · rw [if_neg (by simp [h0]; omega), ih]
      by_cases c : off + 1 ≤ q ∧ q < off + 1 + R.length
      · rw [if_pos c, if_pos (by omega)]
      · rw [if_neg c, if_neg (by omega)]
theorem SA.lone (h : SA r k s R) {F : List Int} {L : List Rule} (hL : L.Perm R) : law03_one ⟨(k : Int), F, L⟩ = some true := by
  have hlen := h.len
  have hk := h.k300
  have hll := hL.length_eq
  unfold law03_one
  have e1 : mkz 8 (k : Int) (k : Int) (0 : Int) = some (List.replicate k 0) := by unfold mkz; rw [if_pos ⟨by omega, by omega, by rw [Int.toNat_natCast]; omega⟩, Int.toNat_natCast]
  show (mkz 8 (k : Int) (k : Int) (0 : Int)).bind _ = _
  rw [e1, Option.bind_some, rangeL, if_pos (by show L.length < _; omega)]
  obtain ⟨c', e, h2, h3⟩ := count_loop (k := k) L 0 (List.replicate k 0) (fun s1 => rangeI ((k : Nat) : Int) () (fun k2 i2 (s2 : Unit) n2 =>
    (idxM k s1 (i2 : Int)).bind fun v2 =>
    if v2 = 1 then
      n2 ()
    else
      some false) fun s2 =>
  some true) (fun x hx => h.toB x (hL.mem_iff.1 hx)) (by simp) (fun q v hv => by
    rw [List.getElem?_replicate] at hv
    split at hv
    · injection hv with hv; omega
    · cases hv)
  refine e.trans ?_
  rw [rangeI, if_pos (by omega), Int.toNat_natCast]
  have hc : ∀ q : Nat, q < k → c'[q]? = some 1 := fun q hq => by
    rw [h3 q hq, List.getElem?_replicate, if_pos hq, (hL.filter _).length_eq, to_count R 0 (fun i x hx => by rw [Nat.zero_add]; exact h.to i x hx) q, if_pos (by omega)]
    rfl
  have H : ∀ (m p : Nat), p + m = k → rangeC (fun i2 (_ : Unit) (s2 : Unit) (n2 : Unit → Option Bool) => (idxM k c' (i2 : Int)).bind fun v2 => if v2 = 1 then n2 () else some false) (List.replicate m ()) p () (fun _ => some true) = some true := by
    intro m
    induction m with
    | zero => intro p _; rfl
    | succ m ih =>
      intro p hp
      have e2 : idxM k c' (p : Int) = some 1 := by unfold idxM; rw [if_pos ⟨by omega, by rw [Int.toNat_natCast]; omega⟩, Int.toNat_natCast, hc p (by omega)]
      rw [List.replicate_succ, rangeC, e2, Option.bind_some, if_pos rfl]
      exact ih (p + 1) (by omega)
  exact H k 0 (by omega)
end Go.AM.S03
namespace Go.AM.S03
open Go Go.Proofs Go.AM
set_option linter.unusedVariables false
set_option maxRecDepth 100000
set_option maxHeartbeats 4000000
variable {r : List Int} {k : Nat} {s : Int} {R : List Rule}
theorem idxM_at {α : Type} {l : List α} {q : Int} {v : α} {k : Nat} (h0 : 0 ≤ q) (h1 : q < (k : Int)) (h : l[q.toNat]? = some v) : idxM k l q = some v := by
  unfold idxM; rw [if_pos ⟨h0, by omega⟩]; exact h
theorem rep_at {α : Type} {v : α} {q : Int} {k : Nat} (h0 : 0 ≤ q) (h1 : q < (k : Int)) : (List.replicate k v)[q.toNat]? = some v := by
  rw [List.getElem?_replicate, if_pos (by omega)]
theorem idx_rep {α : Type} {v : α} {q : Int} {k : Nat} (h0 : 0 ≤ q) (h1 : q < (k : Int)) : idx (List.replicate k v) q = some v := by
  unfold idx; rw [if_pos h0]; exact rep_at h0 h1
theorem numbers_loop (hk : k ≤ 300) {T : Type} : ∀ (m i : Nat) (l : List Int) (K : List Int × Int → Option T), i + m = k → l.length = k → (∀ j, j < i → l[j]? = some (j : Int)) →
    ∃ l', rangeC (fun i1 x1 (s1 : (List Int) × Int) n1 =>
    if x1 = true then
      (idxM k s1.1 (i1 : Int)).bind fun v14 =>
      n1 ((List.set s1.1 i1 s1.2), w64 (s1.2 + 1))
    else
      n1 (s1.1, s1.2)) (List.replicate m true) i (l, (i : Int)) K = K (l', (k : Int)) ∧ l'.length = k ∧ ∀ j, j < k → l'[j]? = some (j : Int)
  | 0, i, l, K, hi, hl, hj => ⟨l, by rw [List.replicate_zero, rangeC, show i = k by omega], hl, fun j hj' => hj j (by omega)⟩
  | m + 1, i, l, K, hi, hl, hj => by
    have hil : i < l.length := by omega
    obtain ⟨l', e, h2, h3⟩ := numbers_loop hk m (i + 1) (l.set i (i : Int)) K (by omega) (by rw [List.length_set]; exact hl) (fun j hj' => by
      rw [List.getElem?_set]
      split
      · rename_i e; subst e; first | rfl | rw [if_pos hil] | (split <;> first | rfl | omega)
      · exact hj j (by omega))
    refine ⟨l', ?_, h2, h3⟩
    rw [List.replicate_succ, rangeC, if_pos rfl]
    simp only []
    rw [idxM_at (v := l[i]) (by omega) (by omega) (by rw [Int.toNat_natCast]; exact List.getElem?_eq_getElem hil), Option.bind_some, w64_eq (by omega) (by omega), show ((i : Int) + 1) = ((i + 1 : Nat) : Int) by omega]
    exact e
theorem from_loop {nm : List Int} (hn : ∀ j, j < k → nm[j]? = some (j : Int)) {T : Type} : ∀ (f : List Int) (i : Nat) (acc : List Int) (K : Bool × List Int → Option T), (∀ q ∈ f, 0 ≤ q ∧ q < (k : Int)) → acc.length + f.length ≤ 1000 →
    rangeC (fun i6 x6 (s6 : Bool × (List Int)) n6 =>
      if s6.1 = true then
        (idx (List.replicate k true) x6).bind fun v6 =>
        (idxM k nm x6).bind fun v7 =>
        (app 8 s6.2 [v7]).bind fun v8 =>
        n6 (v6, v8)
      else
        (idxM k nm x6).bind fun v9 =>
        (app 8 s6.2 [v9]).bind fun v10 =>
        n6 (false, v10)) f i (true, acc) K = K (true, acc ++ f)
  | [], i, acc, K, _, _ => by rw [rangeC, List.append_nil]
  | q :: f, i, acc, K, hq, hl => by
    obtain ⟨h0, h1⟩ := hq q (by simp)
    rw [List.length_cons] at hl
    obtain ⟨m, rfl⟩ : ∃ m : Nat, q = m := ⟨q.toNat, by omega⟩
    rw [rangeC]
    simp only [if_true]
    rw [idx_rep h0 h1, Option.bind_some, idxM_at (v := (m : Int)) h0 h1 (by rw [Int.toNat_natCast]; exact hn m (by omega)), Option.bind_some, app_ok (by simp only [List.length_cons, List.length_nil]; omega), Option.bind_some]
    show rangeC _ f (i + 1) _ K = _
    rw [from_loop hn f (i + 1) (acc ++ [(m : Int)]) K (fun y hy => hq y (List.mem_cons_of_mem _ hy)) (by simp only [List.length_append, List.length_cons, List.length_nil]; omega), List.append_assoc]
    rfl
theorem SA.nodup (h : SA r k s R) : R.Nodup := by
  unfold List.Nodup
  rw [List.pairwise_iff_getElem]
  intro i j hi hj hij e
  have h1 := h.to i _ (List.getElem?_eq_getElem hi)
  have h2 := h.to j _ (List.getElem?_eq_getElem hj)
  rw [e, h2] at h1
  omega
theorem SA.keep (h : SA r k s R) {n : Nat} (hn : 402 ≤ n) : ∃ L, ref03_Keep n ⟨(k : Int), [s], R⟩ (List.replicate k true) = some ⟨(k : Int), [s], L⟩ ∧ L.Perm R := by
  have hlen := h.len
  have hk := h.k300
  unfold ref03_Keep
  have e1 : mkz 8 (k : Int) (k : Int) (0 : Int) = some (List.replicate k 0) := by unfold mkz; rw [if_pos ⟨by omega, by omega, by rw [Int.toNat_natCast]; omega⟩, Int.toNat_natCast]
  show ∃ L, (mkz 8 (k : Int) (k : Int) (0 : Int)).bind _ = _ ∧ _
  rw [e1, Option.bind_some, rangeL, if_pos (by rw [List.length_replicate]; omega)]
  simp only [Int.toNat_natCast]
  obtain ⟨nm, e2, h2, h3⟩ := numbers_loop hk (T := Automaton) k 0 (List.replicate k 0) (fun s1 =>
  rangeL [s] ([] : List Int) (fun k2 i2 x2 (s2 : (List Int)) n2 =>
    (idx (List.replicate k true) x2).bind fun v11 =>
    if v11 = true then
      (idxM k s1.1 x2).bind fun v12 =>
      (app 8 s2 [v12]).bind fun v13 =>
      n2 v13
    else
      n2 s2) fun s2 =>
  rangeL R ([] : List Rule) (fun k5 i5 x5 (s5 : (List Rule)) n5 =>
    (idx (List.replicate k true) x5.To).bind fun v3 =>
    rangeL x5.From (v3, ([] : List Int)) (fun k6 i6 x6 (s6 : Bool × (List Int)) n6 =>
      if s6.1 = true then
        (idx (List.replicate k true) x6).bind fun v6 =>
        (idxM k s1.1 x6).bind fun v7 =>
        (app 8 s6.2 [v7]).bind fun v8 =>
        n6 (v6, v8)
      else
        (idxM k s1.1 x6).bind fun v9 =>
        (app 8 s6.2 [v9]).bind fun v10 =>
        n6 (false, v10)) fun s6 =>
    if s6.1 = true then
      (idxM k s1.1 x5.To).bind fun v4 =>
      (app 40 s5 [(Rule.mk x5.Sym s6.2 v4)]).bind fun v5 =>
      n5 v5
    else
      n5 s5) fun s5 =>
  (ref03_Sort n s5).bind fun v2 =>
  some (Automaton.mk s1.2 s2 v2)) (by omega) (by simp) (fun j hj => by omega)
  obtain ⟨L, eL, hL⟩ := sort_eq hn R (by omega) h.nodup (fun y hy => by have := h.from3 y hy; omega)
  refine ⟨L, e2.trans ?_, hL⟩
  simp only []
  obtain ⟨s0, s1⟩ := h.s0
  obtain ⟨m, hm⟩ : ∃ m : Nat, s = m := ⟨s.toNat, by omega⟩
  have at_ : ∀ q : Int, 0 ≤ q → q < (k : Int) → idxM k nm q = some q := fun q h0 h1 => by
    obtain ⟨m, rfl⟩ : ∃ m : Nat, q = m := ⟨q.toNat, by omega⟩
    exact idxM_at h0 h1 (by rw [Int.toNat_natCast]; exact h3 m (by omega))
  rw [rangeL, if_pos (by simp), rangeC, idx_rep s0 s1, Option.bind_some, if_pos rfl, at_ s s0 s1, Option.bind_some, app_ok (by simp), Option.bind_some]
  show rangeC _ [] 1 _ _ = _
  rw [rangeC, List.nil_append, rangeL, if_pos (by omega)]
  have H : ∀ (l : List Rule) (i : Nat) (acc : List Rule) (K : List Rule → Option Automaton), (∀ x ∈ l, x ∈ R) → acc.length + l.length ≤ 400 → rangeC (fun i5 x5 (s5 : (List Rule)) n5 =>
    (idx (List.replicate k true) x5.To).bind fun v3 =>
    rangeL x5.From (v3, ([] : List Int)) (fun k6 i6 x6 (s6 : Bool × (List Int)) n6 =>
      if s6.1 = true then
        (idx (List.replicate k true) x6).bind fun v6 =>
        (idxM k nm x6).bind fun v7 =>
        (app 8 s6.2 [v7]).bind fun v8 =>
        n6 (v6, v8)
      else
        (idxM k nm x6).bind fun v9 =>
        (app 8 s6.2 [v9]).bind fun v10 =>
        n6 (false, v10)) fun s6 =>
    if s6.1 = true then
      (idxM k nm x5.To).bind fun v4 =>
      (app 40 s5 [(Rule.mk x5.Sym s6.2 v4)]).bind fun v5 =>
      n5 v5
    else
      n5 s5) l i acc K = K (acc ++ l) := by
    intro l
    induction l with
    | nil => intro i acc K _ _; rw [rangeC, List.append_nil]
    | cons x l ih =>
      intro i acc K hx hl
      rw [List.length_cons] at hl
      have hxR := hx x (by simp)
      obtain ⟨t0, t1⟩ := h.toB x hxR
      have hf := h.from3 x hxR
      rw [rangeC, idx_rep t0 t1, Option.bind_some, rangeL, if_pos (by omega), from_loop h3 x.From 0 [] _ (h.frmB x hxR) (by simp; omega)]
      simp only [if_true, List.nil_append]
      rw [at_ x.To t0 t1, Option.bind_some, app_ok (by simp only [List.length_cons, List.length_nil]; omega), Option.bind_some]
      show rangeC _ l (i + 1) _ K = _
      rw [ih (i + 1) _ K (fun y hy => hx y (List.mem_cons_of_mem _ hy)) (by simp only [List.length_append, List.length_cons, List.length_nil]; omega), List.append_assoc]
      rfl
  rw [H R 0 [] _ (fun _ h => h) (by simp; omega), List.nil_append, eL]
  rfl
end Go.AM.S03
namespace Go.AM.S03
open Go Go.Proofs Go.AM
set_option linter.unusedVariables false
set_option maxRecDepth 100000
set_option maxHeartbeats 4000000
variable {r : List Int} {k : Nat} {s : Int} {R : List Rule}
def preL (k i : Nat) : List Bool := List.replicate i true ++ List.replicate (k - i) false
theorem preL_len {k i : Nat} (h : i ≤ k) : (preL k i).length = k := by unfold preL; rw [List.length_append, List.length_replicate, List.length_replicate]; omega
theorem preL_lt {k i q : Nat} (h : q < i) : (preL k i)[q]? = some true := by
  unfold preL; rw [List.getElem?_append_left (by rw [List.length_replicate]; exact h), List.getElem?_replicate, if_pos h]
theorem preL_ge {k i q : Nat} (h : i ≤ q) (h2 : q < k) : (preL k i)[q]? = some false := by
  unfold preL; rw [List.getElem?_append_right (by rw [List.length_replicate]; exact h), List.length_replicate, List.getElem?_replicate, if_pos (by omega)]
theorem preL_set {k i : Nat} (h : i < k) : (preL k i).set i true = preL k (i + 1) := by
  apply List.ext_getElem?
  intro q
  rw [List.getElem?_set]
  by_cases e : i = q
  · subst e; rw [if_pos rfl, if_pos (by rw [preL_len (by omega)]; exact h), preL_lt (by omega)]
  · rw [if_neg e]
    by_cases c : q < i
    · rw [preL_lt c, preL_lt (by omega)]
    · by_cases c2 : q < k
      · rw [preL_ge (by omega) c2, preL_ge (by omega) c2]
      · rw [List.getElem?_eq_none (by rw [preL_len (by omega)]; omega), List.getElem?_eq_none (by rw [preL_len (by omega)]; omega)]
theorem preL_all (k : Nat) : preL k k = List.replicate k true := by unfold preL; rw [Nat.sub_self]; simp
theorem and_loop {st : List Bool} {T : Type} : ∀ (f : List Int) (i : Nat) (K : Bool → Option T), (∀ q ∈ f, idxM k st q = some true) →
    rangeC (fun i13 x13 (s13 : Bool) n13 =>
          if s13 = true then
            (idxM k st x13).bind fun v4 =>
            n13 v4
          else
            n13 false) f i true K = K true
  | [], _, _, _ => rfl
  | q :: f, i, K, h => by
    rw [rangeC, if_pos rfl, h q (by simp), Option.bind_some]
    exact and_loop f (i + 1) K fun y hy => h y (List.mem_cons_of_mem _ hy)
theorem SA.reach1 (h : SA r k s R) {T : Type} : ∀ (l : List Rule) (i j : Nat) (b : Bool) (K : Bool × List Bool → Option T), R.drop i = l →
    rangeC (fun i12 x12 (s12 : Bool × (List Bool)) n12 =>
        rangeL x12.From true (fun k13 i13 x13 (s13 : Bool) n13 =>
          if s13 = true then
            (idxM k s12.2 x13).bind fun v4 =>
            n13 v4
          else
            n13 false) fun s13 =>
        if s13 = true then
          (idxM k s12.2 x12.To).bind fun v3 =>
          if v3 = true then
            n12 (s12.1, s12.2)
          else
            n12 (true, (List.set s12.2 ((x12.To).toNat) true))
        else
          n12 (s12.1, s12.2)) l j (b, preL k i) K = K (b || !l.isEmpty, preL k (i + l.length))
  | [], i, j, b, K, _ => by rw [rangeC]; simp
  | x :: l, i, j, b, K, hd => by
    have hlen := h.len
    have hi : i < R.length := by
      rcases Nat.lt_or_ge i R.length with h | h
      · exact h
      · rw [List.drop_eq_nil_of_le h] at hd; cases hd
    rw [List.drop_eq_getElem_cons hi] at hd
    injection hd with hd1 hd2
    have hx : R[i]? = some x := by rw [List.getElem?_eq_getElem hi, hd1]
    have hto := h.to i x hx
    have hfr := h.frm i x hx
    have hf := h.from3 x (List.mem_of_getElem? hx)
    rw [rangeC, rangeL, if_pos (by omega)]
    simp only []
    rw [and_loop x.From 0 _ fun q hq => idxM_at (hfr q hq).1 (by have := (hfr q hq).2; omega) (preL_lt (by have := hfr q hq; omega)), if_pos rfl, idxM_at (v := false) (by omega) (by omega) (by rw [hto, Int.toNat_natCast]; exact preL_ge (Nat.le_refl _) (by omega)), Option.bind_some, if_neg (by simp), hto, Int.toNat_natCast, preL_set (by omega)]
    have := h.reach1 l (i + 1) (j + 1) true K hd2
    rw [show i + (x :: l).length = i + 1 + l.length by rw [List.length_cons]; omega]
    simpa using this
theorem SA.reach2 (h : SA r k s R) {T : Type} : ∀ (l : List Rule) (j : Nat) (K : Bool × List Bool → Option T), (∀ x ∈ l, x ∈ R) →
    rangeC (fun i12 x12 (s12 : Bool × (List Bool)) n12 =>
        rangeL x12.From true (fun k13 i13 x13 (s13 : Bool) n13 =>
          if s13 = true then
            (idxM k s12.2 x13).bind fun v4 =>
            n13 v4
          else
            n13 false) fun s13 =>
        if s13 = true then
          (idxM k s12.2 x12.To).bind fun v3 =>
          if v3 = true then
            n12 (s12.1, s12.2)
          else
            n12 (true, (List.set s12.2 ((x12.To).toNat) true))
        else
          n12 (s12.1, s12.2)) l j (false, List.replicate k true) K = K (false, List.replicate k true)
  | [], j, K, _ => rfl
  | x :: l, j, K, hx => by
    have hxR := hx x (by simp)
    have hf := h.from3 x hxR
    have hto := h.toB x hxR
    rw [rangeC, rangeL, if_pos (by omega)]
    simp only []
    rw [and_loop x.From 0 _ fun q hq => idxM_at (h.frmB x hxR q hq).1 (h.frmB x hxR q hq).2 (rep_at (h.frmB x hxR q hq).1 (h.frmB x hxR q hq).2), if_pos rfl, idxM_at (v := true) hto.1 hto.2 (rep_at hto.1 hto.2), Option.bind_some, if_pos rfl]
    exact h.reach2 l (j + 1) K fun y hy => hx y (List.mem_cons_of_mem _ hy)
theorem tk_rep {b : Bool} : tkM k (List.replicate k b) = some (List.replicate k b) := by
  unfold tkM; rw [if_pos (by simp), List.take_of_length_le (by simp)]
theorem SA.reached (h : SA r k s R) {n : Nat} (hn : 3 ≤ n) {F : List Int} : ref03_Reached n ⟨(k : Int), F, R⟩ = some (List.replicate k true) := by
  have hlen := h.len
  have hk := h.k300
  have hk1 := h.k1
  obtain ⟨m, rfl⟩ : ∃ m, n = m + 3 := ⟨n - 3, by omega⟩
  unfold ref03_Reached
  have e1 : mkz 1 (k : Int) (k : Int) false = some (List.replicate k false) := by unfold mkz; rw [if_pos ⟨by omega, by omega, by rw [Int.toNat_natCast]; omega⟩, Int.toNat_natCast]
  show (mkz 1 (k : Int) (k : Int) false).bind _ = _
  rw [e1, Option.bind_some, whileL, whileC, if_pos rfl]
  simp only [Int.toNat_natCast]
  rw [rangeL, if_pos (by omega)]
  have p0 : preL k 0 = List.replicate k false := by unfold preL; rw [Nat.sub_zero]; rfl
  rw [← p0, h.reach1 R 0 0 false _ rfl, Nat.zero_add, hlen, preL_all]
  have hne : (false || !R.isEmpty) = true := by
    cases R with
    | nil => simp at hlen; omega
    | cons _ _ => rfl
  rw [hne]
  simp only []
  rw [whileC, if_pos rfl]
  simp only []
  rw [rangeL, if_pos (by omega), h.reach2 R 0 _ fun _ h => h]
  simp only []
  rw [whileC, if_neg (by simp)]
  simp only []
  rw [tk_rep]; rfl
def cnt : List Bool → Nat
  | [] => 0
  | b :: l => (if b = true then 1 else 0) + cnt l
theorem cnt_le : ∀ l, cnt l ≤ l.length
  | [] => Nat.le_refl _
  | b :: l => by rw [cnt, List.length_cons]; have := cnt_le l; split <;> omega
theorem cnt_set : ∀ (l : List Bool) (q : Nat), l[q]? = some false → cnt (l.set q true) = cnt l + 1
  | [], _, h => by simp at h
  | b :: l, 0, h => by
    rw [List.getElem?_cons_zero] at h
    injection h with h; subst h
    rw [List.set_cons_zero, cnt, cnt, if_pos rfl, if_neg (by simp)]; omega
  | b :: l, q + 1, h => by
    rw [List.getElem?_cons_succ] at h
    rw [List.set_cons_succ, cnt, cnt, cnt_set l q h]; omega
/-- more states are marked -/
def Gr (b : Bool) (st : List Bool) (b' : Bool) (st' : List Bool) : Prop :=
  st'.length = st.length ∧ (∀ q : Nat, st[q]? = some true → st'[q]? = some true) ∧ cnt st ≤ cnt st' ∧ (b' = true → b = true ∨ cnt st < cnt st') ∧ (b' = false → b = false ∧ st' = st)
theorem Gr.refl (b : Bool) (st : List Bool) : Gr b st b st := ⟨rfl, fun _ h => h, Nat.le_refl _, .inl, fun h => ⟨h, rfl⟩⟩
theorem Gr.trans {b b' b'' : Bool} {st st' st'' : List Bool} (h : Gr b st b' st') (g : Gr b' st' b'' st'') : Gr b st b'' st'' := by
  obtain ⟨h1, h2, h3, h4, h5⟩ := h
  obtain ⟨g1, g2, g3, g4, g5⟩ := g
  refine ⟨by omega, fun q hq => g2 q (h2 q hq), by omega, fun e => ?_, fun e => ?_⟩
  · rcases g4 e with e | e
    · rcases h4 e with e | e
      · exact .inl e
      · exact .inr (by omega)
    · exact .inr (by omega)
  · obtain ⟨e1, e2⟩ := g5 e
    obtain ⟨e3, e4⟩ := h5 e1
    exact ⟨e3, by rw [e2, e4]⟩
theorem Gr.set {b : Bool} {st : List Bool} {q : Nat} (h : st[q]? = some false) : Gr b st true (st.set q true) := by
  refine ⟨List.length_set, fun p hp => ?_, by rw [cnt_set st q h]; omega, fun _ => .inr (by rw [cnt_set st q h]; omega), fun e => by cases e⟩
  rw [List.getElem?_set]
  by_cases e : q = p
  · subst e; rw [h] at hp; cases hp
  · rw [if_neg e]; exact hp
theorem mark_loop {T : Type} : ∀ (f : List Int) (i : Nat) (b : Bool) (st : List Bool) (K : Bool × Bool × List Bool → Option T), (∀ q ∈ f, 0 ≤ q ∧ q < (k : Int)) → st.length = k →
    ∃ b' st', rangeC (fun i23 x23 (s23 : Bool × Bool × (List Bool)) n23 =>
          if s23.1 = true then
            (idxM k s23.2.2 x23).bind fun v5 =>
            if v5 = true then
              n23 (true, s23.2.1, s23.2.2)
            else
              n23 (true, true, (List.set s23.2.2 ((x23).toNat) true))
          else
            n23 (false, s23.2.1, s23.2.2)) f i (true, b, st) K = K (true, b', st') ∧ Gr b st b' st' ∧ ∀ q ∈ f, st'[q.toNat]? = some true
  | [], i, b, st, K, _, _ => ⟨b, st, rfl, Gr.refl b st, fun q h => by cases h⟩
  | q :: f, i, b, st, K, hf, hl => by
    obtain ⟨q0, q1⟩ := hf q (by simp)
    have hq : q.toNat < st.length := by omega
    have hg := List.getElem?_eq_getElem hq
    cases c : st[q.toNat] with
    | true =>
      rw [c] at hg
      obtain ⟨b', st', e, g, h⟩ := mark_loop f (i + 1) b st K (fun y hy => hf y (List.mem_cons_of_mem _ hy)) hl
      refine ⟨b', st', ?_, g, fun y hy => ?_⟩
      · rw [rangeC, if_pos rfl, idxM_at q0 q1 hg, Option.bind_some, if_pos rfl]; exact e
      · rcases List.mem_cons.1 hy with rfl | hy
        · exact g.2.1 _ hg
        · exact h y hy
    | false =>
      rw [c] at hg
      obtain ⟨b', st', e, g, h⟩ := mark_loop f (i + 1) true (st.set q.toNat true) K (fun y hy => hf y (List.mem_cons_of_mem _ hy)) (by rw [List.length_set]; exact hl)
      refine ⟨b', st', ?_, (Gr.set hg).trans g, fun y hy => ?_⟩
      · rw [rangeC, if_pos rfl, idxM_at q0 q1 hg, Option.bind_some, if_neg (by simp)]; exact e
      · rcases List.mem_cons.1 hy with rfl | hy
        · exact g.2.1 _ (by rw [List.getElem?_set, if_pos rfl, if_pos hq])
        · exact h y hy
theorem mark_off {T : Type} : ∀ (f : List Int) (i : Nat) (b : Bool) (st : List Bool) (K : Bool × Bool × List Bool → Option T),
    rangeC (fun i23 x23 (s23 : Bool × Bool × (List Bool)) n23 =>
          if s23.1 = true then
            (idxM k s23.2.2 x23).bind fun v5 =>
            if v5 = true then
              n23 (true, s23.2.1, s23.2.2)
            else
              n23 (true, true, (List.set s23.2.2 ((x23).toNat) true))
          else
            n23 (false, s23.2.1, s23.2.2)) f i (false, b, st) K = K (false, b, st)
  | [], i, b, st, K => rfl
  | q :: f, i, b, st, K => by rw [rangeC, if_neg (by simp)]; exact mark_off f (i + 1) b st K
theorem fit_rep {T : Type} : ∀ (f : List Int) (i : Nat) (b : Bool) (K : Bool → Option T), (∀ q ∈ f, 0 ≤ q ∧ q < (k : Int)) →
    rangeC (fun i22 x22 (s22 : Bool) n22 =>
          if s22 = true then
            (idx (List.replicate k true) x22).bind fun v6 =>
            n22 v6
          else
            n22 false) f i b K = K b
  | [], i, b, K, _ => rfl
  | q :: f, i, b, K, h => by
    have ih := fun b' => fit_rep f (i + 1) b' K fun y hy => h y (List.mem_cons_of_mem _ hy)
    rw [rangeC]
    cases b with
    | true => rw [if_pos rfl, idx_rep (h q (by simp)).1 (h q (by simp)).2, Option.bind_some]; exact ih true
    | false => rw [if_neg (by simp)]; exact ih false
theorem SA.pass (h : SA r k s R) {T : Type} : ∀ (l : List Rule) (i : Nat) (b : Bool) (st : List Bool) (K : Bool × List Bool → Option T), (∀ x ∈ l, x ∈ R) → st.length = k →
    ∃ b' st', rangeC (fun i21 x21 (s21 : Bool × (List Bool)) n21 =>
        (idxM k s21.2 x21.To).bind fun v4 =>
        rangeL x21.From v4 (fun k22 i22 x22 (s22 : Bool) n22 =>
          if s22 = true then
            (idx (List.replicate k true) x22).bind fun v6 =>
            n22 v6
          else
            n22 false) fun s22 =>
        rangeL x21.From (s22, s21.1, s21.2) (fun k23 i23 x23 (s23 : Bool × Bool × (List Bool)) n23 =>
          if s23.1 = true then
            (idxM k s23.2.2 x23).bind fun v5 =>
            if v5 = true then
              n23 (true, s23.2.1, s23.2.2)
            else
              n23 (true, true, (List.set s23.2.2 ((x23).toNat) true))
          else
            n23 (false, s23.2.1, s23.2.2)) fun s23 =>
        n21 (s23.2.1, s23.2.2)) l i (b, st) K = K (b', st') ∧ Gr b st b' st' ∧ (b' = false → ∀ x ∈ l, st[x.To.toNat]? = some true → ∀ q ∈ x.From, st[q.toNat]? = some true)
  | [], i, b, st, K, _, _ => ⟨b, st, rfl, Gr.refl b st, fun _ x h => by cases h⟩
  | x :: l, i, b, st, K, hx, hl => by
    have hxR := hx x (by simp)
    have hf := h.from3 x hxR
    have hto := h.toB x hxR
    have hfb := h.frmB x hxR
    have ht : x.To.toNat < st.length := by omega
    have hg := List.getElem?_eq_getElem ht
    have hx' : ∀ y ∈ l, y ∈ R := fun y hy => hx y (List.mem_cons_of_mem _ hy)
    cases c : st[x.To.toNat] with
    | true =>
      rw [c] at hg
      obtain ⟨b1, st1, e1, g1, m1⟩ := mark_loop (T := T) (k := k) x.From 0 b st (fun s23 => rangeC (fun i21 x21 (s21 : Bool × (List Bool)) n21 =>
        (idxM k s21.2 x21.To).bind fun v4 =>
        rangeL x21.From v4 (fun k22 i22 x22 (s22 : Bool) n22 =>
          if s22 = true then
            (idx (List.replicate k true) x22).bind fun v6 =>
            n22 v6
          else
            n22 false) fun s22 =>
        rangeL x21.From (s22, s21.1, s21.2) (fun k23 i23 x23 (s23 : Bool × Bool × (List Bool)) n23 =>
          if s23.1 = true then
            (idxM k s23.2.2 x23).bind fun v5 =>
            if v5 = true then
              n23 (true, s23.2.1, s23.2.2)
            else
              n23 (true, true, (List.set s23.2.2 ((x23).toNat) true))
          else
            n23 (false, s23.2.1, s23.2.2)) fun s23 =>
        n21 (s23.2.1, s23.2.2)) l (i + 1) (s23.2.1, s23.2.2) K) hfb hl
      obtain ⟨b2, st2, e2, g2, m2⟩ := h.pass l (i + 1) b1 st1 K hx' (by rw [g1.1]; exact hl)
      refine ⟨b2, st2, ?_, g1.trans g2, fun hb y hy hy1 q hq => ?_⟩
      · rw [rangeC]
        simp only []
        rw [idxM_at hto.1 hto.2 hg, Option.bind_some, rangeL, if_pos (by omega), fit_rep x.From 0 true _ hfb, rangeL, if_pos (by omega)]
        exact e1.trans e2
      · obtain ⟨hb1, hs1⟩ := g2.2.2.2.2 hb
        obtain ⟨_, hs2⟩ := g1.2.2.2.2 hb1
        rcases List.mem_cons.1 hy with rfl | hy
        · have := m1 q hq; rw [hs2] at this; exact this
        · rw [hs2] at m2; exact m2 hb y hy hy1 q hq
    | false =>
      rw [c] at hg
      obtain ⟨b2, st2, e2, g2, m2⟩ := h.pass l (i + 1) b st K hx' hl
      refine ⟨b2, st2, ?_, g2, fun hb y hy hy1 q hq => ?_⟩
      · rw [rangeC]
        simp only []
        rw [idxM_at hto.1 hto.2 hg, Option.bind_some, rangeL, if_pos (by omega), fit_rep x.From 0 false _ hfb, rangeL, if_pos (by omega), mark_off]
        exact e2
      · rcases List.mem_cons.1 hy with rfl | hy
        · rw [hg] at hy1; cases hy1
        · exact m2 hb y hy hy1 q hq
theorem SA.allT (h : SA r k s R) {st : List Bool} (hl : st.length = k) (hs : st[s.toNat]? = some true) (hc : ∀ x ∈ R, st[x.To.toNat]? = some true → ∀ q ∈ x.From, st[q.toNat]? = some true) : st = List.replicate k true := by
  have H : ∀ q : Int, Bel R s q → st[q.toNat]? = some true := by
    intro q hq
    induction hq with
    | refl => exact hs
    | step _ hx hq ih => exact hc _ hx ih _ hq
  apply List.ext_getElem?
  intro q
  rw [List.getElem?_replicate]
  split
  · rename_i hq
    have := H q (h.bel q hq)
    rwa [Int.toNat_natCast] at this
  · exact List.getElem?_eq_none (by omega)
theorem SA.usedW (h : SA r k s R) {T : Type} (K : Bool × List Bool → Option T) : ∀ (m : Nat) (st : List Bool), k - cnt st + 2 ≤ m → st.length = k → st[s.toNat]? = some true →
    whileC (fun (s16 : Bool × (List Bool)) n16 =>
    if s16.1 = true then
      rangeL R (false, s16.2) (fun k21 i21 x21 (s21 : Bool × (List Bool)) n21 =>
        (idxM k s21.2 x21.To).bind fun v4 =>
        rangeL x21.From v4 (fun k22 i22 x22 (s22 : Bool) n22 =>
          if s22 = true then
            (idx (List.replicate k true) x22).bind fun v6 =>
            n22 v6
          else
            n22 false) fun s22 =>
        rangeL x21.From (s22, s21.1, s21.2) (fun k23 i23 x23 (s23 : Bool × Bool × (List Bool)) n23 =>
          if s23.1 = true then
            (idxM k s23.2.2 x23).bind fun v5 =>
            if v5 = true then
              n23 (true, s23.2.1, s23.2.2)
            else
              n23 (true, true, (List.set s23.2.2 ((x23).toNat) true))
          else
            n23 (false, s23.2.1, s23.2.2)) fun s23 =>
        n21 (s23.2.1, s23.2.2)) fun s21 =>
      n16 (s21.1, s21.2)
    else
      K (false, s16.2)) m (true, st) = K (false, List.replicate k true)
  | 0, st, hm, _, _ => by omega
  | 1, st, hm, _, _ => by omega
  | m + 2, st, hm, hl, hs => by
    have hlen := h.len
    have hk := h.k300
    rw [whileC, if_pos rfl, rangeL, if_pos (by omega)]
    simp only []
    obtain ⟨b', st', e, g, c⟩ := h.pass R 0 false st (fun s21 => whileC (fun (s16 : Bool × (List Bool)) n16 =>
    if s16.1 = true then
      rangeL R (false, s16.2) (fun k21 i21 x21 (s21 : Bool × (List Bool)) n21 =>
        (idxM k s21.2 x21.To).bind fun v4 =>
        rangeL x21.From v4 (fun k22 i22 x22 (s22 : Bool) n22 =>
          if s22 = true then
            (idx (List.replicate k true) x22).bind fun v6 =>
            n22 v6
          else
            n22 false) fun s22 =>
        rangeL x21.From (s22, s21.1, s21.2) (fun k23 i23 x23 (s23 : Bool × Bool × (List Bool)) n23 =>
          if s23.1 = true then
            (idxM k s23.2.2 x23).bind fun v5 =>
            if v5 = true then
              n23 (true, s23.2.1, s23.2.2)
            else
              n23 (true, true, (List.set s23.2.2 ((x23).toNat) true))
          else
            n23 (false, s23.2.1, s23.2.2)) fun s23 =>
        n21 (s23.2.1, s23.2.2)) fun s21 =>
      n16 (s21.1, s21.2)
    else
      K (false, s16.2)) (m + 1) (s21.1, s21.2)) (fun _ h => h) hl
    refine e.trans ?_
    cases b' with
    | true =>
      rcases g.2.2.2.1 rfl with e | e
      · cases e
      · have := cnt_le st'
        have := g.1
        exact h.usedW K (m + 1) st' (by omega) (by omega) (g.2.1 _ hs)
    | false =>
      have hst := (g.2.2.2.2 rfl).2
      have hall := h.allT hl hs (c rfl)
      simp only []
      rw [whileC, if_neg (by simp), hst, hall]
theorem SA.used (h : SA r k s R) {n : Nat} (hn : 310 ≤ n) : ref03_Used n ⟨(k : Int), [s], R⟩ = some (List.replicate k true) := by
  have hlen := h.len
  have hk := h.k300
  obtain ⟨s0, s1⟩ := h.s0
  unfold ref03_Used
  have e1 : mkz 1 (k : Int) (k : Int) false = some (List.replicate k false) := by unfold mkz; rw [if_pos ⟨by omega, by omega, by rw [Int.toNat_natCast]; omega⟩, Int.toNat_natCast]
  rw [h.reached (by omega), Option.bind_some]
  show (mkz 1 (k : Int) (k : Int) false).bind _ = _
  rw [e1, Option.bind_some, rangeL, if_pos (by simp), rangeC, idx_rep s0 s1, Option.bind_some]
  simp only [Int.toNat_natCast]
  rw [idxM_at s0 s1 (rep_at s0 s1), Option.bind_some, rangeC, whileL]
  refine (h.usedW (fun s16 => (tkM k s16.2).bind fun v3 => some v3) n ((List.replicate k false).set s.toNat true) (by omega) (by simp) (by rw [List.getElem?_set, if_pos rfl, if_pos (by simp; omega)])).trans ?_
  simp only []
  rw [tk_rep]; rfl
theorem SA.trimmed (h : SA r k s R) {n : Nat} (hn : 402 ≤ n) : ∃ L, ref03_Trimmed n ⟨(k : Int), [s], R⟩ = some ⟨(k : Int), [s], L⟩ ∧ L.Perm R := by
  obtain ⟨L, e, hL⟩ := h.keep hn
  refine ⟨L, ?_, hL⟩
  unfold ref03_Trimmed
  rw [h.used (by omega), Option.bind_some, e]; rfl
end Go.AM.S03
namespace Go.AM.S03
open Go Go.Proofs Go.AM
set_option linter.unusedVariables false
theorem twL_all : ∀ {l : List Tree}, (∀ x, x ∈ l → twT x = true) → twL l = true
  | [], _ => by rw [twL]
  | x :: r, h => by rw [twL, h x (by simp), twL_all (fun y hy => h y (List.mem_cons_of_mem _ hy))]; rfl
theorem d3 : (T.at 3).d = .int .i64 := rfl
theorem d30 : (T.at 30).d = .st [(0, 3), (1, 28)] := rfl
theorem d28 : (T.at 28).d = .sl 30 := rfl
theorem d22 : (T.at 22).d = .sl 3 := rfl
theorem d24 : (T.at 24).d = .st [(0, 22)] := rfl
theorem sz3 : (T.at 3).size = 1 := rfl
theorem sz28 : (T.at 28).size = 1 := rfl
theorem sz30 : (T.at 30).size = 2 := rfl
theorem sz22 : (T.at 22).size = 1 := rfl
theorem sz24 : (T.at 24).size = 1 := rfl
theorem sz25 : (T.at 25).size = 1 := rfl
theorem sz27 : (T.at 27).size = 3 := rfl
theorem sz83 : (T.at 83).size = 3 := rfl
theorem wt30 : ∀ (n : Nat) (cs : List PV), wt T n 30 cs → ∃ x : Tree, cs = row_Tree x ∧ twT x = true := by
  intro n
  induction n using Nat.strongRecOn with
  | _ n ih =>
    intro cs h
    obtain ⟨m, rfl, h1, h2⟩ := wt_st d30 h
    rw [sz30] at h1
    match cs, h1 with
    | [c0, c1], _ =>
      have f0 := h2 (0, 3) (by simp)
      have f1 := h2 (1, 28) (by simp)
      simp only [sz3, sz28, List.drop_zero, List.drop_succ_cons, List.take_succ_cons, List.take_zero] at f0 f1
      obtain ⟨i, e0, _⟩ := wt_int d3 f0
      obtain ⟨xs, e1, hl, hx⟩ := wt_slM (row := row_Tree) (P := fun x => twT x = true) d28 f1 (fun m' r hm hr => ih m' (by omega) r hr)
      injection e0 with e0; subst e0
      injection e1 with e1; subst e1
      refine ⟨⟨i, xs⟩, by rw [row_Tree_eq, sz30], ?_⟩
      rw [twT, decide_eq_true hl, twL_all hx]; rfl
theorem wt22 {n : Nat} {cs : List PV} (h : wt T n 22 cs) : ∃ r : List Int, cs = [.sl none 1 (r.map rowI)] ∧ r.length < 9223372036854775808 := by
  obtain ⟨xs, e, hl, _⟩ := wt_slM (row := rowI) (P := fun _ => True) d22 h (fun m' r _ hr => by
    obtain ⟨i, e, _⟩ := wt_int d3 hr
    exact ⟨i, e, trivial⟩)
  rw [sz3] at e
  exact ⟨xs, e, hl⟩
theorem wt24 {n : Nat} {cs : List PV} (h : wt T n 24 cs) : ∃ r : List Int, cs = [.sl none 1 (r.map rowI)] := by
  obtain ⟨m, rfl, h1, h2⟩ := wt_st d24 h
  rw [sz24] at h1
  match cs, h1 with
  | [c0], _ =>
    have f0 := h2 (0, 22) (by simp)
    simp only [sz22, List.drop_zero, List.take_succ_cons, List.take_zero] at f0
    obtain ⟨r, e, _⟩ := wt22 f0
    exact ⟨r, e⟩
theorem closed : closedB T [3, 22, 24, 25, 27, 28, 30, 83] = true := by decide +kernel
end Go.AM.S03
namespace Go.AM.S03
open Go Go.Proofs Go.AM
set_option linter.unusedVariables false
set_option maxRecDepth 100000
set_option maxHeartbeats 4000000
theorem Single_eq {n : Nat} {r : List Int} {t : Tree} (hd : tdT t + 5 ≤ n) (hw : twT t = true) (hv : tvld r t = true) :
    ∃ (s : Int) (R : List Rule), auto_Single n ⟨r⟩ t = some (⟨(R.length : Int), [s], R⟩, 0) ∧ SA r R.length s R ∧ R.length ≤ tsT t ∧ stT ⟨(R.length : Int), [s], R⟩ t s = true := by
  obtain ⟨hr, hs, hsh⟩ := tvld_parts hv
  have hva : vA r = true := by unfold tvld at hv; rw [Bool.and_eq_true] at hv; exact hv.1
  obtain ⟨s, R, m, e, g, _, hl, hs0, hst, hb⟩ := add_eq hr (F := []) n t [] [] hd hsh (SG.nil r) (by simpa using hs)
  simp only [List.length_nil, Nat.zero_add] at hl
  refine ⟨s, R, ?_, ⟨hr, ?_, hva, rfl, by omega, by omega, hs0, g.to, g.frm, g.shp, fun i j x y hi hj h1 h2 => ?_, fun q hq => hb q (Nat.zero_le _) hq⟩, hl, ?_⟩
  · unfold auto_Single
    have e' : auto_Single_1_xcefd n t ⟨0, [], []⟩ [] = some (s, ⟨(R.length : Int), [], R⟩, m) := e
    rw [tvalid_eq r (by omega) hw, hv, Option.bind_some, if_pos rfl, e']; rfl
  · have h := hva
    unfold vA at h
    rw [Bool.and_eq_true, List.all_eq_true] at h
    exact fun x hx => of_decide_eq_true (h.2 x hx)
  · have a1 := g.map1 i x hi
    have a2 := g.map1 j y hj
    unfold keyOf at a1 a2
    rw [h1, h2, a2] at a1
    injection a1 with a1
    omega
  · have := st_mono (S' := (R.length : Int)) (F' := [s]) (N := []) t s hst
    rwa [List.append_nil] at this
theorem Single_bad {n : Nat} {r : List Int} {t : Tree} (hd : tdT t < n) (hw : twT t = true) (hv : tvld r t = false) : ∃ a, auto_Single n ⟨r⟩ t = some (a, 1) := by
  unfold auto_Single
  rw [tvalid_eq r hd hw, hv, Option.bind_some, if_neg (by simp)]
  exact ⟨_, rfl⟩
theorem single_law (m : Nat) (r : List Int) (t : Tree) (hd : tdT t ≤ m) (hw : twT t = true) : law03_AutoSingle (m + 440) ⟨r⟩ t = some true := by
  have aw : law03_awake (m + 440) = some true := awake_eq (m + 400)
  unfold law03_AutoSingle
  rw [aw]
  simp only [Option.bind_some]
  by_cases c : 40 < (r.length : Int)
  · rw [if_pos c]
  rw [if_neg c, tfew_eq (by omega) hw (by omega) (by omega), Option.bind_some]
  by_cases c2 : (tsT t : Int) ≤ 400
  · rw [decide_eq_true c2, if_pos rfl, rtvalid_eq r (by omega) hw]
    cases hv : tvld r t with
    | false =>
      obtain ⟨a, e⟩ := Single_bad (n := m + 440) (by omega) hw hv
      rw [e]
      simp only [Option.bind_some, Bool.false_eq_true, if_false, if_true]
    | true =>
      obtain ⟨s, R, e, h, hl, hst⟩ := Single_eq (n := m + 440) (by omega) hw hv
      obtain ⟨hr, hs, hsh⟩ := tvld_parts hv
      obtain ⟨L, eL, hL⟩ := h.trimmed (n := m + 440) (by omega)
      have hll := hL.length_eq
      rw [e]
      simp only [Option.bind_some, if_true]
      rw [h.valid]
      simp only [Option.bind_some, if_true]
      rw [h.one]
      simp only [Option.bind_some, if_true]
      rw [Has_eq h.ok (by omega) hsh hs]
      have hh : (([s] : List Int).find? (stT ⟨(R.length : Int), [s], R⟩ t)).isSome = true := by rw [List.find?_cons, hst]; rfl
      rw [hh]
      simp only [Option.bind_some, if_true]
      rw [eL]
      simp only [Option.bind_some, if_true]
      rw [if_pos (by omega), if_pos (by simp), ref01_Size_eq _ t (by omega) (by omega), Option.bind_some, if_pos (by omega), h.lone hL]
      simp only [Option.bind_some, if_true]
  · rw [decide_eq_false c2, if_neg (by simp)]
theorem law5 (pss : List (List PV)) (h : wtAll T [24, 30] pss) : ∃ σ', call Tryd.prog T H (.fn 5) (argsOf T [24, 30] pss) [] = some (.ret (.p (.lit (.bool true))), σ') := by
  obtain ⟨p1, r1, rfl, ⟨n1, w1⟩, p3, r3, rfl, ⟨n3, w3⟩, rfl⟩ := h
  obtain ⟨r, rfl⟩ := wt24 w1
  obtain ⟨x, rfl, hx⟩ := wt30 n3 p3 w3
  have := spec5 (tdT x + 440) ⟨r⟩ x true (single_law (tdT x) r x (Nat.le_refl _) hx)
  rw [row_Tree_eq]
  exact ⟨[], this⟩
end Go.AM.S03
namespace Go.AM
open Go Go.ChangeShapes Go.RowKit
/-- one variable of those that are laid -/
theorem laidVars_one {P : Program} {W : World} {x : String × DataW Unit} : ∀ {l : List (String × DataW Unit)} {ps : List MemPlace}, DataW.LaidVars P W l ps → x ∈ l → ∃ qs, DataW.LaidVars P W [x] qs ∧ qs.Sublist ps
  | [], _, _, hx => by cases hx
  | (n, d) :: r, ps, ⟨g, t, cs, fuel, p, q, h1, h2, h3, h4, h5, h6⟩, hx => by
    rcases List.mem_cons.1 hx with rfl | hx
    · refine ⟨MemPlace.row ⟨g, 0, none⟩ cs.size ++ p ++ [], ⟨g, t, cs, fuel, p, [], h1, h2, h3, h4, rfl, rfl⟩, ?_⟩
      rw [h6]
      exact List.Sublist.append (List.Sublist.refl _) (List.nil_sublist q)
    · obtain ⟨qs, h7, h8⟩ := laidVars_one h5 hx
      exact ⟨qs, h7, by rw [h6]; exact h8.trans (List.sublist_append_right _ _)⟩
theorem laidMet_one {P : Program} {W : World} {x : String × DataW Unit} {l : List (String × DataW Unit)} (h : laidMet P l W) (hx : x ∈ l) : laidMet P [x] W := by
  obtain ⟨ps, h1, h2, h3⟩ := h
  obtain ⟨qs, h4, h5⟩ := laidVars_one h1 hx
  exact ⟨qs, h4, h2.sublist h5, fun b off hb => h3 b off (h5.subset hb)⟩
/-- a package variable: an array of unsigned numbers -/
theorem laid_arr {P : Program} {W : World} {name : String} {g t e n : Nat} {k : IntKind} {zs : List Int} (hg : P.globalNamed name = some g) (hty : (P.globals[g]?).map (·.type) = some t) (ht : P.underlying t = some (.array n e))
    (he : P.underlying e = some (.int k)) (c1 : P.cellsOf t = n) (c3 : P.cellsOf e = 1) (hn : zs.length = n) (hlit : ∀ z : Int, litOk (.int k z) = true)
    (h' : laidMet P [(name, .agg (zs.map fun z => .lit (.int k z)))] W) : RelPC (memOf W) (zs.map fun z => .lit (.int k z)) g 0 := by
  obtain ⟨ps, ⟨g', t', cs, fuel, p, q, hg', hty', hvar, hd, _, _⟩, _⟩ := h'
  obtain rfl := Option.some.inj (hg.symm.trans hg')
  obtain rfl := Option.some.inj (hty.symm.trans hty')
  obtain ⟨xs, m, hm, hx, hl, hxl, hf⟩ := DataW.trod_array ht hd
  rw [c1] at hl
  rw [c3] at hf
  injection hx with hx1 hx2
  injection hx1 with hx1
  refine RelPC.mk fun i c hi => ?_
  rw [List.getElem?_map] at hi
  obtain ⟨z, hz, rfl⟩ := Option.map_eq_some_iff.1 hi
  have hi' := (List.getElem?_eq_some_iff.1 hz).1
  have h1 := hf i (by omega)
  rw [List.getElem?_eq_getElem (by omega)] at h1
  obtain ⟨z', hz1, hz2, _⟩ := DataW.trod_int he h1
  have h6 : (zs.map fun z => (DataW.lit (.int k z) : DataW Unit))[i]? = (xs.map (·.1))[i]? := by rw [hx1]
  rw [List.getElem?_map, List.getElem?_map, List.getElem?_eq_getElem (by omega : i < xs.length), hz2, hz] at h6
  have h7 : z = z' := by simpa using h6
  subst h7
  refine ⟨.int k z, ?_, rfl, by unfold RelP; exact ⟨rfl, hlit z⟩⟩
  have h8 : cs.toList[i]? = some (.int k z) := by
    rw [Nat.mul_one] at hz1
    have : ((cs.toList.drop i).take 1)[0]? = some (.int k z) := by rw [hz1]; rfl
    rw [List.getElem?_take_of_lt (by omega), List.getElem?_drop] at this
    simpa using this
  have := World.var?_cell hg hvar i
  show W.cell? ⟨g, 0 + i, none⟩ = some (.int k z)
  rw [Nat.zero_add, this, ← Array.getElem?_toList]
  exact h8
end Go.AM
