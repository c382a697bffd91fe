/- What the functions of this seat compute on the abstract machine, function by function, and the plain laws. -/
import Derived.Test.YtlplohgmoheeaaaTab
import Derived.Test.YtlplohgmoheeaaaAmGen
import Derived.KernelRfl
import Derived.Test.YtlplohgmoheeaaaAmWt
set_option linter.unusedVariables false
set_option linter.unusedSimpArgs false
namespace Go.AM.S02
open Go Go.Proofs Go.AM
set_option maxRecDepth 100000
set_option linter.unusedVariables false


structure Node where
  Label : Int
  Kids : List Node
mutual
def row_Node : Node → List PV
  | .mk f0 f1 => [iv f0, .sl none 2 (rows_Node f1)]
def rows_Node : List Node → List (List PV)
  | [] => []
  | x :: r => row_Node x :: rows_Node r
end
theorem rows_Node_map : ∀ l : List Node, rows_Node l = l.map row_Node
  | [] => rfl
  | x :: r => by rw [rows_Node, rows_Node_map r]; rfl
theorem row_Node_eq (x : Node) : row_Node x = [iv x.Label, .sl none 2 (List.map row_Node x.Kids)] := by
  cases x; rw [row_Node]; simp only [rows_Node_map]
attribute [go_sem] row_Node_eq
structure Tree where
  Sym : Int
  Kids : List Tree
mutual
def row_Tree : Tree → List PV
  | .mk f0 f1 => [iv f0, .sl none 2 (rows_Tree f1)]
def rows_Tree : List Tree → List (List PV)
  | [] => []
  | x :: r => row_Tree x :: rows_Tree r
end
theorem rows_Tree_map : ∀ l : List Tree, rows_Tree l = l.map row_Tree
  | [] => rfl
  | x :: r => by rw [rows_Tree, rows_Tree_map r]; rfl
theorem row_Tree_eq (x : Tree) : row_Tree x = [iv x.Sym, .sl none 2 (List.map row_Tree x.Kids)] := by
  cases x; rw [row_Tree]; simp only [rows_Tree_map]
attribute [go_sem] row_Tree_eq
structure hedge_Info where
  Label : Int
  Parent : Int
  Index : Int
  Last : Int
def row_hedge_Info (x : hedge_Info) : List PV := [iv x.Label, iv x.Parent, iv x.Index, iv x.Last]
theorem row_hedge_Info_eq (x : hedge_Info) : row_hedge_Info x = [iv x.Label, iv x.Parent, iv x.Index, iv x.Last] := rfl
attribute [go_sem] row_hedge_Info_eq
structure ref02_Info where
  Label : Int
  Parent : Int
  Index : Int
  Last : Int
def row_ref02_Info (x : ref02_Info) : List PV := [iv x.Label, iv x.Parent, iv x.Index, iv x.Last]
theorem row_ref02_Info_eq (x : ref02_Info) : row_ref02_Info x = [iv x.Label, iv x.Parent, iv x.Index, iv x.Last] := rfl
attribute [go_sem] row_ref02_Info_eq
structure Alphabet where
  Ranks : List Int
def row_Alphabet (x : Alphabet) : List PV := [.sl none 1 (List.map rowI x.Ranks)]
theorem row_Alphabet_eq (x : Alphabet) : row_Alphabet x = [.sl none 1 (List.map rowI x.Ranks)] := rfl
attribute [go_sem] row_Alphabet_eq
structure hedge_sized where
  label : Int
  size : Int
  kids : List hedge_sized
mutual
def row_hedge_sized : hedge_sized → List PV
  | .mk f0 f1 f2 => [iv f0, iv f1, .sl none 3 (rows_hedge_sized f2)]
def rows_hedge_sized : List hedge_sized → List (List PV)
  | [] => []
  | x :: r => row_hedge_sized x :: rows_hedge_sized r
end
theorem rows_hedge_sized_map : ∀ l : List hedge_sized, rows_hedge_sized l = l.map row_hedge_sized
  | [] => rfl
  | x :: r => by rw [rows_hedge_sized, rows_hedge_sized_map r]; rfl
theorem row_hedge_sized_eq (x : hedge_sized) : row_hedge_sized x = [iv x.label, iv x.size, .sl none 3 (List.map row_hedge_sized x.kids)] := by
  cases x; rw [row_hedge_sized]; simp only [rows_hedge_sized_map]
attribute [go_sem] row_hedge_sized_eq
structure ref02_reader where
  names : List Str
  s : Str
  bad : Bool
def row_ref02_reader (x : ref02_reader) : List PV := [.sl none 1 (List.map rowS x.names), .lit (.string (bs x.s)), bv x.bad]
theorem row_ref02_reader_eq (x : ref02_reader) : row_ref02_reader x = [.sl none 1 (List.map rowS x.names), .lit (.string (bs x.s)), bv x.bad] := rfl
attribute [go_sem] row_ref02_reader_eq
def ref02_count : Nat → (List Node) → Int → Option Int
  | 0, _, _ => none
  | n + 1, a0, a1 =>
    rangeL a0 0 (fun k1 i1 x1 (s1 : Int) n1 =>
      if s1 ≤ a1 then
        (ref02_count n x1.Kids (w64 ((w64 (a1 - s1)) - 1))).bind fun v1 =>
        n1 (w64 (s1 + (w64 (1 + v1))))
      else
        n1 s1) fun s1 =>
    some s1
theorem spec35 : ∀ (n : Nat), (∀ (a0 : List Node) (a1 : Int) (r : Int), ref02_count n a0 a1 = some r →
    call Try.prog T H (.fn 35) [.p (.sl none 2 (List.map row_Node a0)), .p (iv a1)] [] = some (.ret (.p (iv r)), [])) := by
  intro n
  induction n with
  | zero => intro a0 a1 r h; cases h
  | succ n ih =>
    intro a0 a1 r h
    refine Sat.fn fun Q hQ => ?_
    rw [ref02_count] at h
    rw [call35]
    conv => arg 1; arg 7; unfold c35 Try.f35; simp only [Option.getD_some]
    simp only [go_sem]
    refine run_rangeL (c := L35_0) (live := [1, 5, 8, 9, 10]) (by simp only [go_sem]) (M := fun i1 (s1 : Int) => [(1, .p (iv a1)), (5, .p (iv s1)), (8, .p (.sl none 2 (List.map row_Node a0))), (9, .p (iv (a0.length : Int))), (10, .p (iv (i1 : Int)))]) (Z := fun i1 (s1 : Int) => []) (N := fun (s1 : Int) => ⟨[(5, .p (iv s1))], [], [], none, false⟩) h rfl rfl (fun _ _ => rfl) ?_ ?_ ?_
    · intro s1 h
      try dsimp only at h ⊢
      simp only [go_sem]
      injection h with h; subst h
      exact Sat.ok hQ
    · intro K1 s1 hb1 he1
      try dsimp only
      conv => arg 1; arg 7; unfold L35_0 loopAt c35 Try.f35; simp only [loopIn, Option.getD_some, if_true]
      simp only [go_sem, he1]
      exact hb1
    · intro K1 k1 i1 x1 s1 n1 hR1 hE1 hb1 hx1 hi1 hw1 ih1 h
      try dsimp only at h ⊢
      conv => arg 1; arg 7; unfold L35_0 loopAt c35 Try.f35; simp only [loopIn, Option.getD_some, if_true]
      by_cases c1 : s1 ≤ a1
      · have h := iteT h c1
        obtain ⟨v1, e_v1, h⟩ := ob h
        have e_v1c : call Try.prog T H (.fn 35) [.p (.sl none 2 (List.map row_Node x1.Kids)), .p (iv (w64 ((w64 (a1 - s1)) - 1)))] [] = some (.ret (.p (iv v1)), []) := ih x1.Kids (w64 ((w64 (a1 - s1)) - 1)) v1 e_v1
        simp only [go_sem, hx1, hi1, hw1, c1, e_v1c, hR1, hE1]
        exact ih1 _ h
      · have h := iteF h c1
        simp only [go_sem, hx1, hi1, hw1, c1, hR1, hE1]
        exact ih1 _ h

def ref02_Few (n : Nat) (a0 : List Node) (a1 : Int) : Option Bool :=
  (ref02_count n a0 a1).bind fun v1 =>
  some (decide (v1 ≤ a1))
theorem spec8 (n : Nat) (a0 : List Node) (a1 : Int) (r : Bool) (h : ref02_Few n a0 a1 = some r) :
    call Try.prog T H (.fn 8) [.p (.sl none 2 (List.map row_Node a0)), .p (iv a1)] [] = some (.ret (.p (bv r)), []) := by
  refine Sat.fn fun Q hQ => ?_
  unfold ref02_Few at h
  rw [call8]
  conv => arg 1; arg 7; unfold c8 Try.f8; simp only [Option.getD_some]
  obtain ⟨v1, e_v1, h⟩ := ob h
  have e_v1c : call Try.prog T H (.fn 35) [.p (.sl none 2 (List.map row_Node a0)), .p (iv a1)] [] = some (.ret (.p (iv v1)), []) := spec35 n a0 a1 v1 e_v1
  simp only [go_sem, e_v1c]
  injection h with h; subst h
  exact Sat.ok hQ

def hedge_labels (a0 : Int) : Option Bool :=
  if 1 ≤ a0 then
    some (decide (a0 ≤ 8))
  else
    some false
theorem spec47 (a0 : Int) (r : Bool) (h : hedge_labels a0 = some r) :
    call Try.prog T H (.fn 47) [.p (iv a0)] [] = some (.ret (.p (bv r)), []) := by
  refine Sat.fn fun Q hQ => ?_
  unfold hedge_labels at h
  rw [call47]
  conv => arg 1; arg 7; unfold c47 Try.f47; simp only [Option.getD_some]
  by_cases c1 : 1 ≤ a0
  · have h := iteT h c1
    simp only [go_sem, c1]
    injection h with h; subst h
    exact Sat.ok hQ
  · have h := iteF h c1
    simp only [go_sem, c1]
    injection h with h; subst h
    exact Sat.ok hQ

def hedge_formed : Nat → Int → (List Node) → Int → Option (Bool × Int)
  | 0, _, _, _ => none
  | n + 1, a0, a1, a2 =>
    rangeL a1 a2 (fun k1 i1 x1 (s1 : Int) n1 =>
      if (w64 (s1 - 1)) < 0 then
        some (false, w64 (s1 - 1))
      else
        if x1.Label < 0 then
          some (false, w64 (s1 - 1))
        else
          if a0 ≤ x1.Label then
            some (false, w64 (s1 - 1))
          else
            (hedge_formed n a0 x1.Kids (w64 (s1 - 1))).bind fun v1 =>
            if v1.1 = true then
              n1 v1.2
            else
              some (false, v1.2)) fun s1 =>
    some (true, s1)
theorem spec50 : ∀ (n : Nat), (∀ (σ : List AObj) (p2 : Nat) (hp2 : p2 < σ.length) (a0 : Int) (a1 : List Node) (a2 : Int) (r : Bool × Int), hedge_formed n a0 a1 a2 = some r →
    call Try.prog T H (.fn 50) [.p (iv a0), .p (.sl none 2 (List.map row_Node a1)), .ptr p2 0] (List.set σ p2 (.cells [.p (iv a2)])) = some (.ret (.p (bv r.1)), (List.set σ p2 (.cells [.p (iv r.2)])))) := by
  intro n
  induction n with
  | zero => intro σ p2 hp2 a0 a1 a2 r h; cases h
  | succ n ih =>
    intro σ p2 hp2 a0 a1 a2 r h
    refine Sat.fn fun Q hQ => ?_
    rw [hedge_formed] at h
    rw [call50]
    conv => arg 1; arg 7; unfold c50 Try.f50; simp only [Option.getD_some]
    simp only [go_sem, hp2, fun k => Nat.lt_add_right k hp2, Nat.not_le_of_lt hp2, fun k => Nat.not_le_of_lt (Nat.lt_add_right k hp2)]
    refine run_rangeL (c := L50_0) (live := [0, 2, 9, 10, 11]) (by simp only [go_sem]) (M := fun i1 (s1 : Int) => [(0, .p (iv a0)), (2, .ptr p2 0), (9, .p (.sl none 2 (List.map row_Node a1))), (10, .p (iv (a1.length : Int))), (11, .p (iv (i1 : Int)))]) (Z := fun i1 (s1 : Int) => (List.set σ p2 (.cells [.p (iv s1)]))) (N := fun (s1 : Int) => ⟨[], (List.set σ p2 (.cells [.p (iv s1)])), [], none, false⟩) h rfl rfl (fun _ _ => rfl) ?_ ?_ ?_
    · intro s1 h
      try dsimp only at h ⊢
      simp only [go_sem, hp2, fun k => Nat.lt_add_right k hp2, Nat.not_le_of_lt hp2, fun k => Nat.not_le_of_lt (Nat.lt_add_right k hp2)]
      injection h with h; subst h
      exact Sat.ok hQ
    · intro K1 s1 hb1 he1
      try dsimp only
      conv => arg 1; arg 7; unfold L50_0 loopAt c50 Try.f50; simp only [loopIn, Option.getD_some, if_true]
      simp only [go_sem, he1]
      exact hb1
    · intro K1 k1 i1 x1 s1 n1 hR1 hE1 hb1 hx1 hi1 hw1 ih1 h
      try dsimp only at h ⊢
      conv => arg 1; arg 7; unfold L50_0 loopAt c50 Try.f50; simp only [loopIn, Option.getD_some, if_true]
      by_cases c1 : (w64 (s1 - 1)) < 0
      · have h := iteT h c1
        simp only [go_sem, hx1, hi1, hw1, c1, hR1, hE1, hp2, fun k => Nat.lt_add_right k hp2, Nat.not_le_of_lt hp2, fun k => Nat.not_le_of_lt (Nat.lt_add_right k hp2)]
        injection h with h; subst h
        exact Sat.ok hQ
      · have h := iteF h c1
        by_cases c2 : x1.Label < 0
        · have h := iteT h c2
          simp only [go_sem, hx1, hi1, hw1, c1, c2, hR1, hE1, hp2, fun k => Nat.lt_add_right k hp2, Nat.not_le_of_lt hp2, fun k => Nat.not_le_of_lt (Nat.lt_add_right k hp2)]
          injection h with h; subst h
          exact Sat.ok hQ
        · have h := iteF h c2
          by_cases c3 : a0 ≤ x1.Label
          · have h := iteT h c3
            simp only [go_sem, hx1, hi1, hw1, c1, c2, c3, hR1, hE1, hp2, fun k => Nat.lt_add_right k hp2, Nat.not_le_of_lt hp2, fun k => Nat.not_le_of_lt (Nat.lt_add_right k hp2)]
            injection h with h; subst h
            exact Sat.ok hQ
          · have h := iteF h c3
            obtain ⟨v1, e_v1, h⟩ := ob h
            have e_v1c : call Try.prog T H (.fn 50) [.p (iv a0), .p (.sl none 2 (List.map row_Node x1.Kids)), .ptr p2 0] ((List.set σ p2 (.cells [.p (iv (w64 (s1 - 1)))])) ++ [.cells [.p (iv x1.Label), .p (.sl none 2 (List.map row_Node x1.Kids))]]) = some (.ret (.p (bv v1.1)), ((List.set σ p2 (.cells [.p (iv v1.2)])) ++ [.cells [.p (iv x1.Label), .p (.sl none 2 (List.map row_Node x1.Kids))]])) := by have q := ih ((List.set σ p2 (.cells [.p (iv (w64 (s1 - 1)))])) ++ [.cells [.p (iv x1.Label), .p (.sl none 2 (List.map row_Node x1.Kids))]]) p2 (by simp only [List.length_append, List.length_set, List.length_cons, List.length_nil]; omega) a0 x1.Kids (w64 (s1 - 1)) v1 e_v1; simp only [go_sem, hp2, fun k => Nat.lt_add_right k hp2, Nat.not_le_of_lt hp2, fun k => Nat.not_le_of_lt (Nat.lt_add_right k hp2)] at q ⊢; exact q
            by_cases c4 : v1.1 = true
            · have h := iteT h c4
              simp only [go_sem, hx1, hi1, hw1, c1, c2, c3, e_v1c, c4, hR1, hE1, hp2, fun k => Nat.lt_add_right k hp2, Nat.not_le_of_lt hp2, fun k => Nat.not_le_of_lt (Nat.lt_add_right k hp2)]
              exact ih1 _ h
            · have h := iteF h c4
              have c4 := eq_false_of_ne_true c4
              simp only [go_sem, hx1, hi1, hw1, c1, c2, c3, e_v1c, c4, hR1, hE1, hp2, fun k => Nat.lt_add_right k hp2, Nat.not_le_of_lt hp2, fun k => Nat.not_le_of_lt (Nat.lt_add_right k hp2)]
              injection h with h; subst h
              exact Sat.ok hQ

def hedge_ValidHedge (n : Nat) (a0 : Int) (a1 : List Node) : Option Bool :=
  (hedge_labels a0).bind fun v1 =>
  if v1 = true then
    (hedge_formed n a0 a1 300).bind fun v2 =>
    some v2.1
  else
    some false
theorem spec25 (n : Nat) (a0 : Int) (a1 : List Node) (r : Bool) (h : hedge_ValidHedge n a0 a1 = some r) :
    call Try.prog T H (.fn 25) [.p (iv a0), .p (.sl none 2 (List.map row_Node a1))] [] = some (.ret (.p (bv r)), []) := by
  refine Sat.fn fun Q hQ => ?_
  unfold hedge_ValidHedge at h
  rw [call25]
  conv => arg 1; arg 7; unfold c25 Try.f25; simp only [Option.getD_some]
  obtain ⟨v1, e_v1, h⟩ := ob h
  have e_v1c : call Try.prog T H (.fn 47) [.p (iv a0)] [] = some (.ret (.p (bv v1)), []) := spec47 a0 v1 e_v1
  by_cases c1 : v1 = true
  · have h := iteT h c1
    obtain ⟨v2, e_v2, h⟩ := ob h
    have e_v2c : call Try.prog T H (.fn 50) [.p (iv a0), .p (.sl none 2 (List.map row_Node a1)), .ptr 0 0] [.cells [.p (iv 300)]] = some (.ret (.p (bv v2.1)), [.cells [.p (iv v2.2)]]) := by have q := spec50 n [.cells [.p (iv 300)]] 0 (by simp only [List.length_append, List.length_set, List.length_cons, List.length_nil]; omega) a0 a1 300 v2 e_v2; simp only [go_sem] at q ⊢; exact q
    simp only [go_sem, e_v1c, c1, e_v2c]
    injection h with h; subst h
    exact Sat.ok hQ
  · have h := iteF h c1
    have c1 := eq_false_of_ne_true c1
    simp only [go_sem, e_v1c, c1]
    injection h with h; subst h
    exact Sat.ok hQ

def hedge_Valid (n : Nat) (a0 : Int) (a1 : Node) : Option Bool :=
  (hedge_ValidHedge n a0 [a1]).bind fun v1 =>
  some v1
theorem spec23 (n : Nat) (a0 : Int) (a1 : Node) (r : Bool) (h : hedge_Valid n a0 a1 = some r) :
    call Try.prog T H (.fn 23) [.p (iv a0), .p (.agg [iv a1.Label, .sl none 2 (List.map row_Node a1.Kids)])] [] = some (.ret (.p (bv r)), []) := by
  refine Sat.fn fun Q hQ => ?_
  unfold hedge_Valid at h
  rw [call23]
  conv => arg 1; arg 7; unfold c23 Try.f23; simp only [Option.getD_some]
  obtain ⟨v1, e_v1, h⟩ := ob h
  have e_v1c : call Try.prog T H (.fn 25) [.p (iv a0), .p (.sl none 2 [[iv a1.Label, .sl none 2 (List.map row_Node a1.Kids)]])] [] = some (.ret (.p (bv v1)), []) := by have q := spec25 n a0 [a1] v1 e_v1; simp only [List.map_cons, List.map_nil, row_Node_eq] at q ⊢; exact q
  simp only [go_sem, e_v1c]
  injection h with h; subst h
  exact Sat.ok hQ

def hedge_Size : Nat → (List Node) → Option Int
  | 0, _ => none
  | n + 1, a0 =>
    rangeL a0 (a0.length : Int) (fun k1 i1 x1 (s1 : Int) n1 =>
      (hedge_Size n x1.Kids).bind fun v1 =>
      n1 (w64 (s1 + v1))) fun s1 =>
    some s1
theorem spec28 : ∀ (n : Nat), (∀ (a0 : List Node) (r : Int), hedge_Size n a0 = some r →
    call Try.prog T H (.fn 28) [.p (.sl none 2 (List.map row_Node a0))] [] = some (.ret (.p (iv r)), [])) := by
  intro n
  induction n with
  | zero => intro a0 r h; cases h
  | succ n ih =>
    intro a0 r h
    refine Sat.fn fun Q hQ => ?_
    rw [hedge_Size] at h
    rw [call28]
    conv => arg 1; arg 7; unfold c28 Try.f28; simp only [Option.getD_some]
    simp only [go_sem]
    refine run_rangeL (c := L28_0) (live := [3, 8, 9, 10]) (by simp only [go_sem]) (M := fun i1 (s1 : Int) => [(3, .p (iv s1)), (8, .p (.sl none 2 (List.map row_Node a0))), (9, .p (iv (a0.length : Int))), (10, .p (iv (i1 : Int)))]) (Z := fun i1 (s1 : Int) => []) (N := fun (s1 : Int) => ⟨[(3, .p (iv s1))], [], [], none, false⟩) h rfl rfl (fun _ _ => rfl) ?_ ?_ ?_
    · intro s1 h
      try dsimp only at h ⊢
      simp only [go_sem]
      injection h with h; subst h
      exact Sat.ok hQ
    · intro K1 s1 hb1 he1
      try dsimp only
      conv => arg 1; arg 7; unfold L28_0 loopAt c28 Try.f28; simp only [loopIn, Option.getD_some, if_true]
      simp only [go_sem, he1]
      exact hb1
    · intro K1 k1 i1 x1 s1 n1 hR1 hE1 hb1 hx1 hi1 hw1 ih1 h
      try dsimp only at h ⊢
      conv => arg 1; arg 7; unfold L28_0 loopAt c28 Try.f28; simp only [loopIn, Option.getD_some, if_true]
      obtain ⟨v1, e_v1, h⟩ := ob h
      have e_v1c : call Try.prog T H (.fn 28) [.p (.sl none 2 (List.map row_Node x1.Kids))] [] = some (.ret (.p (iv v1)), []) := ih x1.Kids v1 e_v1
      simp only [go_sem, hx1, hi1, hw1, e_v1c, hR1, hE1]
      exact ih1 _ h

def ref01_Size : Nat → Tree → Option Int
  | 0, _ => none
  | n + 1, a0 =>
    rangeL a0.Kids 1 (fun k1 i1 x1 (s1 : Int) n1 =>
      (ref01_Size n x1).bind fun v1 =>
      n1 (w64 (s1 + v1))) fun s1 =>
    some s1
theorem spec36 : ∀ (n : Nat), (∀ (a0 : Tree) (r : Int), ref01_Size n a0 = some r →
    call Try.prog T H (.fn 36) [.p (.agg [iv a0.Sym, .sl none 2 (List.map row_Tree a0.Kids)])] [] = some (.ret (.p (iv r)), [])) := by
  intro n
  induction n with
  | zero => intro a0 r h; cases h
  | succ n ih =>
    intro a0 r h
    refine Sat.fn fun Q hQ => ?_
    rw [ref01_Size] at h
    rw [call36]
    conv => arg 1; arg 7; unfold c36 Try.f36; simp only [Option.getD_some]
    simp only [go_sem]
    refine run_rangeL (c := L36_0) (live := [3, 7, 8, 9]) (by simp only [go_sem]) (M := fun i1 (s1 : Int) => [(3, .p (iv s1)), (7, .p (.sl none 2 (List.map row_Tree a0.Kids))), (8, .p (iv (a0.Kids.length : Int))), (9, .p (iv (i1 : Int)))]) (Z := fun i1 (s1 : Int) => [.cells [.p (iv a0.Sym), .p (.sl none 2 (List.map row_Tree a0.Kids))]]) (N := fun (s1 : Int) => ⟨[(3, .p (iv s1))], [.cells [.p (iv a0.Sym), .p (.sl none 2 (List.map row_Tree a0.Kids))]], [], none, false⟩) h rfl rfl (fun _ _ => rfl) ?_ ?_ ?_
    · intro s1 h
      try dsimp only at h ⊢
      simp only [go_sem]
      injection h with h; subst h
      exact Sat.ok hQ
    · intro K1 s1 hb1 he1
      try dsimp only
      conv => arg 1; arg 7; unfold L36_0 loopAt c36 Try.f36; simp only [loopIn, Option.getD_some, if_true]
      simp only [go_sem, he1]
      exact hb1
    · intro K1 k1 i1 x1 s1 n1 hR1 hE1 hb1 hx1 hi1 hw1 ih1 h
      try dsimp only at h ⊢
      conv => arg 1; arg 7; unfold L36_0 loopAt c36 Try.f36; simp only [loopIn, Option.getD_some, if_true]
      obtain ⟨v1, e_v1, h⟩ := ob h
      have e_v1c : call Try.prog T H (.fn 36) [.p (.agg [iv x1.Sym, .sl none 2 (List.map row_Tree x1.Kids)])] [] = some (.ret (.p (iv v1)), []) := ih x1 v1 e_v1
      simp only [go_sem, hx1, hi1, hw1, e_v1c, hR1, hE1]
      exact ih1 _ h

def ref02_labelled : Nat → Int → (List Node) → Option Bool
  | 0, _, _ => none
  | n + 1, a0, a1 =>
    rangeL a1 () (fun k1 i1 x1 (s1 : Unit) n1 =>
      if x1.Label < 0 then
        some false
      else
        if a0 ≤ x1.Label then
          some false
        else
          (ref02_labelled n a0 x1.Kids).bind fun v1 =>
          if v1 = true then
            n1 ()
          else
            some false) fun s1 =>
    some true
theorem spec51 : ∀ (n : Nat), (∀ (a0 : Int) (a1 : List Node) (r : Bool), ref02_labelled n a0 a1 = some r →
    call Try.prog T H (.fn 51) [.p (iv a0), .p (.sl none 2 (List.map row_Node a1))] [] = some (.ret (.p (bv r)), [])) := by
  intro n
  induction n with
  | zero => intro a0 a1 r h; cases h
  | succ n ih =>
    intro a0 a1 r h
    refine Sat.fn fun Q hQ => ?_
    rw [ref02_labelled] at h
    rw [call51]
    conv => arg 1; arg 7; unfold c51 Try.f51; simp only [Option.getD_some]
    simp only [go_sem]
    refine run_rangeL (c := L51_0) (live := [0, 7, 8, 9]) (by simp only [go_sem]) (M := fun i1 (s1 : Unit) => [(0, .p (iv a0)), (7, .p (.sl none 2 (List.map row_Node a1))), (8, .p (iv (a1.length : Int))), (9, .p (iv (i1 : Int)))]) (Z := fun i1 (s1 : Unit) => []) (N := fun (s1 : Unit) => ⟨[], [], [], none, false⟩) h rfl rfl (fun _ _ => rfl) ?_ ?_ ?_
    · intro s1 h
      try dsimp only at h ⊢
      simp only [go_sem]
      injection h with h; subst h
      exact Sat.ok hQ
    · intro K1 s1 hb1 he1
      try dsimp only
      conv => arg 1; arg 7; unfold L51_0 loopAt c51 Try.f51; simp only [loopIn, Option.getD_some, if_true]
      simp only [go_sem, he1]
      exact hb1
    · intro K1 k1 i1 x1 s1 n1 hR1 hE1 hb1 hx1 hi1 hw1 ih1 h
      try dsimp only at h ⊢
      conv => arg 1; arg 7; unfold L51_0 loopAt c51 Try.f51; simp only [loopIn, Option.getD_some, if_true]
      by_cases c1 : x1.Label < 0
      · have h := iteT h c1
        simp only [go_sem, hx1, hi1, hw1, c1, hR1, hE1]
        injection h with h; subst h
        exact Sat.ok hQ
      · have h := iteF h c1
        by_cases c2 : a0 ≤ x1.Label
        · have h := iteT h c2
          simp only [go_sem, hx1, hi1, hw1, c1, c2, hR1, hE1]
          injection h with h; subst h
          exact Sat.ok hQ
        · have h := iteF h c2
          obtain ⟨v1, e_v1, h⟩ := ob h
          have e_v1c : call Try.prog T H (.fn 51) [.p (iv a0), .p (.sl none 2 (List.map row_Node x1.Kids))] [] = some (.ret (.p (bv v1)), []) := ih a0 x1.Kids v1 e_v1
          by_cases c3 : v1 = true
          · have h := iteT h c3
            simp only [go_sem, hx1, hi1, hw1, c1, c2, e_v1c, c3, hR1, hE1]
            exact ih1 _ h
          · have h := iteF h c3
            have c3 := eq_false_of_ne_true c3
            simp only [go_sem, hx1, hi1, hw1, c1, c2, e_v1c, c3, hR1, hE1]
            injection h with h; subst h
            exact Sat.ok hQ

def ref02_ValidHedge (n : Nat) (a0 : Int) (a1 : List Node) : Option Bool :=
  if 1 ≤ a0 then
    if a0 ≤ 8 then
      (ref02_Few n a1 300).bind fun v1 =>
      if v1 = true then
        (ref02_labelled n a0 a1).bind fun v2 =>
        some v2
      else
        some false
    else
      some false
  else
    some false
theorem spec26 (n : Nat) (a0 : Int) (a1 : List Node) (r : Bool) (h : ref02_ValidHedge n a0 a1 = some r) :
    call Try.prog T H (.fn 26) [.p (iv a0), .p (.sl none 2 (List.map row_Node a1))] [] = some (.ret (.p (bv r)), []) := by
  refine Sat.fn fun Q hQ => ?_
  unfold ref02_ValidHedge at h
  rw [call26]
  conv => arg 1; arg 7; unfold c26 Try.f26; simp only [Option.getD_some]
  by_cases c1 : 1 ≤ a0
  · have h := iteT h c1
    by_cases c2 : a0 ≤ 8
    · have h := iteT h c2
      obtain ⟨v1, e_v1, h⟩ := ob h
      have e_v1c : call Try.prog T H (.fn 8) [.p (.sl none 2 (List.map row_Node a1)), .p (iv 300)] [] = some (.ret (.p (bv v1)), []) := spec8 n a1 300 v1 e_v1
      by_cases c3 : v1 = true
      · have h := iteT h c3
        obtain ⟨v2, e_v2, h⟩ := ob h
        have e_v2c : call Try.prog T H (.fn 51) [.p (iv a0), .p (.sl none 2 (List.map row_Node a1))] [] = some (.ret (.p (bv v2)), []) := spec51 n a0 a1 v2 e_v2
        simp only [go_sem, c1, c2, e_v1c, c3, e_v2c]
        injection h with h; subst h
        exact Sat.ok hQ
      · have h := iteF h c3
        have c3 := eq_false_of_ne_true c3
        simp only [go_sem, c1, c2, e_v1c, c3]
        injection h with h; subst h
        exact Sat.ok hQ
    · have h := iteF h c2
      simp only [go_sem, c1, c2]
      injection h with h; subst h
      exact Sat.ok hQ
  · have h := iteF h c1
    simp only [go_sem, c1]
    injection h with h; subst h
    exact Sat.ok hQ

def ref02_Valid (n : Nat) (a0 : Int) (a1 : Node) : Option Bool :=
  (ref02_ValidHedge n a0 [a1]).bind fun v1 =>
  some v1
theorem spec24 (n : Nat) (a0 : Int) (a1 : Node) (r : Bool) (h : ref02_Valid n a0 a1 = some r) :
    call Try.prog T H (.fn 24) [.p (iv a0), .p (.agg [iv a1.Label, .sl none 2 (List.map row_Node a1.Kids)])] [] = some (.ret (.p (bv r)), []) := by
  refine Sat.fn fun Q hQ => ?_
  unfold ref02_Valid at h
  rw [call24]
  conv => arg 1; arg 7; unfold c24 Try.f24; simp only [Option.getD_some]
  obtain ⟨v1, e_v1, h⟩ := ob h
  have e_v1c : call Try.prog T H (.fn 26) [.p (iv a0), .p (.sl none 2 [[iv a1.Label, .sl none 2 (List.map row_Node a1.Kids)]])] [] = some (.ret (.p (bv v1)), []) := by have q := spec26 n a0 [a1] v1 e_v1; simp only [List.map_cons, List.map_nil, row_Node_eq] at q ⊢; exact q
  simp only [go_sem, e_v1c]
  injection h with h; subst h
  exact Sat.ok hQ

def law02_same (a0 : List hedge_Info) (a1 : List ref02_Info) : Option Bool :=
  if (a0.length : Int) = (a1.length : Int) then
    rangeL a0 () (fun k1 i1 x1 (s1 : Unit) n1 =>
      (a1[i1]?).bind fun v1 =>
      if x1.Label = v1.Label then
        if x1.Parent = v1.Parent then
          if x1.Index = v1.Index then
            if x1.Last = v1.Last then
              n1 ()
            else
              some false
          else
            some false
        else
          some false
      else
        some false) fun s1 =>
    some true
  else
    some false
theorem spec12 (a0 : List hedge_Info) (a1 : List ref02_Info) (r : Bool) (h : law02_same a0 a1 = some r) :
    call Try.prog T H (.fn 12) [.p (.sl none 4 (List.map row_hedge_Info a0)), .p (.sl none 4 (List.map row_ref02_Info a1))] [] = some (.ret (.p (bv r)), []) := by
  refine Sat.fn fun Q hQ => ?_
  unfold law02_same at h
  rw [call12]
  conv => arg 1; arg 7; unfold c12 Try.f12; simp only [Option.getD_some]
  by_cases c1 : (a0.length : Int) = (a1.length : Int)
  · have h := iteT h c1
    have c1b : ((a0.length : Int) != (a1.length : Int)) = false := bneF c1
    simp only [go_sem, c1b]
    refine run_rangeL (c := L12_0) (live := [0, 1, 12, 13]) (by simp only [go_sem]) (M := fun i1 (s1 : Unit) => [(0, .p (.sl none 4 (List.map row_hedge_Info a0))), (1, .p (.sl none 4 (List.map row_ref02_Info a1))), (12, .p (iv (a0.length : Int))), (13, .p (iv (i1 : Int)))]) (Z := fun i1 (s1 : Unit) => []) (N := fun (s1 : Unit) => ⟨[], [], [], none, false⟩) h rfl rfl (fun _ _ => rfl) ?_ ?_ ?_
    · intro s1 h
      try dsimp only at h ⊢
      simp only [go_sem]
      injection h with h; subst h
      exact Sat.ok hQ
    · intro K1 s1 hb1 he1
      try dsimp only
      conv => arg 1; arg 7; unfold L12_0 loopAt c12 Try.f12; simp only [loopIn, Option.getD_some, if_true]
      simp only [go_sem, he1]
      exact hb1
    · intro K1 k1 i1 x1 s1 n1 hR1 hE1 hb1 hx1 hi1 hw1 ih1 h
      try dsimp only at h ⊢
      conv => arg 1; arg 7; unfold L12_0 loopAt c12 Try.f12; simp only [loopIn, Option.getD_some, if_true]
      obtain ⟨v1, e_v1, h⟩ := ob h
      by_cases c2 : x1.Label = v1.Label
      · have h := iteT h c2
        have c2b : (x1.Label == v1.Label) = true := beqT c2
        by_cases c3 : x1.Parent = v1.Parent
        · have h := iteT h c3
          have c3b : (x1.Parent == v1.Parent) = true := beqT c3
          by_cases c4 : x1.Index = v1.Index
          · have h := iteT h c4
            have c4b : (x1.Index == v1.Index) = true := beqT c4
            by_cases c5 : x1.Last = v1.Last
            · have h := iteT h c5
              have c5b : (x1.Last == v1.Last) = true := beqT c5
              simp only [go_sem, hx1, hi1, hw1, e_v1, c2b, c3b, c4b, c5b, hR1, hE1]
              exact ih1 _ h
            · have h := iteF h c5
              have c5b : (x1.Last == v1.Last) = false := beqF c5
              simp only [go_sem, hx1, hi1, hw1, e_v1, c2b, c3b, c4b, c5b, hR1, hE1]
              injection h with h; subst h
              exact Sat.ok hQ
          · have h := iteF h c4
            have c4b : (x1.Index == v1.Index) = false := beqF c4
            simp only [go_sem, hx1, hi1, hw1, e_v1, c2b, c3b, c4b, hR1, hE1]
            injection h with h; subst h
            exact Sat.ok hQ
        · have h := iteF h c3
          have c3b : (x1.Parent == v1.Parent) = false := beqF c3
          simp only [go_sem, hx1, hi1, hw1, e_v1, c2b, c3b, hR1, hE1]
          injection h with h; subst h
          exact Sat.ok hQ
      · have h := iteF h c2
        have c2b : (x1.Label == v1.Label) = false := beqF c2
        simp only [go_sem, hx1, hi1, hw1, e_v1, c2b, hR1, hE1]
        injection h with h; subst h
        exact Sat.ok hQ
  · have h := iteF h c1
    have c1b : ((a0.length : Int) != (a1.length : Int)) = true := bneT c1
    simp only [go_sem, c1b]
    injection h with h; subst h
    exact Sat.ok hQ

def ref01_count : Nat → Tree → Int → Option Int
  | 0, _, _ => none
  | n + 1, a0, a1 =>
    rangeL a0.Kids 1 (fun k1 i1 x1 (s1 : Int) n1 =>
      if s1 ≤ a1 then
        (ref01_count n x1 (w64 (a1 - s1))).bind fun v1 =>
        n1 (w64 (s1 + v1))
      else
        n1 s1) fun s1 =>
    some s1
theorem spec39 : ∀ (n : Nat), (∀ (a0 : Tree) (a1 : Int) (r : Int), ref01_count n a0 a1 = some r →
    call Try.prog T H (.fn 39) [.p (.agg [iv a0.Sym, .sl none 2 (List.map row_Tree a0.Kids)]), .p (iv a1)] [] = some (.ret (.p (iv r)), [])) := by
  intro n
  induction n with
  | zero => intro a0 a1 r h; cases h
  | succ n ih =>
    intro a0 a1 r h
    refine Sat.fn fun Q hQ => ?_
    rw [ref01_count] at h
    rw [call39]
    conv => arg 1; arg 7; unfold c39 Try.f39; simp only [Option.getD_some]
    simp only [go_sem]
    refine run_rangeL (c := L39_0) (live := [1, 5, 9, 10, 11]) (by simp only [go_sem]) (M := fun i1 (s1 : Int) => [(1, .p (iv a1)), (5, .p (iv s1)), (9, .p (.sl none 2 (List.map row_Tree a0.Kids))), (10, .p (iv (a0.Kids.length : Int))), (11, .p (iv (i1 : Int)))]) (Z := fun i1 (s1 : Int) => [.cells [.p (iv a0.Sym), .p (.sl none 2 (List.map row_Tree a0.Kids))]]) (N := fun (s1 : Int) => ⟨[(5, .p (iv s1))], [.cells [.p (iv a0.Sym), .p (.sl none 2 (List.map row_Tree a0.Kids))]], [], none, false⟩) h rfl rfl (fun _ _ => rfl) ?_ ?_ ?_
    · intro s1 h
      try dsimp only at h ⊢
      simp only [go_sem]
      injection h with h; subst h
      exact Sat.ok hQ
    · intro K1 s1 hb1 he1
      try dsimp only
      conv => arg 1; arg 7; unfold L39_0 loopAt c39 Try.f39; simp only [loopIn, Option.getD_some, if_true]
      simp only [go_sem, he1]
      exact hb1
    · intro K1 k1 i1 x1 s1 n1 hR1 hE1 hb1 hx1 hi1 hw1 ih1 h
      try dsimp only at h ⊢
      conv => arg 1; arg 7; unfold L39_0 loopAt c39 Try.f39; simp only [loopIn, Option.getD_some, if_true]
      by_cases c1 : s1 ≤ a1
      · have h := iteT h c1
        obtain ⟨v1, e_v1, h⟩ := ob h
        have e_v1c : call Try.prog T H (.fn 39) [.p (.agg [iv x1.Sym, .sl none 2 (List.map row_Tree x1.Kids)]), .p (iv (w64 (a1 - s1)))] [] = some (.ret (.p (iv v1)), []) := ih x1 (w64 (a1 - s1)) v1 e_v1
        simp only [go_sem, hx1, hi1, hw1, c1, e_v1c, hR1, hE1]
        exact ih1 _ h
      · have h := iteF h c1
        simp only [go_sem, hx1, hi1, hw1, c1, hR1, hE1]
        exact ih1 _ h

def ref01_Few (n : Nat) (a0 : Tree) (a1 : Int) : Option Bool :=
  (ref01_count n a0 a1).bind fun v1 =>
  some (decide (v1 ≤ a1))
theorem spec13 (n : Nat) (a0 : Tree) (a1 : Int) (r : Bool) (h : ref01_Few n a0 a1 = some r) :
    call Try.prog T H (.fn 13) [.p (.agg [iv a0.Sym, .sl none 2 (List.map row_Tree a0.Kids)]), .p (iv a1)] [] = some (.ret (.p (bv r)), []) := by
  refine Sat.fn fun Q hQ => ?_
  unfold ref01_Few at h
  rw [call13]
  conv => arg 1; arg 7; unfold c13 Try.f13; simp only [Option.getD_some]
  obtain ⟨v1, e_v1, h⟩ := ob h
  have e_v1c : call Try.prog T H (.fn 39) [.p (.agg [iv a0.Sym, .sl none 2 (List.map row_Tree a0.Kids)]), .p (iv a1)] [] = some (.ret (.p (iv v1)), []) := spec39 n a0 a1 v1 e_v1
  simp only [go_sem, e_v1c]
  injection h with h; subst h
  exact Sat.ok hQ

def ref02_Size : Nat → (List Node) → Option Int
  | 0, _ => none
  | n + 1, a0 =>
    rangeL a0 0 (fun k1 i1 x1 (s1 : Int) n1 =>
      (ref02_Size n x1.Kids).bind fun v1 =>
      n1 (w64 (s1 + (w64 (1 + v1))))) fun s1 =>
    some s1
theorem spec29 : ∀ (n : Nat), (∀ (a0 : List Node) (r : Int), ref02_Size n a0 = some r →
    call Try.prog T H (.fn 29) [.p (.sl none 2 (List.map row_Node a0))] [] = some (.ret (.p (iv r)), [])) := by
  intro n
  induction n with
  | zero => intro a0 r h; cases h
  | succ n ih =>
    intro a0 r h
    refine Sat.fn fun Q hQ => ?_
    rw [ref02_Size] at h
    rw [call29]
    conv => arg 1; arg 7; unfold c29 Try.f29; simp only [Option.getD_some]
    simp only [go_sem]
    refine run_rangeL (c := L29_0) (live := [3, 6, 7, 8]) (by simp only [go_sem]) (M := fun i1 (s1 : Int) => [(3, .p (iv s1)), (6, .p (.sl none 2 (List.map row_Node a0))), (7, .p (iv (a0.length : Int))), (8, .p (iv (i1 : Int)))]) (Z := fun i1 (s1 : Int) => []) (N := fun (s1 : Int) => ⟨[(3, .p (iv s1))], [], [], none, false⟩) h rfl rfl (fun _ _ => rfl) ?_ ?_ ?_
    · intro s1 h
      try dsimp only at h ⊢
      simp only [go_sem]
      injection h with h; subst h
      exact Sat.ok hQ
    · intro K1 s1 hb1 he1
      try dsimp only
      conv => arg 1; arg 7; unfold L29_0 loopAt c29 Try.f29; simp only [loopIn, Option.getD_some, if_true]
      simp only [go_sem, he1]
      exact hb1
    · intro K1 k1 i1 x1 s1 n1 hR1 hE1 hb1 hx1 hi1 hw1 ih1 h
      try dsimp only at h ⊢
      conv => arg 1; arg 7; unfold L29_0 loopAt c29 Try.f29; simp only [loopIn, Option.getD_some, if_true]
      obtain ⟨v1, e_v1, h⟩ := ob h
      have e_v1c : call Try.prog T H (.fn 29) [.p (.sl none 2 (List.map row_Node x1.Kids))] [] = some (.ret (.p (iv v1)), []) := ih x1.Kids v1 e_v1
      simp only [go_sem, hx1, hi1, hw1, e_v1c, hR1, hE1]
      exact ih1 _ h

def ref02_Code : Nat → Int → (List Node) → Option Tree
  | 0, _, _ => none
  | n + 1, a0, a1 =>
    if (a1.length : Int) = 0 then
      some (Tree.mk a0 ([] : List Tree))
    else
      (a1[0]?).bind fun v1 =>
      (ref02_Code n a0 v1.Kids).bind fun v2 =>
      (slcF a1 1).bind fun v3 =>
      (ref02_Code n a0 v3).bind fun v4 =>
      some (Tree.mk v1.Label [v2, v4])
theorem spec41 : ∀ (n : Nat), (∀ (a0 : Int) (a1 : List Node) (r : Tree), ref02_Code n a0 a1 = some r →
    call Try.prog T H (.fn 41) [.p (iv a0), .p (.sl none 2 (List.map row_Node a1))] [] = some (.ret (.p (.agg [iv r.Sym, .sl none 2 (List.map row_Tree r.Kids)])), [])) := by
  intro n
  induction n with
  | zero => intro a0 a1 r h; cases h
  | succ n ih =>
    intro a0 a1 r h
    refine Sat.fn fun Q hQ => ?_
    rw [ref02_Code] at h
    rw [call41]
    conv => arg 1; arg 7; unfold c41 Try.f41; simp only [Option.getD_some]
    by_cases c1 : (a1.length : Int) = 0
    · have h := iteT h c1
      have c1b : ((a1.length : Int) == 0) = true := beqT c1
      simp only [go_sem, c1b]
      injection h with h; subst h
      exact Sat.ok hQ
    · have h := iteF h c1
      have c1b : ((a1.length : Int) == 0) = false := beqF c1
      obtain ⟨v1, e_v1, h⟩ := ob h
      obtain ⟨v2, e_v2, h⟩ := ob h
      have e_v2c : call Try.prog T H (.fn 41) [.p (iv a0), .p (.sl none 2 (List.map row_Node v1.Kids))] [] = some (.ret (.p (.agg [iv v2.Sym, .sl none 2 (List.map row_Tree v2.Kids)])), []) := ih a0 v1.Kids v2 e_v2
      obtain ⟨v3, e_v3, h⟩ := ob h
      obtain ⟨e_v31, e_v32, e_v33, e_v34⟩ := slcF_some e_v3
      simp only [Int.reduceToNat] at e_v32
      simp only [Int.reduceToNat] at e_v34
      obtain ⟨v4, e_v4, h⟩ := ob h
      have e_v4c : call Try.prog T H (.fn 41) [.p (iv a0), .p (.sl none 2 (List.map row_Node v3))] [] = some (.ret (.p (.agg [iv v4.Sym, .sl none 2 (List.map row_Tree v4.Kids)])), []) := ih a0 v3 v4 e_v4
      simp only [go_sem, c1b, e_v1, e_v2c, e_v32, ← e_v34, e_v4c]
      injection h with h; subst h
      simp only [List.map_cons, List.map_nil, row_Tree_eq] at hQ
      exact Sat.ok hQ

def ref02_Encode (n : Nat) (a0 : Int) (a1 : List Node) : Option (Tree × Int) :=
  (ref02_ValidHedge n a0 a1).bind fun v1 =>
  if v1 = true then
    (ref02_Size n a1).bind fun v2 =>
    if 300 < (w64 ((w64 (2 * v2)) + 1)) then
      some ((Tree.mk 0 ([] : List Tree)), 3)
    else
      (ref02_Code n a0 a1).bind fun v3 =>
      some (v3, 0)
  else
    some ((Tree.mk 0 ([] : List Tree)), 1)
theorem spec15 (n : Nat) (a0 : Int) (a1 : List Node) (r : Tree × Int) (h : ref02_Encode n a0 a1 = some r) :
    call Try.prog T H (.fn 15) [.p (iv a0), .p (.sl none 2 (List.map row_Node a1))] [] = some (.ret (.p (.tup [.agg [iv r.1.Sym, .sl none 2 (List.map row_Tree r.1.Kids)], iv r.2])), []) := by
  refine Sat.fn fun Q hQ => ?_
  unfold ref02_Encode at h
  rw [call15]
  conv => arg 1; arg 7; unfold c15 Try.f15; simp only [Option.getD_some]
  obtain ⟨v1, e_v1, h⟩ := ob h
  have e_v1c : call Try.prog T H (.fn 26) [.p (iv a0), .p (.sl none 2 (List.map row_Node a1))] [] = some (.ret (.p (bv v1)), []) := spec26 n a0 a1 v1 e_v1
  by_cases c1 : v1 = true
  · have h := iteT h c1
    obtain ⟨v2, e_v2, h⟩ := ob h
    have e_v2c : call Try.prog T H (.fn 29) [.p (.sl none 2 (List.map row_Node a1))] [] = some (.ret (.p (iv v2)), []) := spec29 n a1 v2 e_v2
    by_cases c2 : 300 < (w64 ((w64 (2 * v2)) + 1))
    · have h := iteT h c2
      simp only [go_sem, e_v1c, c1, e_v2c, c2]
      injection h with h; subst h
      exact Sat.ok hQ
    · have h := iteF h c2
      obtain ⟨v3, e_v3, h⟩ := ob h
      have e_v3c : call Try.prog T H (.fn 41) [.p (iv a0), .p (.sl none 2 (List.map row_Node a1))] [] = some (.ret (.p (.agg [iv v3.Sym, .sl none 2 (List.map row_Tree v3.Kids)])), []) := spec41 n a0 a1 v3 e_v3
      simp only [go_sem, e_v1c, c1, e_v2c, c2, e_v3c]
      injection h with h; subst h
      exact Sat.ok hQ
  · have h := iteF h c1
    have c1 := eq_false_of_ne_true c1
    simp only [go_sem, e_v1c, c1]
    injection h with h; subst h
    exact Sat.ok hQ

def hedge_Binary (a0 : Int) : Option (Alphabet × Int) :=
  (hedge_labels a0).bind fun v1 =>
  if v1 = true then
    (mkz 8 (w64 (a0 + 1)) (w64 (a0 + 1)) 0).bind fun v2 =>
    rangeI a0 v2 (fun k1 i1 (s1 : (List Int)) n1 =>
      (idxM ((w64 (a0 + 1)).toNat) s1 (i1 : Int)).bind fun v4 =>
      n1 (List.set s1 i1 2)) fun s1 =>
    (tkM ((w64 (a0 + 1)).toNat) s1).bind fun v3 =>
    some ((Alphabet.mk v3), 0)
  else
    some ((Alphabet.mk ([] : List Int)), 6)
theorem spec20 (a0 : Int) (r : Alphabet × Int) (h : hedge_Binary a0 = some r) :
    call Try.prog T H (.fn 20) [.p (iv a0)] [] = some (.ret (.p (.tup [.agg [.sl none 1 (List.map rowI r.1.Ranks)], iv r.2])), []) := by
  refine Sat.fn fun Q hQ => ?_
  unfold hedge_Binary at h
  rw [call20]
  conv => arg 1; arg 7; unfold c20 Try.f20; simp only [Option.getD_some]
  obtain ⟨v1, e_v1, h⟩ := ob h
  have e_v1c : call Try.prog T H (.fn 47) [.p (iv a0)] [] = some (.ret (.p (bv v1)), []) := spec47 a0 v1 e_v1
  by_cases c1 : v1 = true
  · have h := iteT h c1
    obtain ⟨v2, e_v2, h⟩ := ob h
    obtain ⟨e_v21, e_v22, e_v23, e_v24⟩ := mkz_some e_v2
    have e_v2b : boundOk (w64 (a0 + 1)).toNat 8 = true := bnd_of e_v23 (by decide)
    have e_v2r : List.replicate (w64 (a0 + 1)).toNat [AV.p (iv 0)] = List.map (rowA rowI) v2 := by rw [e_v24]; exact rep_map (by first | rfl | simp only [go_sem, List.map_nil])
    simp only [go_sem, e_v1c, c1, e_v21, e_v22, e_v2b, e_v2r]
    refine run_rangeI (c := L20_0) (live := [2, 4, 14, 15]) (by simp only [go_sem]) (M := fun i1 (s1 : (List Int)) => [(2, .ptr 0 0), (4, .ptr 2 0), (14, .p (iv a0)), (15, .p (iv (i1 : Int)))]) (Z := fun i1 (s1 : (List Int)) => [.cells [.own 1 []], .arr 0 1 (List.map (rowA rowI) s1), .cells [.ms 1 0 1 0 ((w64 (a0 + 1)).toNat)]]) (N := fun (s1 : (List Int)) => ⟨[(2, .ptr 0 0), (4, .ptr 2 0)], [.cells [.own 1 []], .arr 0 1 (List.map (rowA rowI) s1), .cells [.ms 1 0 1 0 ((w64 (a0 + 1)).toNat)]], [], none, false⟩) h rfl rfl (fun _ _ => rfl) ?_ ?_ ?_
    · intro s1 h
      try dsimp only at h ⊢
      obtain ⟨v3, e_v3, h⟩ := ob h
      have e_v3a := (tkM_some e_v3).1
      have e_v3b := (tkM_some e_v3).2
      simp only [go_sem, e_v3a, e_v3b]
      injection h with h; subst h
      exact Sat.ok hQ
    · intro K1 i1 s1 hb1 he1
      try dsimp only
      conv => arg 1; arg 7; unfold L20_0 loopAt c20 Try.f20; simp only [loopIn, Option.getD_some, if_true]
      simp only [go_sem, he1]
      exact hb1
    · intro K1 k1 i1 s1 n1 hR1 hE1 hb1 hi1 hw1 ih1 h
      try dsimp only at h ⊢
      conv => arg 1; arg 7; unfold L20_0 loopAt c20 Try.f20; simp only [loopIn, Option.getD_some, if_true]
      obtain ⟨v4, e_v4, h⟩ := ob h
      obtain ⟨e_v4a, e_v4b, e_v4d⟩ := idxM_some e_v4
      simp only [Int.toNat_natCast] at e_v4b
      simp only [Int.toNat_natCast] at e_v4d
      have e_y1 : List.set (List.map (rowA rowI) s1) i1 [.p (iv 2)] = List.map (rowA rowI) (List.set s1 i1 2) := map_set' (by first | rfl | simp only [go_sem, List.map_cons, List.map_nil])
      simp only [go_sem, hi1, hw1, e_v4b, e_v4d, e_y1, hR1, hE1]
      exact ih1 _ h
  · have h := iteF h c1
    have c1 := eq_false_of_ne_true c1
    simp only [go_sem, e_v1c, c1]
    injection h with h; subst h
    exact Sat.ok hQ

def tree_ValidAlphabet_1 (a0 : Int) : Option Bool :=
  if a0 < 0 then
    some true
  else
    some (decide (3 < a0))
theorem spec81 (a0 : Int) (r : Bool) (h : tree_ValidAlphabet_1 a0 = some r) :
    call Try.prog T H (.fn 81) [.p (iv a0)] [] = some (.ret (.p (bv r)), []) := by
  refine Sat.fn fun Q hQ => ?_
  unfold tree_ValidAlphabet_1 at h
  rw [call81]
  conv => arg 1; arg 7; unfold c81 Try.f81; simp only [Option.getD_some]
  by_cases c1 : a0 < 0
  · have h := iteT h c1
    simp only [go_sem, c1]
    injection h with h; subst h
    exact Sat.ok hQ
  · have h := iteF h c1
    simp only [go_sem, c1]
    injection h with h; subst h
    exact Sat.ok hQ

def tree_ValidAlphabet (a0 : Alphabet) : Option Bool :=
  if (a0.Ranks.length : Int) ≤ 12 then
    jn (fun (u1 : Int) =>
      some (!(decide (0 ≤ u1)))) fun j1 =>
    rangeL a0.Ranks () (fun k1 i1 x1 (s1 : Unit) n1 =>
      (tree_ValidAlphabet_1 x1).bind fun v1 =>
      if v1 = true then
        j1 (i1 : Int)
      else
        n1 ()) fun s1 =>
    j1 (-1)
  else
    some false
theorem spec63 (a0 : Alphabet) (r : Bool) (h : tree_ValidAlphabet a0 = some r) :
    call Try.prog T H (.fn 63) [.p (.agg [.sl none 1 (List.map rowI a0.Ranks)])] [] = some (.ret (.p (bv r)), []) := by
  refine Sat.fn fun Q hQ => ?_
  unfold tree_ValidAlphabet at h
  rw [call63]
  conv => arg 1; arg 7; unfold c63 Try.f63; simp only [Option.getD_some]
  by_cases c1 : (a0.Ranks.length : Int) ≤ 12
  · have h := iteT h c1
    simp only [go_sem, c1]
    refine Sat.callc ?_
    rw [call80]
    conv => arg 1; arg 7; unfold c80 Try.f80; simp only [Option.getD_some]
    simp only [go_sem]
    refine Sat.callj (V := fun (u1 : Int) => .p (iv u1)) (Z := fun (u1 : Int) => [.cells [.p (.sl none 1 (List.map rowI a0.Ranks))]]) h ?_ ?_
    · intro u1 h
      try dsimp only at h ⊢
      simp only [go_sem]
      refine Sat.ok ?_
      dsimp only
      simp only [go_sem]
      injection h with h; subst h
      exact Sat.ok hQ
    · intro j1 h
      rw [call94]
      conv => arg 1; arg 7; unfold c94 Try.f94; simp only [Option.getD_some]
      simp only [go_sem]
      refine run_rangeL (c := L94_0) (live := [0, 1, 7, 8]) (by simp only [go_sem]) (M := fun i1 (s1 : Unit) => [(0, .p (.sl none 1 (List.map rowI a0.Ranks))), (1, .p (.fn 81)), (7, .p (iv (a0.Ranks.length : Int))), (8, .p (iv (i1 : Int)))]) (Z := fun i1 (s1 : Unit) => [.cells [.p (.sl none 1 (List.map rowI a0.Ranks))]]) (N := fun (s1 : Unit) => ⟨[], [.cells [.p (.sl none 1 (List.map rowI a0.Ranks))]], [], none, false⟩) h rfl rfl (fun _ _ => rfl) ?_ ?_ ?_
      · intro s1 h
        try dsimp only at h ⊢
        simp only [go_sem]
        exact Sat.ok ⟨(-1), rfl, h⟩
      · intro K1 s1 hb1 he1
        try dsimp only
        conv => arg 1; arg 7; unfold L94_0 loopAt c94 Try.f94; simp only [loopIn, Option.getD_some, if_true]
        simp only [go_sem, he1]
        exact hb1
      · intro K1 k1 i1 x1 s1 n1 hR1 hE1 hb1 hx1 hi1 hw1 ih1 h
        try dsimp only at h ⊢
        conv => arg 1; arg 7; unfold L94_0 loopAt c94 Try.f94; simp only [loopIn, Option.getD_some, if_true]
        obtain ⟨v1, e_v1, h⟩ := ob h
        have e_v1c : call Try.prog T H (.fn 81) [.p (iv x1)] [] = some (.ret (.p (bv v1)), []) := spec81 x1 v1 e_v1
        by_cases c2 : v1 = true
        · have h := iteT h c2
          simp only [go_sem, hx1, hi1, hw1, e_v1c, c2, hR1, hE1]
          exact Sat.ok ⟨(i1 : Int), rfl, h⟩
        · have h := iteF h c2
          have c2 := eq_false_of_ne_true c2
          simp only [go_sem, hx1, hi1, hw1, e_v1c, c2, hR1, hE1]
          exact ih1 _ h
  · have h := iteF h c1
    simp only [go_sem, c1]
    injection h with h; subst h
    exact Sat.ok hQ

def tree_formed : Nat → Alphabet → Tree → Int → Option (Bool × Int)
  | 0, _, _, _ => none
  | n + 1, a0, a1, a2 =>
    if (w64 (a2 - 1)) < 0 then
      some (false, w64 (a2 - 1))
    else
      if a1.Sym < 0 then
        some (false, w64 (a2 - 1))
      else
        if (a0.Ranks.length : Int) ≤ a1.Sym then
          some (false, w64 (a2 - 1))
        else
          (idx a0.Ranks a1.Sym).bind fun v1 =>
          if (a1.Kids.length : Int) = v1 then
            rangeL a1.Kids (w64 (a2 - 1)) (fun k1 i1 x1 (s1 : Int) n1 =>
              (tree_formed n a0 x1 s1).bind fun v2 =>
              if v2.1 = true then
                n1 v2.2
              else
                some (false, v2.2)) fun s1 =>
            some (true, s1)
          else
            some (false, w64 (a2 - 1))
theorem spec64 : ∀ (n : Nat), (∀ (σ : List AObj) (p2 : Nat) (hp2 : p2 < σ.length) (a0 : Alphabet) (a1 : Tree) (a2 : Int) (r : Bool × Int), tree_formed n a0 a1 a2 = some r →
    call Try.prog T H (.fn 64) [.p (.agg [.sl none 1 (List.map rowI a0.Ranks)]), .p (.agg [iv a1.Sym, .sl none 2 (List.map row_Tree a1.Kids)]), .ptr p2 0] (List.set σ p2 (.cells [.p (iv a2)])) = some (.ret (.p (bv r.1)), (List.set σ p2 (.cells [.p (iv r.2)])))) := by
  intro n
  induction n with
  | zero => intro σ p2 hp2 a0 a1 a2 r h; cases h
  | succ n ih =>
    intro σ p2 hp2 a0 a1 a2 r h
    refine Sat.fn fun Q hQ => ?_
    rw [tree_formed] at h
    rw [call64]
    conv => arg 1; arg 7; unfold c64 Try.f64; simp only [Option.getD_some]
    by_cases c1 : (w64 (a2 - 1)) < 0
    · have h := iteT h c1
      simp only [go_sem, c1, hp2, fun k => Nat.lt_add_right k hp2, Nat.not_le_of_lt hp2, fun k => Nat.not_le_of_lt (Nat.lt_add_right k hp2)]
      injection h with h; subst h
      exact Sat.ok hQ
    · have h := iteF h c1
      by_cases c2 : a1.Sym < 0
      · have h := iteT h c2
        simp only [go_sem, c1, c2, hp2, fun k => Nat.lt_add_right k hp2, Nat.not_le_of_lt hp2, fun k => Nat.not_le_of_lt (Nat.lt_add_right k hp2)]
        injection h with h; subst h
        exact Sat.ok hQ
      · have h := iteF h c2
        by_cases c3 : (a0.Ranks.length : Int) ≤ a1.Sym
        · have h := iteT h c3
          simp only [go_sem, c1, c2, c3, hp2, fun k => Nat.lt_add_right k hp2, Nat.not_le_of_lt hp2, fun k => Nat.not_le_of_lt (Nat.lt_add_right k hp2)]
          injection h with h; subst h
          exact Sat.ok hQ
        · have h := iteF h c3
          obtain ⟨v1, e_v1, h⟩ := ob h
          obtain ⟨e_v1a, e_v1b⟩ := idx_some e_v1
          by_cases c4 : (a1.Kids.length : Int) = v1
          · have h := iteT h c4
            have c4b : ((a1.Kids.length : Int) != v1) = false := bneF c4
            simp only [go_sem, c1, c2, c3, e_v1a, e_v1b, c4b, hp2, fun k => Nat.lt_add_right k hp2, Nat.not_le_of_lt hp2, fun k => Nat.not_le_of_lt (Nat.lt_add_right k hp2)]
            refine run_rangeL (c := L64_0) (live := [2, 3, 44, 45, 46]) (by simp only [go_sem]) (M := fun i1 (s1 : Int) => [(2, .ptr p2 0), (3, .ptr σ.length 0), (44, .p (.sl none 2 (List.map row_Tree a1.Kids))), (45, .p (iv (a1.Kids.length : Int))), (46, .p (iv (i1 : Int)))]) (Z := fun i1 (s1 : Int) => ((List.set σ p2 (.cells [.p (iv s1)])) ++ [.cells [.p (.sl none 1 (List.map rowI a0.Ranks))], .cells [.p (iv a1.Sym), .p (.sl none 2 (List.map row_Tree a1.Kids))]])) (N := fun (s1 : Int) => ⟨[], ((List.set σ p2 (.cells [.p (iv s1)])) ++ [.cells [.p (.sl none 1 (List.map rowI a0.Ranks))], .cells [.p (iv a1.Sym), .p (.sl none 2 (List.map row_Tree a1.Kids))]]), [], none, false⟩) h rfl rfl (fun _ _ => rfl) ?_ ?_ ?_
            · intro s1 h
              try dsimp only at h ⊢
              simp only [go_sem, hp2, fun k => Nat.lt_add_right k hp2, Nat.not_le_of_lt hp2, fun k => Nat.not_le_of_lt (Nat.lt_add_right k hp2)]
              injection h with h; subst h
              exact Sat.ok hQ
            · intro K1 s1 hb1 he1
              try dsimp only
              conv => arg 1; arg 7; unfold L64_0 loopAt c64 Try.f64; simp only [loopIn, Option.getD_some, if_true]
              simp only [go_sem, he1]
              exact hb1
            · intro K1 k1 i1 x1 s1 n1 hR1 hE1 hb1 hx1 hi1 hw1 ih1 h
              try dsimp only at h ⊢
              conv => arg 1; arg 7; unfold L64_0 loopAt c64 Try.f64; simp only [loopIn, Option.getD_some, if_true]
              obtain ⟨v2, e_v2, h⟩ := ob h
              have e_v2c : call Try.prog T H (.fn 64) [.p (.agg [.sl none 1 (List.map rowI a0.Ranks)]), .p (.agg [iv x1.Sym, .sl none 2 (List.map row_Tree x1.Kids)]), .ptr p2 0] ((List.set σ p2 (.cells [.p (iv s1)])) ++ [.cells [.p (.sl none 1 (List.map rowI a0.Ranks))], .cells [.p (iv a1.Sym), .p (.sl none 2 (List.map row_Tree a1.Kids))], .cells [.p (iv x1.Sym), .p (.sl none 2 (List.map row_Tree x1.Kids))]]) = some (.ret (.p (bv v2.1)), ((List.set σ p2 (.cells [.p (iv v2.2)])) ++ [.cells [.p (.sl none 1 (List.map rowI a0.Ranks))], .cells [.p (iv a1.Sym), .p (.sl none 2 (List.map row_Tree a1.Kids))], .cells [.p (iv x1.Sym), .p (.sl none 2 (List.map row_Tree x1.Kids))]])) := by have q := ih ((List.set σ p2 (.cells [.p (iv s1)])) ++ [.cells [.p (.sl none 1 (List.map rowI a0.Ranks))], .cells [.p (iv a1.Sym), .p (.sl none 2 (List.map row_Tree a1.Kids))], .cells [.p (iv x1.Sym), .p (.sl none 2 (List.map row_Tree x1.Kids))]]) p2 (by simp only [List.length_append, List.length_set, List.length_cons, List.length_nil]; omega) a0 x1 s1 v2 e_v2; simp only [go_sem, hp2, fun k => Nat.lt_add_right k hp2, Nat.not_le_of_lt hp2, fun k => Nat.not_le_of_lt (Nat.lt_add_right k hp2)] at q ⊢; exact q
              by_cases c5 : v2.1 = true
              · have h := iteT h c5
                simp only [go_sem, hx1, hi1, hw1, e_v2c, c5, hR1, hE1, hp2, fun k => Nat.lt_add_right k hp2, Nat.not_le_of_lt hp2, fun k => Nat.not_le_of_lt (Nat.lt_add_right k hp2)]
                exact ih1 _ h
              · have h := iteF h c5
                have c5 := eq_false_of_ne_true c5
                simp only [go_sem, hx1, hi1, hw1, e_v2c, c5, hR1, hE1, hp2, fun k => Nat.lt_add_right k hp2, Nat.not_le_of_lt hp2, fun k => Nat.not_le_of_lt (Nat.lt_add_right k hp2)]
                injection h with h; subst h
                exact Sat.ok hQ
          · have h := iteF h c4
            have c4b : ((a1.Kids.length : Int) != v1) = true := bneT c4
            simp only [go_sem, c1, c2, c3, e_v1a, e_v1b, c4b, hp2, fun k => Nat.lt_add_right k hp2, Nat.not_le_of_lt hp2, fun k => Nat.not_le_of_lt (Nat.lt_add_right k hp2)]
            injection h with h; subst h
            exact Sat.ok hQ

def tree_Valid (n : Nat) (a0 : Alphabet) (a1 : Tree) : Option Bool :=
  (tree_ValidAlphabet a0).bind fun v1 =>
  if v1 = true then
    (tree_formed n a0 a1 300).bind fun v2 =>
    some v2.1
  else
    some false
theorem spec42 (n : Nat) (a0 : Alphabet) (a1 : Tree) (r : Bool) (h : tree_Valid n a0 a1 = some r) :
    call Try.prog T H (.fn 42) [.p (.agg [.sl none 1 (List.map rowI a0.Ranks)]), .p (.agg [iv a1.Sym, .sl none 2 (List.map row_Tree a1.Kids)])] [] = some (.ret (.p (bv r)), []) := by
  refine Sat.fn fun Q hQ => ?_
  unfold tree_Valid at h
  rw [call42]
  conv => arg 1; arg 7; unfold c42 Try.f42; simp only [Option.getD_some]
  obtain ⟨v1, e_v1, h⟩ := ob h
  have e_v1c : call Try.prog T H (.fn 63) [.p (.agg [.sl none 1 (List.map rowI a0.Ranks)])] [] = some (.ret (.p (bv v1)), []) := spec63 a0 v1 e_v1
  by_cases c1 : v1 = true
  · have h := iteT h c1
    obtain ⟨v2, e_v2, h⟩ := ob h
    have e_v2c : call Try.prog T H (.fn 64) [.p (.agg [.sl none 1 (List.map rowI a0.Ranks)]), .p (.agg [iv a1.Sym, .sl none 2 (List.map row_Tree a1.Kids)]), .ptr 2 0] [.cells [.p (.sl none 1 (List.map rowI a0.Ranks))], .cells [.p (iv a1.Sym), .p (.sl none 2 (List.map row_Tree a1.Kids))], .cells [.p (iv 300)]] = some (.ret (.p (bv v2.1)), [.cells [.p (.sl none 1 (List.map rowI a0.Ranks))], .cells [.p (iv a1.Sym), .p (.sl none 2 (List.map row_Tree a1.Kids))], .cells [.p (iv v2.2)]]) := by have q := spec64 n [.cells [.p (.sl none 1 (List.map rowI a0.Ranks))], .cells [.p (iv a1.Sym), .p (.sl none 2 (List.map row_Tree a1.Kids))], .cells [.p (iv 300)]] 2 (by simp only [List.length_append, List.length_set, List.length_cons, List.length_nil]; omega) a0 a1 300 v2 e_v2; simp only [go_sem] at q ⊢; exact q
    simp only [go_sem, e_v1c, c1, e_v2c]
    injection h with h; subst h
    exact Sat.ok hQ
  · have h := iteF h c1
    have c1 := eq_false_of_ne_true c1
    simp only [go_sem, e_v1c, c1]
    injection h with h; subst h
    exact Sat.ok hQ

def hedge_Unpack : Nat → Int → Tree → Option (List Node)
  | 0, _, _ => none
  | n + 1, a0, a1 =>
    whileL n (([] : List Node), a1.Sym, a1.Kids) (fun k1 (s1 : (List Node) × Int × (List Tree)) n1 =>
      if s1.2.1 = a0 then
        k1 (s1.1, s1.2.1, s1.2.2)
      else
        (s1.2.2[0]?).bind fun v1 =>
        (hedge_Unpack n a0 v1).bind fun v2 =>
        (app 32 s1.1 [(Node.mk s1.2.1 v2)]).bind fun v3 =>
        (s1.2.2[1]?).bind fun v4 =>
        n1 (v3, v4.Sym, v4.Kids)) fun s1 =>
    some s1.1
theorem spec43 : ∀ (n : Nat), (∀ (a0 : Int) (a1 : Tree) (r : List Node), hedge_Unpack n a0 a1 = some r →
    call Try.prog T H (.fn 43) [.p (iv a0), .p (.agg [iv a1.Sym, .sl none 2 (List.map row_Tree a1.Kids)])] [] = some (.ret (.p (.sl none 2 (List.map row_Node r))), [])) := by
  intro n
  induction n with
  | zero => intro a0 a1 r h; cases h
  | succ n ih =>
    intro a0 a1 r h
    refine Sat.fn fun Q hQ => ?_
    rw [hedge_Unpack] at h
    rw [call43]
    conv => arg 1; arg 7; unfold c43 Try.f43; simp only [Option.getD_some]
    simp only [go_sem]
    refine run_whileL (c := L43_0) (live := [0, 3, 5]) (by simp only [go_sem]) (M := fun (s1 : (List Node) × Int × (List Tree)) => [(0, .p (iv a0)), (3, .ptr 0 0), (5, .own 2 (List.map row_Node s1.1))]) (Z := fun (s1 : (List Node) × Int × (List Tree)) => [.cells [.p (iv s1.2.1), .p (.sl none 2 (List.map row_Tree s1.2.2))]]) (N := fun (s1 : (List Node) × Int × (List Tree)) => ⟨[(5, .own 2 (List.map row_Node s1.1))], [.cells [.p (iv s1.2.1), .p (.sl none 2 (List.map row_Tree s1.2.2))]], [], none, false⟩) h rfl rfl (fun _ => rfl) ?_ ?_
    · intro s1 h
      try dsimp only at h ⊢
      simp only [go_sem]
      injection h with h; subst h
      exact Sat.ok hQ
    · intro K1 k1 s1 n1 hR1 hE1 hb1 ih1 h
      try dsimp only at h ⊢
      conv => arg 1; arg 7; unfold L43_0 loopAt c43 Try.f43; simp only [loopIn, Option.getD_some, if_true]
      by_cases c1 : s1.2.1 = a0
      · have h := iteT h c1
        have c1b : (s1.2.1 != a0) = false := bneF c1
        simp only [go_sem, c1b, hR1, hE1]
        exact hb1 _ h
      · have h := iteF h c1
        have c1b : (s1.2.1 != a0) = true := bneT c1
        obtain ⟨v1, e_v1, h⟩ := ob h
        obtain ⟨v2, e_v2, h⟩ := ob h
        have e_v2c : call Try.prog T H (.fn 43) [.p (iv a0), .p (.agg [iv v1.Sym, .sl none 2 (List.map row_Tree v1.Kids)])] [] = some (.ret (.p (.sl none 2 (List.map row_Node v2))), []) := ih a0 v1 v2 e_v2
        obtain ⟨v3, e_v3, h⟩ := ob h
        have e_v3a : boundOk (s1.1.length + 1) 32 = true := bnd_of (by have := (app_some e_v3).1; simpa using this) (by decide)
        have e_v3b : (List.map row_Node s1.1) ++ [[iv s1.2.1, .sl none 2 (List.map row_Node v2)]] = List.map row_Node v3 := by rw [(app_some e_v3).2]; simp [row_Node_eq]
        obtain ⟨v4, e_v4, h⟩ := ob h
        simp only [go_sem, c1b, e_v1, e_v2c, e_v3a, e_v3b, e_v4, hR1, hE1]
        exact ih1 _ h

def hedge_Decode (n : Nat) (a0 : Int) (a1 : Tree) : Option ((List Node) × Int) :=
  (hedge_Binary a0).bind fun v1 =>
  if v1.2 = 0 then
    (tree_Valid n v1.1 a1).bind fun v2 =>
    if v2 = true then
      (hedge_Unpack n a0 a1).bind fun v3 =>
      some (v3, 0)
    else
      some (([] : List Node), 1)
  else
    some (([] : List Node), v1.2)
theorem spec16 (n : Nat) (a0 : Int) (a1 : Tree) (r : (List Node) × Int) (h : hedge_Decode n a0 a1 = some r) :
    call Try.prog T H (.fn 16) [.p (iv a0), .p (.agg [iv a1.Sym, .sl none 2 (List.map row_Tree a1.Kids)])] [] = some (.ret (.p (.tup [.sl none 2 (List.map row_Node r.1), iv r.2])), []) := by
  refine Sat.fn fun Q hQ => ?_
  unfold hedge_Decode at h
  rw [call16]
  conv => arg 1; arg 7; unfold c16 Try.f16; simp only [Option.getD_some]
  obtain ⟨v1, e_v1, h⟩ := ob h
  have e_v1c : call Try.prog T H (.fn 20) [.p (iv a0)] [] = some (.ret (.p (.tup [.agg [.sl none 1 (List.map rowI v1.1.Ranks)], iv v1.2])), []) := spec20 a0 v1 e_v1
  by_cases c1 : v1.2 = 0
  · have h := iteT h c1
    have c1b : (v1.2 != 0) = false := bneF c1
    obtain ⟨v2, e_v2, h⟩ := ob h
    have e_v2c : call Try.prog T H (.fn 42) [.p (.agg [.sl none 1 (List.map rowI v1.1.Ranks)]), .p (.agg [iv a1.Sym, .sl none 2 (List.map row_Tree a1.Kids)])] [] = some (.ret (.p (bv v2)), []) := spec42 n v1.1 a1 v2 e_v2
    by_cases c2 : v2 = true
    · have h := iteT h c2
      obtain ⟨v3, e_v3, h⟩ := ob h
      have e_v3c : call Try.prog T H (.fn 43) [.p (iv a0), .p (.agg [iv a1.Sym, .sl none 2 (List.map row_Tree a1.Kids)])] [] = some (.ret (.p (.sl none 2 (List.map row_Node v3))), []) := spec43 n a0 a1 v3 e_v3
      simp only [go_sem, e_v1c, c1b, e_v2c, c2, e_v3c]
      injection h with h; subst h
      exact Sat.ok hQ
    · have h := iteF h c2
      have c2 := eq_false_of_ne_true c2
      simp only [go_sem, e_v1c, c1b, e_v2c, c2]
      injection h with h; subst h
      exact Sat.ok hQ
  · have h := iteF h c1
    have c1b : (v1.2 != 0) = true := bneT c1
    simp only [go_sem, e_v1c, c1b]
    injection h with h; subst h
    exact Sat.ok hQ

def ref01_ValidAlphabet (a0 : Alphabet) : Option Bool :=
  if 12 < (a0.Ranks.length : Int) then
    some false
  else
    rangeL a0.Ranks () (fun k1 i1 x1 (s1 : Unit) n1 =>
      if x1 < 0 then
        some false
      else
        if 3 < x1 then
          some false
        else
          n1 ()) fun s1 =>
    some true
theorem spec65 (a0 : Alphabet) (r : Bool) (h : ref01_ValidAlphabet a0 = some r) :
    call Try.prog T H (.fn 65) [.p (.agg [.sl none 1 (List.map rowI a0.Ranks)])] [] = some (.ret (.p (bv r)), []) := by
  refine Sat.fn fun Q hQ => ?_
  unfold ref01_ValidAlphabet at h
  rw [call65]
  conv => arg 1; arg 7; unfold c65 Try.f65; simp only [Option.getD_some]
  by_cases c1 : 12 < (a0.Ranks.length : Int)
  · have h := iteT h c1
    simp only [go_sem, c1]
    injection h with h; subst h
    exact Sat.ok hQ
  · have h := iteF h c1
    simp only [go_sem, c1]
    refine run_rangeL (c := L65_0) (live := [10, 11, 12]) (by simp only [go_sem]) (M := fun i1 (s1 : Unit) => [(10, .p (.sl none 1 (List.map rowI a0.Ranks))), (11, .p (iv (a0.Ranks.length : Int))), (12, .p (iv (i1 : Int)))]) (Z := fun i1 (s1 : Unit) => [.cells [.p (.sl none 1 (List.map rowI a0.Ranks))]]) (N := fun (s1 : Unit) => ⟨[], [.cells [.p (.sl none 1 (List.map rowI a0.Ranks))]], [], none, false⟩) h rfl rfl (fun _ _ => rfl) ?_ ?_ ?_
    · intro s1 h
      try dsimp only at h ⊢
      simp only [go_sem]
      injection h with h; subst h
      exact Sat.ok hQ
    · intro K1 s1 hb1 he1
      try dsimp only
      conv => arg 1; arg 7; unfold L65_0 loopAt c65 Try.f65; simp only [loopIn, Option.getD_some, if_true]
      simp only [go_sem, he1]
      exact hb1
    · intro K1 k1 i1 x1 s1 n1 hR1 hE1 hb1 hx1 hi1 hw1 ih1 h
      try dsimp only at h ⊢
      conv => arg 1; arg 7; unfold L65_0 loopAt c65 Try.f65; simp only [loopIn, Option.getD_some, if_true]
      by_cases c2 : x1 < 0
      · have h := iteT h c2
        simp only [go_sem, hx1, hi1, hw1, c2, hR1, hE1]
        injection h with h; subst h
        exact Sat.ok hQ
      · have h := iteF h c2
        by_cases c3 : 3 < x1
        · have h := iteT h c3
          simp only [go_sem, hx1, hi1, hw1, c2, c3, hR1, hE1]
          injection h with h; subst h
          exact Sat.ok hQ
        · have h := iteF h c3
          simp only [go_sem, hx1, hi1, hw1, c2, c3, hR1, hE1]
          exact ih1 _ h

def ref01_shaped : Nat → Alphabet → Tree → Option Bool
  | 0, _, _ => none
  | n + 1, a0, a1 =>
    if a1.Sym < 0 then
      some false
    else
      if (a0.Ranks.length : Int) ≤ a1.Sym then
        some false
      else
        (idx a0.Ranks a1.Sym).bind fun v1 =>
        if (a1.Kids.length : Int) = v1 then
          rangeL a1.Kids () (fun k1 i1 x1 (s1 : Unit) n1 =>
            (ref01_shaped n a0 x1).bind fun v2 =>
            if v2 = true then
              n1 ()
            else
              some false) fun s1 =>
          some true
        else
          some false
theorem spec66 : ∀ (n : Nat), (∀ (a0 : Alphabet) (a1 : Tree) (r : Bool), ref01_shaped n a0 a1 = some r →
    call Try.prog T H (.fn 66) [.p (.agg [.sl none 1 (List.map rowI a0.Ranks)]), .p (.agg [iv a1.Sym, .sl none 2 (List.map row_Tree a1.Kids)])] [] = some (.ret (.p (bv r)), [])) := by
  intro n
  induction n with
  | zero => intro a0 a1 r h; cases h
  | succ n ih =>
    intro a0 a1 r h
    refine Sat.fn fun Q hQ => ?_
    rw [ref01_shaped] at h
    rw [call66]
    conv => arg 1; arg 7; unfold c66 Try.f66; simp only [Option.getD_some]
    by_cases c1 : a1.Sym < 0
    · have h := iteT h c1
      simp only [go_sem, c1]
      injection h with h; subst h
      exact Sat.ok hQ
    · have h := iteF h c1
      by_cases c2 : (a0.Ranks.length : Int) ≤ a1.Sym
      · have h := iteT h c2
        simp only [go_sem, c1, c2]
        injection h with h; subst h
        exact Sat.ok hQ
      · have h := iteF h c2
        obtain ⟨v1, e_v1, h⟩ := ob h
        obtain ⟨e_v1a, e_v1b⟩ := idx_some e_v1
        by_cases c3 : (a1.Kids.length : Int) = v1
        · have h := iteT h c3
          have c3b : ((a1.Kids.length : Int) != v1) = false := bneF c3
          simp only [go_sem, c1, c2, e_v1a, e_v1b, c3b]
          refine run_rangeL (c := L66_0) (live := [2, 31, 32, 33]) (by simp only [go_sem]) (M := fun i1 (s1 : Unit) => [(2, .ptr 0 0), (31, .p (.sl none 2 (List.map row_Tree a1.Kids))), (32, .p (iv (a1.Kids.length : Int))), (33, .p (iv (i1 : Int)))]) (Z := fun i1 (s1 : Unit) => [.cells [.p (.sl none 1 (List.map rowI a0.Ranks))], .cells [.p (iv a1.Sym), .p (.sl none 2 (List.map row_Tree a1.Kids))]]) (N := fun (s1 : Unit) => ⟨[], [.cells [.p (.sl none 1 (List.map rowI a0.Ranks))], .cells [.p (iv a1.Sym), .p (.sl none 2 (List.map row_Tree a1.Kids))]], [], none, false⟩) h rfl rfl (fun _ _ => rfl) ?_ ?_ ?_
          · intro s1 h
            try dsimp only at h ⊢
            simp only [go_sem]
            injection h with h; subst h
            exact Sat.ok hQ
          · intro K1 s1 hb1 he1
            try dsimp only
            conv => arg 1; arg 7; unfold L66_0 loopAt c66 Try.f66; simp only [loopIn, Option.getD_some, if_true]
            simp only [go_sem, he1]
            exact hb1
          · intro K1 k1 i1 x1 s1 n1 hR1 hE1 hb1 hx1 hi1 hw1 ih1 h
            try dsimp only at h ⊢
            conv => arg 1; arg 7; unfold L66_0 loopAt c66 Try.f66; simp only [loopIn, Option.getD_some, if_true]
            obtain ⟨v2, e_v2, h⟩ := ob h
            have e_v2c : call Try.prog T H (.fn 66) [.p (.agg [.sl none 1 (List.map rowI a0.Ranks)]), .p (.agg [iv x1.Sym, .sl none 2 (List.map row_Tree x1.Kids)])] [] = some (.ret (.p (bv v2)), []) := ih a0 x1 v2 e_v2
            by_cases c4 : v2 = true
            · have h := iteT h c4
              simp only [go_sem, hx1, hi1, hw1, e_v2c, c4, hR1, hE1]
              exact ih1 _ h
            · have h := iteF h c4
              have c4 := eq_false_of_ne_true c4
              simp only [go_sem, hx1, hi1, hw1, e_v2c, c4, hR1, hE1]
              injection h with h; subst h
              exact Sat.ok hQ
        · have h := iteF h c3
          have c3b : ((a1.Kids.length : Int) != v1) = true := bneT c3
          simp only [go_sem, c1, c2, e_v1a, e_v1b, c3b]
          injection h with h; subst h
          exact Sat.ok hQ

def ref01_Valid (n : Nat) (a0 : Alphabet) (a1 : Tree) : Option Bool :=
  (ref01_ValidAlphabet a0).bind fun v1 =>
  if v1 = true then
    (ref01_Few n a1 300).bind fun v2 =>
    if v2 = true then
      (ref01_shaped n a0 a1).bind fun v3 =>
      some v3
    else
      some false
  else
    some false
theorem spec44 (n : Nat) (a0 : Alphabet) (a1 : Tree) (r : Bool) (h : ref01_Valid n a0 a1 = some r) :
    call Try.prog T H (.fn 44) [.p (.agg [.sl none 1 (List.map rowI a0.Ranks)]), .p (.agg [iv a1.Sym, .sl none 2 (List.map row_Tree a1.Kids)])] [] = some (.ret (.p (bv r)), []) := by
  refine Sat.fn fun Q hQ => ?_
  unfold ref01_Valid at h
  rw [call44]
  conv => arg 1; arg 7; unfold c44 Try.f44; simp only [Option.getD_some]
  obtain ⟨v1, e_v1, h⟩ := ob h
  have e_v1c : call Try.prog T H (.fn 65) [.p (.agg [.sl none 1 (List.map rowI a0.Ranks)])] [] = some (.ret (.p (bv v1)), []) := spec65 a0 v1 e_v1
  by_cases c1 : v1 = true
  · have h := iteT h c1
    obtain ⟨v2, e_v2, h⟩ := ob h
    have e_v2c : call Try.prog T H (.fn 13) [.p (.agg [iv a1.Sym, .sl none 2 (List.map row_Tree a1.Kids)]), .p (iv 300)] [] = some (.ret (.p (bv v2)), []) := spec13 n a1 300 v2 e_v2
    by_cases c2 : v2 = true
    · have h := iteT h c2
      obtain ⟨v3, e_v3, h⟩ := ob h
      have e_v3c : call Try.prog T H (.fn 66) [.p (.agg [.sl none 1 (List.map rowI a0.Ranks)]), .p (.agg [iv a1.Sym, .sl none 2 (List.map row_Tree a1.Kids)])] [] = some (.ret (.p (bv v3)), []) := spec66 n a0 a1 v3 e_v3
      simp only [go_sem, e_v1c, c1, e_v2c, c2, e_v3c]
      injection h with h; subst h
      exact Sat.ok hQ
    · have h := iteF h c2
      have c2 := eq_false_of_ne_true c2
      simp only [go_sem, e_v1c, c1, e_v2c, c2]
      injection h with h; subst h
      exact Sat.ok hQ
  · have h := iteF h c1
    have c1 := eq_false_of_ne_true c1
    simp only [go_sem, e_v1c, c1]
    injection h with h; subst h
    exact Sat.ok hQ

def ref02_Alphabet (a0 : Int) : Option Alphabet :=
  rangeI a0 ([] : List Int) (fun k1 i1 (s1 : (List Int)) n1 =>
    (app 8 s1 [2]).bind fun v2 =>
    n1 v2) fun s1 =>
  (app 8 s1 [0]).bind fun v1 =>
  some (Alphabet.mk v1)
theorem spec45 (a0 : Int) (r : Alphabet) (h : ref02_Alphabet a0 = some r) :
    call Try.prog T H (.fn 45) [.p (iv a0)] [] = some (.ret (.p (.agg [.sl none 1 (List.map rowI r.Ranks)])), []) := by
  refine Sat.fn fun Q hQ => ?_
  unfold ref02_Alphabet at h
  rw [call45]
  conv => arg 1; arg 7; unfold c45 Try.f45; simp only [Option.getD_some]
  simp only [go_sem]
  refine run_rangeI (c := L45_0) (live := [2, 3, 4, 5]) (by simp only [go_sem]) (M := fun i1 (s1 : (List Int)) => [(2, .ptr 0 0), (3, .ptr 1 0), (4, .p (iv a0)), (5, .p (iv (i1 : Int)))]) (Z := fun i1 (s1 : (List Int)) => [.cells [.own 1 []], .cells [.own 1 (List.map rowI s1)]]) (N := fun (s1 : (List Int)) => ⟨[(2, .ptr 0 0), (3, .ptr 1 0)], [.cells [.own 1 []], .cells [.own 1 (List.map rowI s1)]], [], none, false⟩) h rfl rfl (fun _ _ => rfl) ?_ ?_ ?_
  · intro s1 h
    try dsimp only at h ⊢
    obtain ⟨v1, e_v1, h⟩ := ob h
    have e_v1a : boundOk (s1.length + 1) 8 = true := bnd_of (by have := (app_some e_v1).1; simpa using this) (by decide)
    have e_v1b : (List.map rowI s1) ++ [[iv 0]] = List.map rowI v1 := by rw [(app_some e_v1).2]; simp [rowI]
    simp only [go_sem, e_v1a, e_v1b]
    injection h with h; subst h
    exact Sat.ok hQ
  · intro K1 i1 s1 hb1 he1
    try dsimp only
    conv => arg 1; arg 7; unfold L45_0 loopAt c45 Try.f45; simp only [loopIn, Option.getD_some, if_true]
    simp only [go_sem, he1]
    exact hb1
  · intro K1 k1 i1 s1 n1 hR1 hE1 hb1 hi1 hw1 ih1 h
    try dsimp only at h ⊢
    conv => arg 1; arg 7; unfold L45_0 loopAt c45 Try.f45; simp only [loopIn, Option.getD_some, if_true]
    obtain ⟨v2, e_v2, h⟩ := ob h
    have e_v2a : boundOk (s1.length + 1) 8 = true := bnd_of (by have := (app_some e_v2).1; simpa using this) (by decide)
    have e_v2b : (List.map rowI s1) ++ [[iv 2]] = List.map rowI v2 := by rw [(app_some e_v2).2]; simp [rowI]
    simp only [go_sem, hi1, hw1, e_v2a, e_v2b, hR1, hE1]
    exact ih1 _ h

def ref02_Uncode : Nat → Int → Tree → Option (List Node)
  | 0, _, _ => none
  | n + 1, a0, a1 =>
    if a1.Sym = a0 then
      some ([] : List Node)
    else
      (a1.Kids[0]?).bind fun v1 =>
      (ref02_Uncode n a0 v1).bind fun v2 =>
      (a1.Kids[1]?).bind fun v3 =>
      (ref02_Uncode n a0 v3).bind fun v4 =>
      (app 32 [(Node.mk a1.Sym v2)] v4).bind fun v5 =>
      some v5
theorem spec46 : ∀ (n : Nat), (∀ (a0 : Int) (a1 : Tree) (r : List Node), ref02_Uncode n a0 a1 = some r →
    call Try.prog T H (.fn 46) [.p (iv a0), .p (.agg [iv a1.Sym, .sl none 2 (List.map row_Tree a1.Kids)])] [] = some (.ret (.p (.sl none 2 (List.map row_Node r))), [])) := by
  intro n
  induction n with
  | zero => intro a0 a1 r h; cases h
  | succ n ih =>
    intro a0 a1 r h
    refine Sat.fn fun Q hQ => ?_
    rw [ref02_Uncode] at h
    rw [call46]
    conv => arg 1; arg 7; unfold c46 Try.f46; simp only [Option.getD_some]
    by_cases c1 : a1.Sym = a0
    · have h := iteT h c1
      have c1b : (a1.Sym == a0) = true := beqT c1
      simp only [go_sem, c1b]
      injection h with h; subst h
      exact Sat.ok hQ
    · have h := iteF h c1
      have c1b : (a1.Sym == a0) = false := beqF c1
      obtain ⟨v1, e_v1, h⟩ := ob h
      obtain ⟨v2, e_v2, h⟩ := ob h
      have e_v2c : call Try.prog T H (.fn 46) [.p (iv a0), .p (.agg [iv v1.Sym, .sl none 2 (List.map row_Tree v1.Kids)])] [] = some (.ret (.p (.sl none 2 (List.map row_Node v2))), []) := ih a0 v1 v2 e_v2
      obtain ⟨v3, e_v3, h⟩ := ob h
      obtain ⟨v4, e_v4, h⟩ := ob h
      have e_v4c : call Try.prog T H (.fn 46) [.p (iv a0), .p (.agg [iv v3.Sym, .sl none 2 (List.map row_Tree v3.Kids)])] [] = some (.ret (.p (.sl none 2 (List.map row_Node v4))), []) := ih a0 v3 v4 e_v4
      obtain ⟨v5, e_v5, h⟩ := ob h
      have e_v5a : boundOk (1 + v4.length) 32 = true := bnd_of (by have := (app_some e_v5).1; simpa using this) (by decide)
      have e_v5b : [[iv a1.Sym, .sl none 2 (List.map row_Node v2)]] ++ (List.map row_Node v4) = List.map row_Node v5 := by rw [(app_some e_v5).2]; simp [row_Node_eq]
      simp only [go_sem, c1b, e_v1, e_v2c, e_v3, e_v4c, e_v5a, e_v5b]
      injection h with h; subst h
      exact Sat.ok hQ

def ref02_Decode (n : Nat) (a0 : Int) (a1 : Tree) : Option ((List Node) × Int) :=
  if a0 < 1 then
    some (([] : List Node), 6)
  else
    if 8 < a0 then
      some (([] : List Node), 6)
    else
      (ref02_Alphabet a0).bind fun v1 =>
      (ref01_Valid n v1 a1).bind fun v2 =>
      if v2 = true then
        (ref02_Uncode n a0 a1).bind fun v3 =>
        some (v3, 0)
      else
        some (([] : List Node), 1)
theorem spec17 (n : Nat) (a0 : Int) (a1 : Tree) (r : (List Node) × Int) (h : ref02_Decode n a0 a1 = some r) :
    call Try.prog T H (.fn 17) [.p (iv a0), .p (.agg [iv a1.Sym, .sl none 2 (List.map row_Tree a1.Kids)])] [] = some (.ret (.p (.tup [.sl none 2 (List.map row_Node r.1), iv r.2])), []) := by
  refine Sat.fn fun Q hQ => ?_
  unfold ref02_Decode at h
  rw [call17]
  conv => arg 1; arg 7; unfold c17 Try.f17; simp only [Option.getD_some]
  by_cases c1 : a0 < 1
  · have h := iteT h c1
    simp only [go_sem, c1]
    injection h with h; subst h
    exact Sat.ok hQ
  · have h := iteF h c1
    by_cases c2 : 8 < a0
    · have h := iteT h c2
      simp only [go_sem, c1, c2]
      injection h with h; subst h
      exact Sat.ok hQ
    · have h := iteF h c2
      obtain ⟨v1, e_v1, h⟩ := ob h
      have e_v1c : call Try.prog T H (.fn 45) [.p (iv a0)] [] = some (.ret (.p (.agg [.sl none 1 (List.map rowI v1.Ranks)])), []) := spec45 a0 v1 e_v1
      obtain ⟨v2, e_v2, h⟩ := ob h
      have e_v2c : call Try.prog T H (.fn 44) [.p (.agg [.sl none 1 (List.map rowI v1.Ranks)]), .p (.agg [iv a1.Sym, .sl none 2 (List.map row_Tree a1.Kids)])] [] = some (.ret (.p (bv v2)), []) := spec44 n v1 a1 v2 e_v2
      by_cases c3 : v2 = true
      · have h := iteT h c3
        obtain ⟨v3, e_v3, h⟩ := ob h
        have e_v3c : call Try.prog T H (.fn 46) [.p (iv a0), .p (.agg [iv a1.Sym, .sl none 2 (List.map row_Tree a1.Kids)])] [] = some (.ret (.p (.sl none 2 (List.map row_Node v3))), []) := spec46 n a0 a1 v3 e_v3
        simp only [go_sem, c1, c2, e_v1c, e_v2c, c3, e_v3c]
        injection h with h; subst h
        exact Sat.ok hQ
      · have h := iteF h c3
        have c3 := eq_false_of_ne_true c3
        simp only [go_sem, c1, c2, e_v1c, e_v2c, c3]
        injection h with h; subst h
        exact Sat.ok hQ

def ref01_Same : Nat → Tree → Tree → Option Bool
  | 0, _, _ => none
  | n + 1, a0, a1 =>
    if a0.Sym = a1.Sym then
      if (a0.Kids.length : Int) = (a1.Kids.length : Int) then
        rangeL a0.Kids () (fun k1 i1 x1 (s1 : Unit) n1 =>
          (a1.Kids[i1]?).bind fun v1 =>
          (ref01_Same n x1 v1).bind fun v2 =>
          if v2 = true then
            n1 ()
          else
            some false) fun s1 =>
        some true
      else
        some false
    else
      some false
theorem spec18 : ∀ (n : Nat), (∀ (a0 : Tree) (a1 : Tree) (r : Bool), ref01_Same n a0 a1 = some r →
    call Try.prog T H (.fn 18) [.p (.agg [iv a0.Sym, .sl none 2 (List.map row_Tree a0.Kids)]), .p (.agg [iv a1.Sym, .sl none 2 (List.map row_Tree a1.Kids)])] [] = some (.ret (.p (bv r)), [])) := by
  intro n
  induction n with
  | zero => intro a0 a1 r h; cases h
  | succ n ih =>
    intro a0 a1 r h
    refine Sat.fn fun Q hQ => ?_
    rw [ref01_Same] at h
    rw [call18]
    conv => arg 1; arg 7; unfold c18 Try.f18; simp only [Option.getD_some]
    by_cases c1 : a0.Sym = a1.Sym
    · have h := iteT h c1
      have c1b : (a0.Sym != a1.Sym) = false := bneF c1
      by_cases c2 : (a0.Kids.length : Int) = (a1.Kids.length : Int)
      · have h := iteT h c2
        have c2b : ((a0.Kids.length : Int) != (a1.Kids.length : Int)) = false := bneF c2
        simp only [go_sem, c1b, c2b]
        refine run_rangeL (c := L18_0) (live := [2, 3, 22, 23]) (by simp only [go_sem]) (M := fun i1 (s1 : Unit) => [(2, .ptr 0 0), (3, .ptr 1 0), (22, .p (iv (a0.Kids.length : Int))), (23, .p (iv (i1 : Int)))]) (Z := fun i1 (s1 : Unit) => [.cells [.p (iv a0.Sym), .p (.sl none 2 (List.map row_Tree a0.Kids))], .cells [.p (iv a1.Sym), .p (.sl none 2 (List.map row_Tree a1.Kids))]]) (N := fun (s1 : Unit) => ⟨[], [.cells [.p (iv a0.Sym), .p (.sl none 2 (List.map row_Tree a0.Kids))], .cells [.p (iv a1.Sym), .p (.sl none 2 (List.map row_Tree a1.Kids))]], [], none, false⟩) h rfl rfl (fun _ _ => rfl) ?_ ?_ ?_
        · intro s1 h
          try dsimp only at h ⊢
          simp only [go_sem]
          injection h with h; subst h
          exact Sat.ok hQ
        · intro K1 s1 hb1 he1
          try dsimp only
          conv => arg 1; arg 7; unfold L18_0 loopAt c18 Try.f18; simp only [loopIn, Option.getD_some, if_true]
          simp only [go_sem, he1]
          exact hb1
        · intro K1 k1 i1 x1 s1 n1 hR1 hE1 hb1 hx1 hi1 hw1 ih1 h
          try dsimp only at h ⊢
          conv => arg 1; arg 7; unfold L18_0 loopAt c18 Try.f18; simp only [loopIn, Option.getD_some, if_true]
          obtain ⟨v1, e_v1, h⟩ := ob h
          obtain ⟨v2, e_v2, h⟩ := ob h
          have e_v2c : call Try.prog T H (.fn 18) [.p (.agg [iv x1.Sym, .sl none 2 (List.map row_Tree x1.Kids)]), .p (.agg [iv v1.Sym, .sl none 2 (List.map row_Tree v1.Kids)])] [] = some (.ret (.p (bv v2)), []) := ih x1 v1 v2 e_v2
          by_cases c3 : v2 = true
          · have h := iteT h c3
            simp only [go_sem, hx1, hi1, hw1, e_v1, e_v2c, c3, hR1, hE1]
            exact ih1 _ h
          · have h := iteF h c3
            have c3 := eq_false_of_ne_true c3
            simp only [go_sem, hx1, hi1, hw1, e_v1, e_v2c, c3, hR1, hE1]
            injection h with h; subst h
            exact Sat.ok hQ
      · have h := iteF h c2
        have c2b : ((a0.Kids.length : Int) != (a1.Kids.length : Int)) = true := bneT c2
        simp only [go_sem, c1b, c2b]
        injection h with h; subst h
        exact Sat.ok hQ
    · have h := iteF h c1
      have c1b : (a0.Sym != a1.Sym) = true := bneT c1
      simp only [go_sem, c1b]
      injection h with h; subst h
      exact Sat.ok hQ

def ref02_Same : Nat → (List Node) → (List Node) → Option Bool
  | 0, _, _ => none
  | n + 1, a0, a1 =>
    if (a0.length : Int) = (a1.length : Int) then
      rangeL a0 () (fun k1 i1 x1 (s1 : Unit) n1 =>
        (a1[i1]?).bind fun v1 =>
        if x1.Label = v1.Label then
          (ref02_Same n x1.Kids v1.Kids).bind fun v2 =>
          if v2 = true then
            n1 ()
          else
            some false
        else
          some false) fun s1 =>
      some true
    else
      some false
theorem spec19 : ∀ (n : Nat), (∀ (a0 : List Node) (a1 : List Node) (r : Bool), ref02_Same n a0 a1 = some r →
    call Try.prog T H (.fn 19) [.p (.sl none 2 (List.map row_Node a0)), .p (.sl none 2 (List.map row_Node a1))] [] = some (.ret (.p (bv r)), [])) := by
  intro n
  induction n with
  | zero => intro a0 a1 r h; cases h
  | succ n ih =>
    intro a0 a1 r h
    refine Sat.fn fun Q hQ => ?_
    rw [ref02_Same] at h
    rw [call19]
    conv => arg 1; arg 7; unfold c19 Try.f19; simp only [Option.getD_some]
    by_cases c1 : (a0.length : Int) = (a1.length : Int)
    · have h := iteT h c1
      have c1b : ((a0.length : Int) != (a1.length : Int)) = false := bneF c1
      simp only [go_sem, c1b]
      refine run_rangeL (c := L19_0) (live := [0, 1, 12, 13]) (by simp only [go_sem]) (M := fun i1 (s1 : Unit) => [(0, .p (.sl none 2 (List.map row_Node a0))), (1, .p (.sl none 2 (List.map row_Node a1))), (12, .p (iv (a0.length : Int))), (13, .p (iv (i1 : Int)))]) (Z := fun i1 (s1 : Unit) => []) (N := fun (s1 : Unit) => ⟨[], [], [], none, false⟩) h rfl rfl (fun _ _ => rfl) ?_ ?_ ?_
      · intro s1 h
        try dsimp only at h ⊢
        simp only [go_sem]
        injection h with h; subst h
        exact Sat.ok hQ
      · intro K1 s1 hb1 he1
        try dsimp only
        conv => arg 1; arg 7; unfold L19_0 loopAt c19 Try.f19; simp only [loopIn, Option.getD_some, if_true]
        simp only [go_sem, he1]
        exact hb1
      · intro K1 k1 i1 x1 s1 n1 hR1 hE1 hb1 hx1 hi1 hw1 ih1 h
        try dsimp only at h ⊢
        conv => arg 1; arg 7; unfold L19_0 loopAt c19 Try.f19; simp only [loopIn, Option.getD_some, if_true]
        obtain ⟨v1, e_v1, h⟩ := ob h
        by_cases c2 : x1.Label = v1.Label
        · have h := iteT h c2
          have c2b : (x1.Label != v1.Label) = false := bneF c2
          obtain ⟨v2, e_v2, h⟩ := ob h
          have e_v2c : call Try.prog T H (.fn 19) [.p (.sl none 2 (List.map row_Node x1.Kids)), .p (.sl none 2 (List.map row_Node v1.Kids))] [] = some (.ret (.p (bv v2)), []) := ih x1.Kids v1.Kids v2 e_v2
          by_cases c3 : v2 = true
          · have h := iteT h c3
            simp only [go_sem, hx1, hi1, hw1, e_v1, c2b, e_v2c, c3, hR1, hE1]
            exact ih1 _ h
          · have h := iteF h c3
            have c3 := eq_false_of_ne_true c3
            simp only [go_sem, hx1, hi1, hw1, e_v1, c2b, e_v2c, c3, hR1, hE1]
            injection h with h; subst h
            exact Sat.ok hQ
        · have h := iteF h c2
          have c2b : (x1.Label != v1.Label) = true := bneT c2
          simp only [go_sem, hx1, hi1, hw1, e_v1, c2b, hR1, hE1]
          injection h with h; subst h
          exact Sat.ok hQ
    · have h := iteF h c1
      have c1b : ((a0.length : Int) != (a1.length : Int)) = true := bneT c1
      simp only [go_sem, c1b]
      injection h with h; subst h
      exact Sat.ok hQ

def ref02_Binary (a0 : Int) : Option (Alphabet × Int) :=
  if a0 < 1 then
    some ((Alphabet.mk ([] : List Int)), 6)
  else
    if 8 < a0 then
      some ((Alphabet.mk ([] : List Int)), 6)
    else
      (ref02_Alphabet a0).bind fun v1 =>
      some (v1, 0)
theorem spec21 (a0 : Int) (r : Alphabet × Int) (h : ref02_Binary a0 = some r) :
    call Try.prog T H (.fn 21) [.p (iv a0)] [] = some (.ret (.p (.tup [.agg [.sl none 1 (List.map rowI r.1.Ranks)], iv r.2])), []) := by
  refine Sat.fn fun Q hQ => ?_
  unfold ref02_Binary at h
  rw [call21]
  conv => arg 1; arg 7; unfold c21 Try.f21; simp only [Option.getD_some]
  by_cases c1 : a0 < 1
  · have h := iteT h c1
    simp only [go_sem, c1]
    injection h with h; subst h
    exact Sat.ok hQ
  · have h := iteF h c1
    by_cases c2 : 8 < a0
    · have h := iteT h c2
      simp only [go_sem, c1, c2]
      injection h with h; subst h
      exact Sat.ok hQ
    · have h := iteF h c2
      obtain ⟨v1, e_v1, h⟩ := ob h
      have e_v1c : call Try.prog T H (.fn 45) [.p (iv a0)] [] = some (.ret (.p (.agg [.sl none 1 (List.map rowI v1.Ranks)])), []) := spec45 a0 v1 e_v1
      simp only [go_sem, c1, c2, e_v1c]
      injection h with h; subst h
      exact Sat.ok hQ

def cmp_Or_int (a0 : List Int) : Option Int :=
  rangeL a0 () (fun k1 i1 x1 (s1 : Unit) n1 =>
    if x1 = 0 then
      n1 ()
    else
      some x1) fun s1 =>
  some 0
theorem spec67 (a0 : List Int) (r : Int) (h : cmp_Or_int a0 = some r) :
    call Try.prog T H (.fn 67) [.p (.sl none 1 (List.map rowI a0))] [] = some (.ret (.p (iv r)), []) := by
  refine Sat.fn fun Q hQ => ?_
  unfold cmp_Or_int at h
  rw [call67]
  conv => arg 1; arg 7; unfold c67 Try.f67; simp only [Option.getD_some]
  simp only [go_sem]
  refine run_rangeL (c := L67_0) (live := [3, 6, 7, 8]) (by simp only [go_sem]) (M := fun i1 (s1 : Unit) => [(3, .p (iv 0)), (6, .p (.sl none 1 (List.map rowI a0))), (7, .p (iv (a0.length : Int))), (8, .p (iv (i1 : Int)))]) (Z := fun i1 (s1 : Unit) => []) (N := fun (s1 : Unit) => ⟨[(3, .p (iv 0))], [], [], none, false⟩) h rfl rfl (fun _ _ => rfl) ?_ ?_ ?_
  · intro s1 h
    try dsimp only at h ⊢
    simp only [go_sem]
    injection h with h; subst h
    exact Sat.ok hQ
  · intro K1 s1 hb1 he1
    try dsimp only
    conv => arg 1; arg 7; unfold L67_0 loopAt c67 Try.f67; simp only [loopIn, Option.getD_some, if_true]
    simp only [go_sem, he1]
    exact hb1
  · intro K1 k1 i1 x1 s1 n1 hR1 hE1 hb1 hx1 hi1 hw1 ih1 h
    try dsimp only at h ⊢
    conv => arg 1; arg 7; unfold L67_0 loopAt c67 Try.f67; simp only [loopIn, Option.getD_some, if_true]
    by_cases c1 : x1 = 0
    · have h := iteT h c1
      have c1b : (x1 != 0) = false := bneF c1
      simp only [go_sem, hx1, hi1, hw1, c1b, hR1, hE1]
      exact ih1 _ h
    · have h := iteF h c1
      have c1b : (x1 != 0) = true := bneT c1
      simp only [go_sem, hx1, hi1, hw1, c1b, hR1, hE1]
      injection h with h; subst h
      exact Sat.ok hQ

def cmp_isNaN_int (a0 : Int) : Option Bool :=
  some (a0 != a0)
theorem spec82 (a0 : Int) (r : Bool) (h : cmp_isNaN_int a0 = some r) :
    call Try.prog T H (.fn 82) [.p (iv a0)] [] = some (.ret (.p (bv r)), []) := by
  refine Sat.fn fun Q hQ => ?_
  unfold cmp_isNaN_int at h
  rw [call82]
  conv => arg 1; arg 7; unfold c82 Try.f82; simp only [Option.getD_some]
  simp only [go_sem]
  injection h with h; subst h
  exact Sat.ok hQ

def cmp_Compare_int (a0 : Int) (a1 : Int) : Option Int :=
  (cmp_isNaN_int a0).bind fun v1 =>
  (cmp_isNaN_int a1).bind fun v2 =>
  if v1 = true then
    if v2 = true then
      some 0
    else
      some (-1)
  else
    if v2 = true then
      some 1
    else
      if a0 < a1 then
        some (-1)
      else
        if a1 < a0 then
          some 1
        else
          some 0
theorem spec68 (a0 : Int) (a1 : Int) (r : Int) (h : cmp_Compare_int a0 a1 = some r) :
    call Try.prog T H (.fn 68) [.p (iv a0), .p (iv a1)] [] = some (.ret (.p (iv r)), []) := by
  refine Sat.fn fun Q hQ => ?_
  unfold cmp_Compare_int at h
  rw [call68]
  conv => arg 1; arg 7; unfold c68 Try.f68; simp only [Option.getD_some]
  obtain ⟨v1, e_v1, h⟩ := ob h
  have e_v1c : call Try.prog T H (.fn 82) [.p (iv a0)] [] = some (.ret (.p (bv v1)), []) := spec82 a0 v1 e_v1
  obtain ⟨v2, e_v2, h⟩ := ob h
  have e_v2c : call Try.prog T H (.fn 82) [.p (iv a1)] [] = some (.ret (.p (bv v2)), []) := spec82 a1 v2 e_v2
  by_cases c1 : v1 = true
  · have h := iteT h c1
    by_cases c2 : v2 = true
    · have h := iteT h c2
      simp only [go_sem, e_v1c, e_v2c, c1, c2]
      injection h with h; subst h
      exact Sat.ok hQ
    · have h := iteF h c2
      have c2 := eq_false_of_ne_true c2
      simp only [go_sem, e_v1c, e_v2c, c1, c2]
      injection h with h; subst h
      exact Sat.ok hQ
  · have h := iteF h c1
    have c1 := eq_false_of_ne_true c1
    by_cases c3 : v2 = true
    · have h := iteT h c3
      simp only [go_sem, e_v1c, e_v2c, c1, c3]
      injection h with h; subst h
      exact Sat.ok hQ
    · have h := iteF h c3
      have c3 := eq_false_of_ne_true c3
      by_cases c4 : a0 < a1
      · have h := iteT h c4
        simp only [go_sem, e_v1c, e_v2c, c1, c3, c4]
        injection h with h; subst h
        exact Sat.ok hQ
      · have h := iteF h c4
        by_cases c5 : a1 < a0
        · have h := iteT h c5
          simp only [go_sem, e_v1c, e_v2c, c1, c3, c4, c5]
          injection h with h; subst h
          exact Sat.ok hQ
        · have h := iteF h c5
          simp only [go_sem, e_v1c, e_v2c, c1, c3, c4, c5]
          injection h with h; subst h
          exact Sat.ok hQ

def hedge_compare : Nat → hedge_sized → hedge_sized → Option Int
  | 0, _, _ => none
  | n + 1, a0, a1 =>
    (cmp_Compare_int a0.size a1.size).bind fun v1 =>
    (cmp_Compare_int a0.label a1.label).bind fun v2 =>
    (cmp_Or_int [v1, v2]).bind fun v3 =>
    if v3 = 0 then
      jn (fun (u1 : Int) =>
        some u1) fun j1 =>
      rangeL a0.kids () (fun k1 i1 x1 (s1 : Unit) n1 =>
        if (a1.kids.length : Int) ≤ (i1 : Int) then
          j1 1
        else
          (a1.kids[i1]?).bind fun v4 =>
          (hedge_compare n x1 v4).bind fun v5 =>
          if v5 = 0 then
            n1 ()
          else
            j1 v5) fun s1 =>
      if (a0.kids.length : Int) < (a1.kids.length : Int) then
        j1 (-1)
      else
        j1 0
    else
      some v3
theorem spec48 : ∀ (n : Nat), (∀ (a0 : hedge_sized) (a1 : hedge_sized) (r : Int), hedge_compare n a0 a1 = some r →
    call Try.prog T H (.fn 48) [.p (.agg [iv a0.label, iv a0.size, .sl none 3 (List.map row_hedge_sized a0.kids)]), .p (.agg [iv a1.label, iv a1.size, .sl none 3 (List.map row_hedge_sized a1.kids)])] [] = some (.ret (.p (iv r)), [])) := by
  intro n
  induction n with
  | zero => intro a0 a1 r h; cases h
  | succ n ih =>
    intro a0 a1 r h
    refine Sat.fn fun Q hQ => ?_
    rw [hedge_compare] at h
    rw [call48]
    conv => arg 1; arg 7; unfold c48 Try.f48; simp only [Option.getD_some]
    obtain ⟨v1, e_v1, h⟩ := ob h
    have e_v1c : call Try.prog T H (.fn 68) [.p (iv a0.size), .p (iv a1.size)] [] = some (.ret (.p (iv v1)), []) := spec68 a0.size a1.size v1 e_v1
    obtain ⟨v2, e_v2, h⟩ := ob h
    have e_v2c : call Try.prog T H (.fn 68) [.p (iv a0.label), .p (iv a1.label)] [] = some (.ret (.p (iv v2)), []) := spec68 a0.label a1.label v2 e_v2
    obtain ⟨v3, e_v3, h⟩ := ob h
    have e_v3c : call Try.prog T H (.fn 67) [.p (.sl none 1 [[iv v1], [iv v2]])] [] = some (.ret (.p (iv v3)), []) := by have q := spec67 [v1, v2] v3 e_v3; simp only [List.map_cons, List.map_nil, rowI] at q ⊢; exact q
    by_cases c1 : v3 = 0
    · have h := iteT h c1
      have c1b : (v3 != 0) = false := bneF c1
      simp only [go_sem, e_v1c, e_v2c, e_v3c, c1b]
      refine Sat.callj (V := fun (u1 : Int) => .p (iv u1)) (Z := fun (u1 : Int) => [.cells [.p (iv a0.label), .p (iv a0.size), .p (.sl none 3 (List.map row_hedge_sized a0.kids))], .cells [.p (iv a1.label), .p (iv a1.size), .p (.sl none 3 (List.map row_hedge_sized a1.kids))]]) h ?_ ?_
      · intro u1 h
        try dsimp only at h ⊢
        simp only [go_sem]
        injection h with h; subst h
        exact Sat.ok hQ
      · intro j1 h
        rw [call69]
        conv => arg 1; arg 7; unfold c69 Try.f69; simp only [Option.getD_some]
        simp only [go_sem]
        refine run_rangeL (c := L69_0) (live := [0, 1, 2, 11, 12, 13]) (by simp only [go_sem]) (M := fun i1 (s1 : Unit) => [(0, .p (.sl none 3 (List.map row_hedge_sized a0.kids))), (1, .p (.sl none 3 (List.map row_hedge_sized a1.kids))), (2, .p (.fn 48)), (11, .p (.sl none 3 (List.map row_hedge_sized a0.kids))), (12, .p (iv (a0.kids.length : Int))), (13, .p (iv (i1 : Int)))]) (Z := fun i1 (s1 : Unit) => [.cells [.p (iv a0.label), .p (iv a0.size), .p (.sl none 3 (List.map row_hedge_sized a0.kids))], .cells [.p (iv a1.label), .p (iv a1.size), .p (.sl none 3 (List.map row_hedge_sized a1.kids))]]) (N := fun (s1 : Unit) => ⟨[(0, .p (.sl none 3 (List.map row_hedge_sized a0.kids))), (1, .p (.sl none 3 (List.map row_hedge_sized a1.kids)))], [.cells [.p (iv a0.label), .p (iv a0.size), .p (.sl none 3 (List.map row_hedge_sized a0.kids))], .cells [.p (iv a1.label), .p (iv a1.size), .p (.sl none 3 (List.map row_hedge_sized a1.kids))]], [], none, false⟩) h rfl rfl (fun _ _ => rfl) ?_ ?_ ?_
        · intro s1 h
          try dsimp only at h ⊢
          by_cases c2 : (a0.kids.length : Int) < (a1.kids.length : Int)
          · have h := iteT h c2
            simp only [go_sem, c2]
            exact Sat.ok ⟨(-1), rfl, h⟩
          · have h := iteF h c2
            simp only [go_sem, c2]
            exact Sat.ok ⟨0, rfl, h⟩
        · intro K1 s1 hb1 he1
          try dsimp only
          conv => arg 1; arg 7; unfold L69_0 loopAt c69 Try.f69; simp only [loopIn, Option.getD_some, if_true]
          simp only [go_sem, he1]
          exact hb1
        · intro K1 k1 i1 x1 s1 n1 hR1 hE1 hb1 hx1 hi1 hw1 ih1 h
          try dsimp only at h ⊢
          conv => arg 1; arg 7; unfold L69_0 loopAt c69 Try.f69; simp only [loopIn, Option.getD_some, if_true]
          by_cases c3 : (a1.kids.length : Int) ≤ (i1 : Int)
          · have h := iteT h c3
            simp only [go_sem, hx1, hi1, hw1, c3, hR1, hE1]
            exact Sat.ok ⟨1, rfl, h⟩
          · have h := iteF h c3
            obtain ⟨v4, e_v4, h⟩ := ob h
            obtain ⟨v5, e_v5, h⟩ := ob h
            have e_v5c : call Try.prog T H (.fn 48) [.p (.agg [iv x1.label, iv x1.size, .sl none 3 (List.map row_hedge_sized x1.kids)]), .p (.agg [iv v4.label, iv v4.size, .sl none 3 (List.map row_hedge_sized v4.kids)])] [] = some (.ret (.p (iv v5)), []) := ih x1 v4 v5 e_v5
            by_cases c4 : v5 = 0
            · have h := iteT h c4
              have c4b : (v5 != 0) = false := bneF c4
              simp only [go_sem, hx1, hi1, hw1, c3, e_v4, e_v5c, c4b, hR1, hE1]
              exact ih1 _ h
            · have h := iteF h c4
              have c4b : (v5 != 0) = true := bneT c4
              simp only [go_sem, hx1, hi1, hw1, c3, e_v4, e_v5c, c4b, hR1, hE1]
              exact Sat.ok ⟨v5, rfl, h⟩
    · have h := iteF h c1
      have c1b : (v3 != 0) = true := bneT c1
      simp only [go_sem, e_v1c, e_v2c, e_v3c, c1b]
      injection h with h; subst h
      exact Sat.ok hQ

def hedge_measure : Nat → Node → Option hedge_sized
  | 0, _ => none
  | n + 1, a0 =>
    rangeL a0.Kids (1, ([] : List hedge_sized)) (fun k1 i1 x1 (s1 : Int × (List hedge_sized)) n1 =>
      (hedge_measure n x1).bind fun v1 =>
      (app 40 s1.2 [v1]).bind fun v2 =>
      n1 (w64 (s1.1 + v1.size), v2)) fun s1 =>
    some (hedge_sized.mk a0.Label s1.1 s1.2)
theorem spec49 : ∀ (n : Nat), (∀ (a0 : Node) (r : hedge_sized), hedge_measure n a0 = some r →
    call Try.prog T H (.fn 49) [.p (.agg [iv a0.Label, .sl none 2 (List.map row_Node a0.Kids)])] [] = some (.ret (.p (.agg [iv r.label, iv r.size, .sl none 3 (List.map row_hedge_sized r.kids)])), [])) := by
  intro n
  induction n with
  | zero => intro a0 r h; cases h
  | succ n ih =>
    intro a0 r h
    refine Sat.fn fun Q hQ => ?_
    rw [hedge_measure] at h
    rw [call49]
    conv => arg 1; arg 7; unfold c49 Try.f49; simp only [Option.getD_some]
    simp only [go_sem]
    refine run_rangeL (c := L49_0) (live := [2, 3, 11, 12, 13]) (by simp only [go_sem]) (M := fun i1 (s1 : Int × (List hedge_sized)) => [(2, .ptr 1 0), (3, .ptr 2 0), (11, .p (.sl none 2 (List.map row_Node a0.Kids))), (12, .p (iv (a0.Kids.length : Int))), (13, .p (iv (i1 : Int)))]) (Z := fun i1 (s1 : Int × (List hedge_sized)) => [.cells [.p (iv a0.Label), .p (.sl none 2 (List.map row_Node a0.Kids))], .cells [.p (iv 0), .p (iv 0), .own 3 []], .cells [.p (iv a0.Label), .p (iv s1.1), .own 3 (List.map row_hedge_sized s1.2)]]) (N := fun (s1 : Int × (List hedge_sized)) => ⟨[(2, .ptr 1 0), (3, .ptr 2 0)], [.cells [.p (iv a0.Label), .p (.sl none 2 (List.map row_Node a0.Kids))], .cells [.p (iv 0), .p (iv 0), .own 3 []], .cells [.p (iv a0.Label), .p (iv s1.1), .own 3 (List.map row_hedge_sized s1.2)]], [], none, false⟩) h rfl rfl (fun _ _ => rfl) ?_ ?_ ?_
    · intro s1 h
      try dsimp only at h ⊢
      simp only [go_sem]
      injection h with h; subst h
      exact Sat.ok hQ
    · intro K1 s1 hb1 he1
      try dsimp only
      conv => arg 1; arg 7; unfold L49_0 loopAt c49 Try.f49; simp only [loopIn, Option.getD_some, if_true]
      simp only [go_sem, he1]
      exact hb1
    · intro K1 k1 i1 x1 s1 n1 hR1 hE1 hb1 hx1 hi1 hw1 ih1 h
      try dsimp only at h ⊢
      conv => arg 1; arg 7; unfold L49_0 loopAt c49 Try.f49; simp only [loopIn, Option.getD_some, if_true]
      obtain ⟨v1, e_v1, h⟩ := ob h
      have e_v1c : call Try.prog T H (.fn 49) [.p (.agg [iv x1.Label, .sl none 2 (List.map row_Node x1.Kids)])] [] = some (.ret (.p (.agg [iv v1.label, iv v1.size, .sl none 3 (List.map row_hedge_sized v1.kids)])), []) := ih x1 v1 e_v1
      obtain ⟨v2, e_v2, h⟩ := ob h
      have e_v2a : boundOk (s1.2.length + 1) 40 = true := bnd_of (by have := (app_some e_v2).1; simpa using this) (by decide)
      have e_v2b : (List.map row_hedge_sized s1.2) ++ [[iv v1.label, iv v1.size, .sl none 3 (List.map row_hedge_sized v1.kids)]] = List.map row_hedge_sized v2 := by rw [(app_some e_v2).2]; simp [row_hedge_sized_eq]
      simp only [go_sem, hx1, hi1, hw1, e_v1c, e_v2a, e_v2b, hR1, hE1]
      exact ih1 _ h

def hedge_Compare (n : Nat) (a0 : Node) (a1 : Node) : Option Int :=
  (hedge_measure n a0).bind fun v1 =>
  (hedge_measure n a1).bind fun v2 =>
  (hedge_compare n v1 v2).bind fun v3 =>
  some v3
theorem spec22 (n : Nat) (a0 : Node) (a1 : Node) (r : Int) (h : hedge_Compare n a0 a1 = some r) :
    call Try.prog T H (.fn 22) [.p (.agg [iv a0.Label, .sl none 2 (List.map row_Node a0.Kids)]), .p (.agg [iv a1.Label, .sl none 2 (List.map row_Node a1.Kids)])] [] = some (.ret (.p (iv r)), []) := by
  refine Sat.fn fun Q hQ => ?_
  unfold hedge_Compare at h
  rw [call22]
  conv => arg 1; arg 7; unfold c22 Try.f22; simp only [Option.getD_some]
  obtain ⟨v1, e_v1, h⟩ := ob h
  have e_v1c : call Try.prog T H (.fn 49) [.p (.agg [iv a0.Label, .sl none 2 (List.map row_Node a0.Kids)])] [] = some (.ret (.p (.agg [iv v1.label, iv v1.size, .sl none 3 (List.map row_hedge_sized v1.kids)])), []) := spec49 n a0 v1 e_v1
  obtain ⟨v2, e_v2, h⟩ := ob h
  have e_v2c : call Try.prog T H (.fn 49) [.p (.agg [iv a1.Label, .sl none 2 (List.map row_Node a1.Kids)])] [] = some (.ret (.p (.agg [iv v2.label, iv v2.size, .sl none 3 (List.map row_hedge_sized v2.kids)])), []) := spec49 n a1 v2 e_v2
  obtain ⟨v3, e_v3, h⟩ := ob h
  have e_v3c : call Try.prog T H (.fn 48) [.p (.agg [iv v1.label, iv v1.size, .sl none 3 (List.map row_hedge_sized v1.kids)]), .p (.agg [iv v2.label, iv v2.size, .sl none 3 (List.map row_hedge_sized v2.kids)])] [] = some (.ret (.p (iv v3)), []) := spec48 n v1 v2 v3 e_v3
  simp only [go_sem, e_v1c, e_v2c, e_v3c]
  injection h with h; subst h
  exact Sat.ok hQ

def ref01_List (a0 : List Int) (a1 : List Int) : Option Bool :=
  if (a0.length : Int) = (a1.length : Int) then
    rangeL a0 () (fun k1 i1 x1 (s1 : Unit) n1 =>
      (a1[i1]?).bind fun v1 =>
      if x1 = v1 then
        n1 ()
      else
        some false) fun s1 =>
    some true
  else
    some false
theorem spec27 (a0 : List Int) (a1 : List Int) (r : Bool) (h : ref01_List a0 a1 = some r) :
    call Try.prog T H (.fn 27) [.p (.sl none 1 (List.map rowI a0)), .p (.sl none 1 (List.map rowI a1))] [] = some (.ret (.p (bv r)), []) := by
  refine Sat.fn fun Q hQ => ?_
  unfold ref01_List at h
  rw [call27]
  conv => arg 1; arg 7; unfold c27 Try.f27; simp only [Option.getD_some]
  by_cases c1 : (a0.length : Int) = (a1.length : Int)
  · have h := iteT h c1
    have c1b : ((a0.length : Int) != (a1.length : Int)) = false := bneF c1
    simp only [go_sem, c1b]
    refine run_rangeL (c := L27_0) (live := [0, 1, 12, 13]) (by simp only [go_sem]) (M := fun i1 (s1 : Unit) => [(0, .p (.sl none 1 (List.map rowI a0))), (1, .p (.sl none 1 (List.map rowI a1))), (12, .p (iv (a0.length : Int))), (13, .p (iv (i1 : Int)))]) (Z := fun i1 (s1 : Unit) => []) (N := fun (s1 : Unit) => ⟨[], [], [], none, false⟩) h rfl rfl (fun _ _ => rfl) ?_ ?_ ?_
    · intro s1 h
      try dsimp only at h ⊢
      simp only [go_sem]
      injection h with h; subst h
      exact Sat.ok hQ
    · intro K1 s1 hb1 he1
      try dsimp only
      conv => arg 1; arg 7; unfold L27_0 loopAt c27 Try.f27; simp only [loopIn, Option.getD_some, if_true]
      simp only [go_sem, he1]
      exact hb1
    · intro K1 k1 i1 x1 s1 n1 hR1 hE1 hb1 hx1 hi1 hw1 ih1 h
      try dsimp only at h ⊢
      conv => arg 1; arg 7; unfold L27_0 loopAt c27 Try.f27; simp only [loopIn, Option.getD_some, if_true]
      obtain ⟨v1, e_v1, h⟩ := ob h
      by_cases c2 : x1 = v1
      · have h := iteT h c2
        have c2b : (x1 != v1) = false := bneF c2
        simp only [go_sem, hx1, hi1, hw1, e_v1, c2b, hR1, hE1]
        exact ih1 _ h
      · have h := iteF h c2
        have c2b : (x1 != v1) = true := bneT c2
        simp only [go_sem, hx1, hi1, hw1, e_v1, c2b, hR1, hE1]
        injection h with h; subst h
        exact Sat.ok hQ
  · have h := iteF h c1
    have c1b : ((a0.length : Int) != (a1.length : Int)) = true := bneT c1
    simp only [go_sem, c1b]
    injection h with h; subst h
    exact Sat.ok hQ

def ref02_order (a0 : Int) (a1 : Int) : Option Int :=
  if a0 < a1 then
    some (-1)
  else
    if a1 < a0 then
      some 1
    else
      some 0
theorem spec52 (a0 : Int) (a1 : Int) (r : Int) (h : ref02_order a0 a1 = some r) :
    call Try.prog T H (.fn 52) [.p (iv a0), .p (iv a1)] [] = some (.ret (.p (iv r)), []) := by
  refine Sat.fn fun Q hQ => ?_
  unfold ref02_order at h
  rw [call52]
  conv => arg 1; arg 7; unfold c52 Try.f52; simp only [Option.getD_some]
  by_cases c1 : a0 < a1
  · have h := iteT h c1
    simp only [go_sem, c1]
    injection h with h; subst h
    exact Sat.ok hQ
  · have h := iteF h c1
    by_cases c2 : a1 < a0
    · have h := iteT h c2
      simp only [go_sem, c1, c2]
      injection h with h; subst h
      exact Sat.ok hQ
    · have h := iteF h c2
      simp only [go_sem, c1, c2]
      injection h with h; subst h
      exact Sat.ok hQ

def ref02_Compare : Nat → Node → Node → Option Int
  | 0, _, _ => none
  | n + 1, a0, a1 =>
    (ref02_Size n a0.Kids).bind fun v1 =>
    (ref02_Size n a1.Kids).bind fun v2 =>
    (ref02_order v1 v2).bind fun v3 =>
    if v3 = 0 then
      (ref02_order a0.Label a1.Label).bind fun v4 =>
      if v4 = 0 then
        rangeI (minI (a0.Kids.length : Int) (a1.Kids.length : Int)) () (fun k1 i1 (s1 : Unit) n1 =>
          (a0.Kids[i1]?).bind fun v6 =>
          (a1.Kids[i1]?).bind fun v7 =>
          (ref02_Compare n v6 v7).bind fun v8 =>
          if v8 = 0 then
            n1 ()
          else
            some v8) fun s1 =>
        (ref02_order (a0.Kids.length : Int) (a1.Kids.length : Int)).bind fun v5 =>
        some v5
      else
        some v4
    else
      some v3
theorem spec30 : ∀ (n : Nat), (∀ (a0 : Node) (a1 : Node) (r : Int), ref02_Compare n a0 a1 = some r →
    call Try.prog T H (.fn 30) [.p (.agg [iv a0.Label, .sl none 2 (List.map row_Node a0.Kids)]), .p (.agg [iv a1.Label, .sl none 2 (List.map row_Node a1.Kids)])] [] = some (.ret (.p (iv r)), [])) := by
  intro n
  induction n with
  | zero => intro a0 a1 r h; cases h
  | succ n ih =>
    intro a0 a1 r h
    refine Sat.fn fun Q hQ => ?_
    rw [ref02_Compare] at h
    rw [call30]
    conv => arg 1; arg 7; unfold c30 Try.f30; simp only [Option.getD_some]
    obtain ⟨v1, e_v1, h⟩ := ob h
    have e_v1c : call Try.prog T H (.fn 29) [.p (.sl none 2 (List.map row_Node a0.Kids))] [] = some (.ret (.p (iv v1)), []) := spec29 n a0.Kids v1 e_v1
    obtain ⟨v2, e_v2, h⟩ := ob h
    have e_v2c : call Try.prog T H (.fn 29) [.p (.sl none 2 (List.map row_Node a1.Kids))] [] = some (.ret (.p (iv v2)), []) := spec29 n a1.Kids v2 e_v2
    obtain ⟨v3, e_v3, h⟩ := ob h
    have e_v3c : call Try.prog T H (.fn 52) [.p (iv v1), .p (iv v2)] [] = some (.ret (.p (iv v3)), []) := spec52 v1 v2 v3 e_v3
    by_cases c1 : v3 = 0
    · have h := iteT h c1
      have c1b : (v3 != 0) = false := bneF c1
      obtain ⟨v4, e_v4, h⟩ := ob h
      have e_v4c : call Try.prog T H (.fn 52) [.p (iv a0.Label), .p (iv a1.Label)] [] = some (.ret (.p (iv v4)), []) := spec52 a0.Label a1.Label v4 e_v4
      by_cases c2 : v4 = 0
      · have h := iteT h c2
        have c2b : (v4 != 0) = false := bneF c2
        simp only [go_sem, e_v1c, e_v2c, e_v3c, c1b, e_v4c, c2b]
        refine run_rangeI (c := L30_0) (live := [2, 3, 33, 34]) (by simp only [go_sem]) (M := fun i1 (s1 : Unit) => [(2, .ptr 0 0), (3, .ptr 1 0), (33, .p (iv (minI (a0.Kids.length : Int) (a1.Kids.length : Int)))), (34, .p (iv (i1 : Int)))]) (Z := fun i1 (s1 : Unit) => [.cells [.p (iv a0.Label), .p (.sl none 2 (List.map row_Node a0.Kids))], .cells [.p (iv a1.Label), .p (.sl none 2 (List.map row_Node a1.Kids))]]) (N := fun (s1 : Unit) => ⟨[(2, .ptr 0 0), (3, .ptr 1 0)], [.cells [.p (iv a0.Label), .p (.sl none 2 (List.map row_Node a0.Kids))], .cells [.p (iv a1.Label), .p (.sl none 2 (List.map row_Node a1.Kids))]], [], none, false⟩) h rfl rfl (fun _ _ => rfl) ?_ ?_ ?_
        · intro s1 h
          try dsimp only at h ⊢
          obtain ⟨v5, e_v5, h⟩ := ob h
          have e_v5c : call Try.prog T H (.fn 52) [.p (iv (a0.Kids.length : Int)), .p (iv (a1.Kids.length : Int))] [] = some (.ret (.p (iv v5)), []) := spec52 (a0.Kids.length : Int) (a1.Kids.length : Int) v5 e_v5
          simp only [go_sem, e_v5c]
          injection h with h; subst h
          exact Sat.ok hQ
        · intro K1 i1 s1 hb1 he1
          try dsimp only
          conv => arg 1; arg 7; unfold L30_0 loopAt c30 Try.f30; simp only [loopIn, Option.getD_some, if_true]
          simp only [go_sem, he1]
          exact hb1
        · intro K1 k1 i1 s1 n1 hR1 hE1 hb1 hi1 hw1 ih1 h
          try dsimp only at h ⊢
          conv => arg 1; arg 7; unfold L30_0 loopAt c30 Try.f30; simp only [loopIn, Option.getD_some, if_true]
          obtain ⟨v6, e_v6, h⟩ := ob h
          obtain ⟨v7, e_v7, h⟩ := ob h
          obtain ⟨v8, e_v8, h⟩ := ob h
          have e_v8c : call Try.prog T H (.fn 30) [.p (.agg [iv v6.Label, .sl none 2 (List.map row_Node v6.Kids)]), .p (.agg [iv v7.Label, .sl none 2 (List.map row_Node v7.Kids)])] [] = some (.ret (.p (iv v8)), []) := ih v6 v7 v8 e_v8
          by_cases c3 : v8 = 0
          · have h := iteT h c3
            have c3b : (v8 != 0) = false := bneF c3
            simp only [go_sem, hi1, hw1, e_v6, e_v7, e_v8c, c3b, hR1, hE1]
            exact ih1 _ h
          · have h := iteF h c3
            have c3b : (v8 != 0) = true := bneT c3
            simp only [go_sem, hi1, hw1, e_v6, e_v7, e_v8c, c3b, hR1, hE1]
            injection h with h; subst h
            exact Sat.ok hQ
      · have h := iteF h c2
        have c2b : (v4 != 0) = true := bneT c2
        simp only [go_sem, e_v1c, e_v2c, e_v3c, c1b, e_v4c, c2b]
        injection h with h; subst h
        exact Sat.ok hQ
    · have h := iteF h c1
      have c1b : (v3 != 0) = true := bneT c1
      simp only [go_sem, e_v1c, e_v2c, e_v3c, c1b]
      injection h with h; subst h
      exact Sat.ok hQ

def tree_letter (a0 : Int) : Option Bool :=
  if 97 ≤ a0 then
    if a0 ≤ 122 then
      some true
    else
      if 65 ≤ a0 then
        some (decide (a0 ≤ 90))
      else
        some false
  else
    if 65 ≤ a0 then
      some (decide (a0 ≤ 90))
    else
      some false
theorem spec83 (a0 : Int) (r : Bool) (h : tree_letter a0 = some r) :
    call Try.prog T H (.fn 83) [.p (.lit (.int .u8 a0))] [] = some (.ret (.p (bv r)), []) := by
  refine Sat.fn fun Q hQ => ?_
  unfold tree_letter at h
  rw [call83]
  conv => arg 1; arg 7; unfold c83 Try.f83; simp only [Option.getD_some]
  by_cases c1 : 97 ≤ a0
  · have h := iteT h c1
    by_cases c2 : a0 ≤ 122
    · have h := iteT h c2
      simp only [go_sem, c1, c2]
      injection h with h; subst h
      exact Sat.ok hQ
    · have h := iteF h c2
      by_cases c3 : 65 ≤ a0
      · have h := iteT h c3
        simp only [go_sem, c1, c2, c3]
        injection h with h; subst h
        exact Sat.ok hQ
      · have h := iteF h c3
        simp only [go_sem, c1, c2, c3]
        injection h with h; subst h
        exact Sat.ok hQ
  · have h := iteF h c1
    by_cases c4 : 65 ≤ a0
    · have h := iteT h c4
      simp only [go_sem, c1, c4]
      injection h with h; subst h
      exact Sat.ok hQ
    · have h := iteF h c4
      simp only [go_sem, c1, c4]
      injection h with h; subst h
      exact Sat.ok hQ

def tree_digit (a0 : Int) : Option Bool :=
  if 48 ≤ a0 then
    some (decide (a0 ≤ 57))
  else
    some false
theorem spec84 (a0 : Int) (r : Bool) (h : tree_digit a0 = some r) :
    call Try.prog T H (.fn 84) [.p (.lit (.int .u8 a0))] [] = some (.ret (.p (bv r)), []) := by
  refine Sat.fn fun Q hQ => ?_
  unfold tree_digit at h
  rw [call84]
  conv => arg 1; arg 7; unfold c84 Try.f84; simp only [Option.getD_some]
  by_cases c1 : 48 ≤ a0
  · have h := iteT h c1
    simp only [go_sem, c1]
    injection h with h; subst h
    exact Sat.ok hQ
  · have h := iteF h c1
    simp only [go_sem, c1]
    injection h with h; subst h
    exact Sat.ok hQ

def tree_Name (a0 : Str) : Option Bool :=
  if a0 = ([] : Str) then
    some false
  else
    if 12 < (a0.length : Int) then
      some false
    else
      (a0[0]?).bind fun v1 =>
      (tree_letter (v1.toNat : Int)).bind fun v2 =>
      if v2 = true then
        rangeI (a0.length : Int) () (fun k1 i1 (s1 : Unit) n1 =>
          (a0[i1]?).bind fun v3 =>
          (tree_letter (v3.toNat : Int)).bind fun v4 =>
          if v4 = true then
            n1 ()
          else
            (tree_digit (v3.toNat : Int)).bind fun v5 =>
            if v5 = true then
              n1 ()
            else
              some false) fun s1 =>
        some true
      else
        some false
theorem spec70 (a0 : Str) (r : Bool) (h : tree_Name a0 = some r) :
    call Try.prog T H (.fn 70) [.p (.lit (.string (bs a0)))] [] = some (.ret (.p (bv r)), []) := by
  refine Sat.fn fun Q hQ => ?_
  unfold tree_Name at h
  rw [call70]
  conv => arg 1; arg 7; unfold c70 Try.f70; simp only [Option.getD_some]
  by_cases c1 : a0 = ([] : Str)
  · have h := iteT h c1
    have c1b : (a0 == ([] : Str)) = true := beqT c1
    simp only [go_sem, c1b]
    injection h with h; subst h
    exact Sat.ok hQ
  · have h := iteF h c1
    have c1b : (a0 == ([] : Str)) = false := beqF c1
    by_cases c2 : 12 < (a0.length : Int)
    · have h := iteT h c2
      simp only [go_sem, c1b, c2]
      injection h with h; subst h
      exact Sat.ok hQ
    · have h := iteF h c2
      obtain ⟨v1, e_v1, h⟩ := ob h
      obtain ⟨v2, e_v2, h⟩ := ob h
      have e_v2c : call Try.prog T H (.fn 83) [.p (.lit (.int .u8 (v1.toNat : Int)))] [] = some (.ret (.p (bv v2)), []) := spec83 (v1.toNat : Int) v2 e_v2
      by_cases c3 : v2 = true
      · have h := iteT h c3
        simp only [go_sem, c1b, c2, e_v1, e_v2c, c3]
        refine run_rangeI (c := L70_0) (live := [0, 18, 19]) (by simp only [go_sem]) (M := fun i1 (s1 : Unit) => [(0, .p (.lit (.string (bs a0)))), (18, .p (iv (a0.length : Int))), (19, .p (iv (i1 : Int)))]) (Z := fun i1 (s1 : Unit) => []) (N := fun (s1 : Unit) => ⟨[], [], [], none, false⟩) h rfl rfl (fun _ _ => rfl) ?_ ?_ ?_
        · intro s1 h
          try dsimp only at h ⊢
          simp only [go_sem]
          injection h with h; subst h
          exact Sat.ok hQ
        · intro K1 i1 s1 hb1 he1
          try dsimp only
          conv => arg 1; arg 7; unfold L70_0 loopAt c70 Try.f70; simp only [loopIn, Option.getD_some, if_true]
          simp only [go_sem, he1]
          exact hb1
        · intro K1 k1 i1 s1 n1 hR1 hE1 hb1 hi1 hw1 ih1 h
          try dsimp only at h ⊢
          conv => arg 1; arg 7; unfold L70_0 loopAt c70 Try.f70; simp only [loopIn, Option.getD_some, if_true]
          obtain ⟨v3, e_v3, h⟩ := ob h
          obtain ⟨v4, e_v4, h⟩ := ob h
          have e_v4c : call Try.prog T H (.fn 83) [.p (.lit (.int .u8 (v3.toNat : Int)))] [] = some (.ret (.p (bv v4)), []) := spec83 (v3.toNat : Int) v4 e_v4
          by_cases c4 : v4 = true
          · have h := iteT h c4
            simp only [go_sem, hi1, hw1, e_v3, e_v4c, c4, hR1, hE1]
            exact ih1 _ h
          · have h := iteF h c4
            have c4 := eq_false_of_ne_true c4
            obtain ⟨v5, e_v5, h⟩ := ob h
            have e_v5c : call Try.prog T H (.fn 84) [.p (.lit (.int .u8 (v3.toNat : Int)))] [] = some (.ret (.p (bv v5)), []) := spec84 (v3.toNat : Int) v5 e_v5
            by_cases c5 : v5 = true
            · have h := iteT h c5
              simp only [go_sem, hi1, hw1, e_v3, e_v4c, c4, e_v5c, c5, hR1, hE1]
              exact ih1 _ h
            · have h := iteF h c5
              have c5 := eq_false_of_ne_true c5
              simp only [go_sem, hi1, hw1, e_v3, e_v4c, c4, e_v5c, c5, hR1, hE1]
              injection h with h; subst h
              exact Sat.ok hQ
      · have h := iteF h c3
        have c3 := eq_false_of_ne_true c3
        simp only [go_sem, c1b, c2, e_v1, e_v2c, c3]
        injection h with h; subst h
        exact Sat.ok hQ

def slices_Index_Lstring_string (a0 : List Str) (a1 : Str) : Option Int :=
  rangeL a0 () (fun k1 i1 x1 (s1 : Unit) n1 =>
    if a1 = x1 then
      some (i1 : Int)
    else
      n1 ()) fun s1 =>
  some (-1)
theorem spec85 (a0 : List Str) (a1 : Str) (r : Int) (h : slices_Index_Lstring_string a0 a1 = some r) :
    call Try.prog T H (.fn 85) [.p (.sl none 1 (List.map rowS a0)), .p (.lit (.string (bs a1)))] [] = some (.ret (.p (iv r)), []) := by
  refine Sat.fn fun Q hQ => ?_
  unfold slices_Index_Lstring_string at h
  rw [call85]
  conv => arg 1; arg 7; unfold c85 Try.f85; simp only [Option.getD_some]
  simp only [go_sem]
  refine run_rangeL (c := L85_0) (live := [0, 1, 7, 8]) (by simp only [go_sem]) (M := fun i1 (s1 : Unit) => [(0, .p (.sl none 1 (List.map rowS a0))), (1, .p (.lit (.string (bs a1)))), (7, .p (iv (a0.length : Int))), (8, .p (iv (i1 : Int)))]) (Z := fun i1 (s1 : Unit) => []) (N := fun (s1 : Unit) => ⟨[], [], [], none, false⟩) h rfl rfl (fun _ _ => rfl) ?_ ?_ ?_
  · intro s1 h
    try dsimp only at h ⊢
    simp only [go_sem]
    injection h with h; subst h
    exact Sat.ok hQ
  · intro K1 s1 hb1 he1
    try dsimp only
    conv => arg 1; arg 7; unfold L85_0 loopAt c85 Try.f85; simp only [loopIn, Option.getD_some, if_true]
    simp only [go_sem, he1]
    exact hb1
  · intro K1 k1 i1 x1 s1 n1 hR1 hE1 hb1 hx1 hi1 hw1 ih1 h
    try dsimp only at h ⊢
    conv => arg 1; arg 7; unfold L85_0 loopAt c85 Try.f85; simp only [loopIn, Option.getD_some, if_true]
    by_cases c1 : a1 = x1
    · have h := iteT h c1
      have c1b : (a1 == x1) = true := beqT c1
      simp only [go_sem, hx1, hi1, hw1, c1b, hR1, hE1]
      injection h with h; subst h
      exact Sat.ok hQ
    · have h := iteF h c1
      have c1b : (a1 == x1) = false := beqF c1
      simp only [go_sem, hx1, hi1, hw1, c1b, hR1, hE1]
      exact ih1 _ h

def slices_Contains_Lstring_string (a0 : List Str) (a1 : Str) : Option Bool :=
  (slices_Index_Lstring_string a0 a1).bind fun v1 =>
  some (decide (0 ≤ v1))
theorem spec71 (a0 : List Str) (a1 : Str) (r : Bool) (h : slices_Contains_Lstring_string a0 a1 = some r) :
    call Try.prog T H (.fn 71) [.p (.sl none 1 (List.map rowS a0)), .p (.lit (.string (bs a1)))] [] = some (.ret (.p (bv r)), []) := by
  refine Sat.fn fun Q hQ => ?_
  unfold slices_Contains_Lstring_string at h
  rw [call71]
  conv => arg 1; arg 7; unfold c71 Try.f71; simp only [Option.getD_some]
  obtain ⟨v1, e_v1, h⟩ := ob h
  have e_v1c : call Try.prog T H (.fn 85) [.p (.sl none 1 (List.map rowS a0)), .p (.lit (.string (bs a1)))] [] = some (.ret (.p (iv v1)), []) := spec85 a0 a1 v1 e_v1
  simp only [go_sem, e_v1c]
  injection h with h; subst h
  exact Sat.ok hQ

def tree_Names (a0 : List Str) (a1 : Int) : Option Bool :=
  if (a0.length : Int) = a1 then
    rangeL a0 () (fun k1 i1 x1 (s1 : Unit) n1 =>
      (tree_Name x1).bind fun v1 =>
      if v1 = true then
        (slcT a0 (i1 : Int)).bind fun v2 =>
        (slices_Contains_Lstring_string v2 x1).bind fun v3 =>
        if v3 = true then
          some false
        else
          n1 ()
      else
        some false) fun s1 =>
    some true
  else
    some false
theorem spec53 (a0 : List Str) (a1 : Int) (r : Bool) (h : tree_Names a0 a1 = some r) :
    call Try.prog T H (.fn 53) [.p (.sl none 1 (List.map rowS a0)), .p (iv a1)] [] = some (.ret (.p (bv r)), []) := by
  refine Sat.fn fun Q hQ => ?_
  unfold tree_Names at h
  rw [call53]
  conv => arg 1; arg 7; unfold c53 Try.f53; simp only [Option.getD_some]
  by_cases c1 : (a0.length : Int) = a1
  · have h := iteT h c1
    have c1b : ((a0.length : Int) != a1) = false := bneF c1
    simp only [go_sem, c1b]
    refine run_rangeL (c := L53_0) (live := [0, 11, 12, 13]) (by simp only [go_sem]) (M := fun i1 (s1 : Unit) => [(0, .p (.sl none 1 (List.map rowS a0))), (11, .p (.sl none 1 (List.map rowS a0))), (12, .p (iv (a0.length : Int))), (13, .p (iv (i1 : Int)))]) (Z := fun i1 (s1 : Unit) => []) (N := fun (s1 : Unit) => ⟨[], [], [], none, false⟩) h rfl rfl (fun _ _ => rfl) ?_ ?_ ?_
    · intro s1 h
      try dsimp only at h ⊢
      simp only [go_sem]
      injection h with h; subst h
      exact Sat.ok hQ
    · intro K1 s1 hb1 he1
      try dsimp only
      conv => arg 1; arg 7; unfold L53_0 loopAt c53 Try.f53; simp only [loopIn, Option.getD_some, if_true]
      simp only [go_sem, he1]
      exact hb1
    · intro K1 k1 i1 x1 s1 n1 hR1 hE1 hb1 hx1 hi1 hw1 ih1 h
      try dsimp only at h ⊢
      conv => arg 1; arg 7; unfold L53_0 loopAt c53 Try.f53; simp only [loopIn, Option.getD_some, if_true]
      obtain ⟨v1, e_v1, h⟩ := ob h
      have e_v1c : call Try.prog T H (.fn 70) [.p (.lit (.string (bs x1)))] [] = some (.ret (.p (bv v1)), []) := spec70 x1 v1 e_v1
      by_cases c2 : v1 = true
      · have h := iteT h c2
        obtain ⟨v2, e_v2, h⟩ := ob h
        obtain ⟨e_v21, e_v22, e_v23, e_v24⟩ := slcT_some e_v2
        try simp only [Int.toNat_natCast] at e_v21
        try simp only [Int.toNat_natCast] at e_v23
        try simp only [Int.toNat_natCast] at e_v24
        obtain ⟨v3, e_v3, h⟩ := ob h
        have e_v3c : call Try.prog T H (.fn 71) [.p (.sl none 1 (List.map rowS v2)), .p (.lit (.string (bs x1)))] [] = some (.ret (.p (bv v3)), []) := spec71 v2 x1 v3 e_v3
        by_cases c3 : v3 = true
        · have h := iteT h c3
          simp only [go_sem, hx1, hi1, hw1, e_v1c, c2, e_v21, e_v23, ← e_v24, e_v3c, c3, hR1, hE1]
          injection h with h; subst h
          exact Sat.ok hQ
        · have h := iteF h c3
          have c3 := eq_false_of_ne_true c3
          simp only [go_sem, hx1, hi1, hw1, e_v1c, c2, e_v21, e_v23, ← e_v24, e_v3c, c3, hR1, hE1]
          exact ih1 _ h
      · have h := iteF h c2
        have c2 := eq_false_of_ne_true c2
        simp only [go_sem, hx1, hi1, hw1, e_v1c, c2, hR1, hE1]
        injection h with h; subst h
        exact Sat.ok hQ
  · have h := iteF h c1
    have c1b : ((a0.length : Int) != a1) = true := bneT c1
    simp only [go_sem, c1b]
    injection h with h; subst h
    exact Sat.ok hQ

def hedge_write : Nat → (List Int) → (List Str) → (List Node) → Option (List Int)
  | 0, _, _, _ => none
  | n + 1, a0, a1, a2 =>
    rangeL a2 a0 (fun k1 i1 x1 (s1 : (List Int)) n1 =>
      if 0 < (i1 : Int) then
        (app 1 s1 [32]).bind fun v1 =>
        (idx a1 x1.Label).bind fun v2 =>
        (app 1 v1 (ofStr v2)).bind fun v3 =>
        if 0 < (x1.Kids.length : Int) then
          (app 1 v3 [40]).bind fun v4 =>
          (hedge_write n v4 a1 x1.Kids).bind fun v5 =>
          (app 1 v5 [41]).bind fun v6 =>
          n1 v6
        else
          n1 v3
      else
        (idx a1 x1.Label).bind fun v7 =>
        (app 1 s1 (ofStr v7)).bind fun v8 =>
        if 0 < (x1.Kids.length : Int) then
          (app 1 v8 [40]).bind fun v9 =>
          (hedge_write n v9 a1 x1.Kids).bind fun v10 =>
          (app 1 v10 [41]).bind fun v11 =>
          n1 v11
        else
          n1 v8) fun s1 =>
    some s1
theorem spec54 : ∀ (n : Nat), (∀ (a0 : List Int) (a1 : List Str) (a2 : List Node) (r : List Int), hedge_write n a0 a1 a2 = some r →
    call Try.prog T H (.fn 54) [.own 1 (List.map rowU8 a0), .p (.sl none 1 (List.map rowS a1)), .p (.sl none 2 (List.map row_Node a2))] [] = some (.ret (.own 1 (List.map rowU8 r)), [])) := by
  intro n
  induction n with
  | zero => intro a0 a1 a2 r h; cases h
  | succ n ih =>
    intro a0 a1 a2 r h
    refine Sat.fn fun Q hQ => ?_
    rw [hedge_write] at h
    rw [call54]
    conv => arg 1; arg 7; unfold c54 Try.f54; simp only [Option.getD_some]
    simp only [go_sem]
    refine run_rangeL (c := L54_0) (live := [0, 1, 9, 10, 11]) (by simp only [go_sem]) (M := fun i1 (s1 : (List Int)) => [(0, .own 1 (List.map rowU8 s1)), (1, .p (.sl none 1 (List.map rowS a1))), (9, .p (.sl none 2 (List.map row_Node a2))), (10, .p (iv (a2.length : Int))), (11, .p (iv (i1 : Int)))]) (Z := fun i1 (s1 : (List Int)) => []) (N := fun (s1 : (List Int)) => ⟨[(0, .own 1 (List.map rowU8 s1))], [], [], none, false⟩) h rfl rfl (fun _ _ => rfl) ?_ ?_ ?_
    · intro s1 h
      try dsimp only at h ⊢
      simp only [go_sem]
      injection h with h; subst h
      exact Sat.ok hQ
    · intro K1 s1 hb1 he1
      try dsimp only
      conv => arg 1; arg 7; unfold L54_0 loopAt c54 Try.f54; simp only [loopIn, Option.getD_some, if_true]
      simp only [go_sem, he1]
      exact hb1
    · intro K1 k1 i1 x1 s1 n1 hR1 hE1 hb1 hx1 hi1 hw1 ih1 h
      try dsimp only at h ⊢
      conv => arg 1; arg 7; unfold L54_0 loopAt c54 Try.f54; simp only [loopIn, Option.getD_some, if_true]
      by_cases c1 : 0 < (i1 : Int)
      · have h := iteT h c1
        obtain ⟨v1, e_v1, h⟩ := ob h
        have e_v1a : boundOk (s1.length + 1) 1 = true := bnd_of (by have := (app_some e_v1).1; simpa using this) (by decide)
        have e_v1b : (List.map rowU8 s1) ++ [[.lit (.int .u8 32)]] = List.map rowU8 v1 := by rw [(app_some e_v1).2]; simp [rowU8]
        obtain ⟨v2, e_v2, h⟩ := ob h
        obtain ⟨e_v2a, e_v2b⟩ := idx_some e_v2
        obtain ⟨v3, e_v3, h⟩ := ob h
        have e_v3a : boundOk (v1.length + (ofStr v2).length) 1 = true := bnd_of (by have := (app_some e_v3).1; simpa using this) (by decide)
        have e_v3b : (List.map rowU8 v1) ++ (List.map rowU8 (ofStr v2)) = List.map rowU8 v3 := by rw [(app_some e_v3).2]; simp [rowU8]
        have e_v3b : List.map rowU8 (v1 ++ (ofStr v2)) = List.map rowU8 v3 := by rw [(app_some e_v3).2]
        by_cases c2 : 0 < (x1.Kids.length : Int)
        · have h := iteT h c2
          obtain ⟨v4, e_v4, h⟩ := ob h
          have e_v4a : boundOk (v3.length + 1) 1 = true := bnd_of (by have := (app_some e_v4).1; simpa using this) (by decide)
          have e_v4b : (List.map rowU8 v3) ++ [[.lit (.int .u8 40)]] = List.map rowU8 v4 := by rw [(app_some e_v4).2]; simp [rowU8]
          obtain ⟨v5, e_v5, h⟩ := ob h
          have e_v5c : call Try.prog T H (.fn 54) [.own 1 (List.map rowU8 v4), .p (.sl none 1 (List.map rowS a1)), .p (.sl none 2 (List.map row_Node x1.Kids))] [] = some (.ret (.own 1 (List.map rowU8 v5)), []) := ih v4 a1 x1.Kids v5 e_v5
          obtain ⟨v6, e_v6, h⟩ := ob h
          have e_v6a : boundOk (v5.length + 1) 1 = true := bnd_of (by have := (app_some e_v6).1; simpa using this) (by decide)
          have e_v6b : (List.map rowU8 v5) ++ [[.lit (.int .u8 41)]] = List.map rowU8 v6 := by rw [(app_some e_v6).2]; simp [rowU8]
          simp only [go_sem, hx1, hi1, hw1, c1, e_v1a, e_v1b, e_v2a, e_v2b, e_v3a, e_v3b, c2, e_v4a, e_v4b, e_v5c, e_v6a, e_v6b, hR1, hE1]
          exact ih1 _ h
        · have h := iteF h c2
          simp only [go_sem, hx1, hi1, hw1, c1, e_v1a, e_v1b, e_v2a, e_v2b, e_v3a, e_v3b, c2, hR1, hE1]
          exact ih1 _ h
      · have h := iteF h c1
        obtain ⟨v7, e_v7, h⟩ := ob h
        obtain ⟨e_v7a, e_v7b⟩ := idx_some e_v7
        obtain ⟨v8, e_v8, h⟩ := ob h
        have e_v8a : boundOk (s1.length + (ofStr v7).length) 1 = true := bnd_of (by have := (app_some e_v8).1; simpa using this) (by decide)
        have e_v8b : (List.map rowU8 s1) ++ (List.map rowU8 (ofStr v7)) = List.map rowU8 v8 := by rw [(app_some e_v8).2]; simp [rowU8]
        have e_v8b : List.map rowU8 (s1 ++ (ofStr v7)) = List.map rowU8 v8 := by rw [(app_some e_v8).2]
        by_cases c3 : 0 < (x1.Kids.length : Int)
        · have h := iteT h c3
          obtain ⟨v9, e_v9, h⟩ := ob h
          have e_v9a : boundOk (v8.length + 1) 1 = true := bnd_of (by have := (app_some e_v9).1; simpa using this) (by decide)
          have e_v9b : (List.map rowU8 v8) ++ [[.lit (.int .u8 40)]] = List.map rowU8 v9 := by rw [(app_some e_v9).2]; simp [rowU8]
          obtain ⟨v10, e_v10, h⟩ := ob h
          have e_v10c : call Try.prog T H (.fn 54) [.own 1 (List.map rowU8 v9), .p (.sl none 1 (List.map rowS a1)), .p (.sl none 2 (List.map row_Node x1.Kids))] [] = some (.ret (.own 1 (List.map rowU8 v10)), []) := ih v9 a1 x1.Kids v10 e_v10
          obtain ⟨v11, e_v11, h⟩ := ob h
          have e_v11a : boundOk (v10.length + 1) 1 = true := bnd_of (by have := (app_some e_v11).1; simpa using this) (by decide)
          have e_v11b : (List.map rowU8 v10) ++ [[.lit (.int .u8 41)]] = List.map rowU8 v11 := by rw [(app_some e_v11).2]; simp [rowU8]
          simp only [go_sem, hx1, hi1, hw1, c1, e_v7a, e_v7b, e_v8a, e_v8b, c3, e_v9a, e_v9b, e_v10c, e_v11a, e_v11b, hR1, hE1]
          exact ih1 _ h
        · have h := iteF h c3
          simp only [go_sem, hx1, hi1, hw1, c1, e_v7a, e_v7b, e_v8a, e_v8b, c3, hR1, hE1]
          exact ih1 _ h

def ref01_letter (a0 : Int) : Option Bool :=
  if 97 ≤ a0 then
    if a0 ≤ 122 then
      some true
    else
      if 65 ≤ a0 then
        some (decide (a0 ≤ 90))
      else
        some false
  else
    if 65 ≤ a0 then
      some (decide (a0 ≤ 90))
    else
      some false
theorem spec92 (a0 : Int) (r : Bool) (h : ref01_letter a0 = some r) :
    call Try.prog T H (.fn 92) [.p (.lit (.int .u8 a0))] [] = some (.ret (.p (bv r)), []) := by
  refine Sat.fn fun Q hQ => ?_
  unfold ref01_letter at h
  rw [call92]
  conv => arg 1; arg 7; unfold c92 Try.f92; simp only [Option.getD_some]
  by_cases c1 : 97 ≤ a0
  · have h := iteT h c1
    by_cases c2 : a0 ≤ 122
    · have h := iteT h c2
      simp only [go_sem, c1, c2]
      injection h with h; subst h
      exact Sat.ok hQ
    · have h := iteF h c2
      by_cases c3 : 65 ≤ a0
      · have h := iteT h c3
        simp only [go_sem, c1, c2, c3]
        injection h with h; subst h
        exact Sat.ok hQ
      · have h := iteF h c3
        simp only [go_sem, c1, c2, c3]
        injection h with h; subst h
        exact Sat.ok hQ
  · have h := iteF h c1
    by_cases c4 : 65 ≤ a0
    · have h := iteT h c4
      simp only [go_sem, c1, c4]
      injection h with h; subst h
      exact Sat.ok hQ
    · have h := iteF h c4
      simp only [go_sem, c1, c4]
      injection h with h; subst h
      exact Sat.ok hQ

def ref01_digit (a0 : Int) : Option Bool :=
  if 48 ≤ a0 then
    some (decide (a0 ≤ 57))
  else
    some false
theorem spec93 (a0 : Int) (r : Bool) (h : ref01_digit a0 = some r) :
    call Try.prog T H (.fn 93) [.p (.lit (.int .u8 a0))] [] = some (.ret (.p (bv r)), []) := by
  refine Sat.fn fun Q hQ => ?_
  unfold ref01_digit at h
  rw [call93]
  conv => arg 1; arg 7; unfold c93 Try.f93; simp only [Option.getD_some]
  by_cases c1 : 48 ≤ a0
  · have h := iteT h c1
    simp only [go_sem, c1]
    injection h with h; subst h
    exact Sat.ok hQ
  · have h := iteF h c1
    simp only [go_sem, c1]
    injection h with h; subst h
    exact Sat.ok hQ

def ref01_Word (n : Nat) (a0 : Str) : Option Int :=
  whileL n 0 (fun k1 (s1 : Int) n1 =>
    if s1 < (a0.length : Int) then
      (idx a0 s1).bind fun v1 =>
      (ref01_letter (v1.toNat : Int)).bind fun v2 =>
      if v2 = true then
        n1 (w64 (s1 + 1))
      else
        if 0 < s1 then
          (ref01_digit (v1.toNat : Int)).bind fun v3 =>
          if v3 = true then
            n1 (w64 (s1 + 1))
          else
            k1 s1
        else
          k1 s1
    else
      k1 s1) fun s1 =>
  some s1
theorem spec78 (n : Nat) (a0 : Str) (r : Int) (h : ref01_Word n a0 = some r) :
    call Try.prog T H (.fn 78) [.p (.lit (.string (bs a0)))] [] = some (.ret (.p (iv r)), []) := by
  refine Sat.fn fun Q hQ => ?_
  unfold ref01_Word at h
  rw [call78]
  conv => arg 1; arg 7; unfold c78 Try.f78; simp only [Option.getD_some]
  simp only [go_sem]
  refine run_whileL (c := L78_0) (live := [0, 3]) (by simp only [go_sem]) (M := fun (s1 : Int) => [(0, .p (.lit (.string (bs a0)))), (3, .p (iv s1))]) (Z := fun (s1 : Int) => []) (N := fun (s1 : Int) => ⟨[(3, .p (iv s1))], [], [], none, false⟩) h rfl rfl (fun _ => rfl) ?_ ?_
  · intro s1 h
    try dsimp only at h ⊢
    simp only [go_sem]
    injection h with h; subst h
    exact Sat.ok hQ
  · intro K1 k1 s1 n1 hR1 hE1 hb1 ih1 h
    try dsimp only at h ⊢
    conv => arg 1; arg 7; unfold L78_0 loopAt c78 Try.f78; simp only [loopIn, Option.getD_some, if_true]
    by_cases c1 : s1 < (a0.length : Int)
    · have h := iteT h c1
      obtain ⟨v1, e_v1, h⟩ := ob h
      obtain ⟨e_v1a, e_v1b⟩ := idx_some e_v1
      obtain ⟨v2, e_v2, h⟩ := ob h
      have e_v2c : call Try.prog T H (.fn 92) [.p (.lit (.int .u8 (v1.toNat : Int)))] [] = some (.ret (.p (bv v2)), []) := spec92 (v1.toNat : Int) v2 e_v2
      by_cases c2 : v2 = true
      · have h := iteT h c2
        simp only [go_sem, c1, e_v1a, e_v1b, e_v2c, c2, hR1, hE1]
        exact ih1 _ h
      · have h := iteF h c2
        have c2 := eq_false_of_ne_true c2
        by_cases c3 : 0 < s1
        · have h := iteT h c3
          obtain ⟨v3, e_v3, h⟩ := ob h
          have e_v3c : call Try.prog T H (.fn 93) [.p (.lit (.int .u8 (v1.toNat : Int)))] [] = some (.ret (.p (bv v3)), []) := spec93 (v1.toNat : Int) v3 e_v3
          by_cases c4 : v3 = true
          · have h := iteT h c4
            simp only [go_sem, c1, e_v1a, e_v1b, e_v2c, c2, c3, e_v3c, c4, hR1, hE1]
            exact ih1 _ h
          · have h := iteF h c4
            have c4 := eq_false_of_ne_true c4
            simp only [go_sem, c1, e_v1a, e_v1b, e_v2c, c2, c3, e_v3c, c4, hR1, hE1]
            exact hb1 _ h
        · have h := iteF h c3
          simp only [go_sem, c1, e_v1a, e_v1b, e_v2c, c2, c3, hR1, hE1]
          exact hb1 _ h
    · have h := iteF h c1
      simp only [go_sem, c1, hR1, hE1]
      exact hb1 _ h

def ref01_Name (n : Nat) (a0 : Str) : Option Bool :=
  if a0 = ([] : Str) then
    some false
  else
    if (a0.length : Int) ≤ 12 then
      (ref01_Word n a0).bind fun v1 =>
      some (v1 == (a0.length : Int))
    else
      some false
theorem spec72 (n : Nat) (a0 : Str) (r : Bool) (h : ref01_Name n a0 = some r) :
    call Try.prog T H (.fn 72) [.p (.lit (.string (bs a0)))] [] = some (.ret (.p (bv r)), []) := by
  refine Sat.fn fun Q hQ => ?_
  unfold ref01_Name at h
  rw [call72]
  conv => arg 1; arg 7; unfold c72 Try.f72; simp only [Option.getD_some]
  by_cases c1 : a0 = ([] : Str)
  · have h := iteT h c1
    have c1b : (a0 == ([] : Str)) = true := beqT c1
    simp only [go_sem, c1b]
    injection h with h; subst h
    exact Sat.ok hQ
  · have h := iteF h c1
    have c1b : (a0 == ([] : Str)) = false := beqF c1
    by_cases c2 : (a0.length : Int) ≤ 12
    · have h := iteT h c2
      obtain ⟨v1, e_v1, h⟩ := ob h
      have e_v1c : call Try.prog T H (.fn 78) [.p (.lit (.string (bs a0)))] [] = some (.ret (.p (iv v1)), []) := spec78 n a0 v1 e_v1
      simp only [go_sem, c1b, c2, e_v1c]
      injection h with h; subst h
      exact Sat.ok hQ
    · have h := iteF h c2
      simp only [go_sem, c1b, c2]
      injection h with h; subst h
      exact Sat.ok hQ

def ref01_Place (a0 : List Str) (a1 : Str) : Option Int :=
  rangeL a0 () (fun k1 i1 x1 (s1 : Unit) n1 =>
    if x1 = a1 then
      some (i1 : Int)
    else
      n1 ()) fun s1 =>
  some (-1)
theorem spec73 (a0 : List Str) (a1 : Str) (r : Int) (h : ref01_Place a0 a1 = some r) :
    call Try.prog T H (.fn 73) [.p (.sl none 1 (List.map rowS a0)), .p (.lit (.string (bs a1)))] [] = some (.ret (.p (iv r)), []) := by
  refine Sat.fn fun Q hQ => ?_
  unfold ref01_Place at h
  rw [call73]
  conv => arg 1; arg 7; unfold c73 Try.f73; simp only [Option.getD_some]
  simp only [go_sem]
  refine run_rangeL (c := L73_0) (live := [1, 7, 8, 9]) (by simp only [go_sem]) (M := fun i1 (s1 : Unit) => [(1, .p (.lit (.string (bs a1)))), (7, .p (.sl none 1 (List.map rowS a0))), (8, .p (iv (a0.length : Int))), (9, .p (iv (i1 : Int)))]) (Z := fun i1 (s1 : Unit) => []) (N := fun (s1 : Unit) => ⟨[], [], [], none, false⟩) h rfl rfl (fun _ _ => rfl) ?_ ?_ ?_
  · intro s1 h
    try dsimp only at h ⊢
    simp only [go_sem]
    injection h with h; subst h
    exact Sat.ok hQ
  · intro K1 s1 hb1 he1
    try dsimp only
    conv => arg 1; arg 7; unfold L73_0 loopAt c73 Try.f73; simp only [loopIn, Option.getD_some, if_true]
    simp only [go_sem, he1]
    exact hb1
  · intro K1 k1 i1 x1 s1 n1 hR1 hE1 hb1 hx1 hi1 hw1 ih1 h
    try dsimp only at h ⊢
    conv => arg 1; arg 7; unfold L73_0 loopAt c73 Try.f73; simp only [loopIn, Option.getD_some, if_true]
    by_cases c1 : x1 = a1
    · have h := iteT h c1
      have c1b : (x1 == a1) = true := beqT c1
      simp only [go_sem, hx1, hi1, hw1, c1b, hR1, hE1]
      injection h with h; subst h
      exact Sat.ok hQ
    · have h := iteF h c1
      have c1b : (x1 == a1) = false := beqF c1
      simp only [go_sem, hx1, hi1, hw1, c1b, hR1, hE1]
      exact ih1 _ h

def ref01_Names (n : Nat) (a0 : List Str) (a1 : Int) : Option Bool :=
  if (a0.length : Int) = a1 then
    rangeL a0 () (fun k1 i1 x1 (s1 : Unit) n1 =>
      (ref01_Name n x1).bind fun v1 =>
      if v1 = true then
        (slcT a0 (i1 : Int)).bind fun v2 =>
        (ref01_Place v2 x1).bind fun v3 =>
        if 0 ≤ v3 then
          some false
        else
          n1 ()
      else
        some false) fun s1 =>
    some true
  else
    some false
theorem spec55 (n : Nat) (a0 : List Str) (a1 : Int) (r : Bool) (h : ref01_Names n a0 a1 = some r) :
    call Try.prog T H (.fn 55) [.p (.sl none 1 (List.map rowS a0)), .p (iv a1)] [] = some (.ret (.p (bv r)), []) := by
  refine Sat.fn fun Q hQ => ?_
  unfold ref01_Names at h
  rw [call55]
  conv => arg 1; arg 7; unfold c55 Try.f55; simp only [Option.getD_some]
  by_cases c1 : (a0.length : Int) = a1
  · have h := iteT h c1
    have c1b : ((a0.length : Int) != a1) = false := bneF c1
    simp only [go_sem, c1b]
    refine run_rangeL (c := L55_0) (live := [0, 11, 12, 13]) (by simp only [go_sem]) (M := fun i1 (s1 : Unit) => [(0, .p (.sl none 1 (List.map rowS a0))), (11, .p (.sl none 1 (List.map rowS a0))), (12, .p (iv (a0.length : Int))), (13, .p (iv (i1 : Int)))]) (Z := fun i1 (s1 : Unit) => []) (N := fun (s1 : Unit) => ⟨[], [], [], none, false⟩) h rfl rfl (fun _ _ => rfl) ?_ ?_ ?_
    · intro s1 h
      try dsimp only at h ⊢
      simp only [go_sem]
      injection h with h; subst h
      exact Sat.ok hQ
    · intro K1 s1 hb1 he1
      try dsimp only
      conv => arg 1; arg 7; unfold L55_0 loopAt c55 Try.f55; simp only [loopIn, Option.getD_some, if_true]
      simp only [go_sem, he1]
      exact hb1
    · intro K1 k1 i1 x1 s1 n1 hR1 hE1 hb1 hx1 hi1 hw1 ih1 h
      try dsimp only at h ⊢
      conv => arg 1; arg 7; unfold L55_0 loopAt c55 Try.f55; simp only [loopIn, Option.getD_some, if_true]
      obtain ⟨v1, e_v1, h⟩ := ob h
      have e_v1c : call Try.prog T H (.fn 72) [.p (.lit (.string (bs x1)))] [] = some (.ret (.p (bv v1)), []) := spec72 n x1 v1 e_v1
      by_cases c2 : v1 = true
      · have h := iteT h c2
        obtain ⟨v2, e_v2, h⟩ := ob h
        obtain ⟨e_v21, e_v22, e_v23, e_v24⟩ := slcT_some e_v2
        try simp only [Int.toNat_natCast] at e_v21
        try simp only [Int.toNat_natCast] at e_v23
        try simp only [Int.toNat_natCast] at e_v24
        obtain ⟨v3, e_v3, h⟩ := ob h
        have e_v3c : call Try.prog T H (.fn 73) [.p (.sl none 1 (List.map rowS v2)), .p (.lit (.string (bs x1)))] [] = some (.ret (.p (iv v3)), []) := spec73 v2 x1 v3 e_v3
        by_cases c3 : 0 ≤ v3
        · have h := iteT h c3
          simp only [go_sem, hx1, hi1, hw1, e_v1c, c2, e_v21, e_v23, ← e_v24, e_v3c, c3, hR1, hE1]
          injection h with h; subst h
          exact Sat.ok hQ
        · have h := iteF h c3
          simp only [go_sem, hx1, hi1, hw1, e_v1c, c2, e_v21, e_v23, ← e_v24, e_v3c, c3, hR1, hE1]
          exact ih1 _ h
      · have h := iteF h c2
        have c2 := eq_false_of_ne_true c2
        simp only [go_sem, hx1, hi1, hw1, e_v1c, c2, hR1, hE1]
        injection h with h; subst h
        exact Sat.ok hQ
  · have h := iteF h c1
    have c1b : ((a0.length : Int) != a1) = true := bneT c1
    simp only [go_sem, c1b]
    injection h with h; subst h
    exact Sat.ok hQ

def ref02_Write : Nat → (List Str) → (List Node) → Option Str
  | 0, _, _ => none
  | n + 1, a0, a1 =>
    rangeL a1 ([] : Str) (fun k1 i1 x1 (s1 : Str) n1 =>
      if 0 < (i1 : Int) then
        (cat s1 ([32] : Str)).bind fun v1 =>
        (idx a0 x1.Label).bind fun v2 =>
        (cat v1 v2).bind fun v3 =>
        if 0 < (x1.Kids.length : Int) then
          (ref02_Write n a0 x1.Kids).bind fun v4 =>
          (cat ([40] : Str) v4).bind fun v5 =>
          (cat v5 ([41] : Str)).bind fun v6 =>
          (cat v3 v6).bind fun v7 =>
          n1 v7
        else
          n1 v3
      else
        (idx a0 x1.Label).bind fun v8 =>
        (cat s1 v8).bind fun v9 =>
        if 0 < (x1.Kids.length : Int) then
          (ref02_Write n a0 x1.Kids).bind fun v10 =>
          (cat ([40] : Str) v10).bind fun v11 =>
          (cat v11 ([41] : Str)).bind fun v12 =>
          (cat v9 v12).bind fun v13 =>
          n1 v13
        else
          n1 v9) fun s1 =>
    some s1
theorem spec56 : ∀ (n : Nat), (∀ (a0 : List Str) (a1 : List Node) (r : Str), ref02_Write n a0 a1 = some r →
    call Try.prog T H (.fn 56) [.p (.sl none 1 (List.map rowS a0)), .p (.sl none 2 (List.map row_Node a1))] [] = some (.ret (.p (.lit (.string (bs r)))), [])) := by
  intro n
  induction n with
  | zero => intro a0 a1 r h; cases h
  | succ n ih =>
    intro a0 a1 r h
    refine Sat.fn fun Q hQ => ?_
    rw [ref02_Write] at h
    rw [call56]
    conv => arg 1; arg 7; unfold c56 Try.f56; simp only [Option.getD_some]
    simp only [go_sem]
    refine run_rangeL (c := L56_0) (live := [0, 5, 8, 9, 10]) (by simp only [go_sem]) (M := fun i1 (s1 : Str) => [(0, .p (.sl none 1 (List.map rowS a0))), (5, .p (.lit (.string (bs s1)))), (8, .p (.sl none 2 (List.map row_Node a1))), (9, .p (iv (a1.length : Int))), (10, .p (iv (i1 : Int)))]) (Z := fun i1 (s1 : Str) => []) (N := fun (s1 : Str) => ⟨[(5, .p (.lit (.string (bs s1))))], [], [], none, false⟩) h rfl rfl (fun _ _ => rfl) ?_ ?_ ?_
    · intro s1 h
      try dsimp only at h ⊢
      simp only [go_sem]
      injection h with h; subst h
      exact Sat.ok hQ
    · intro K1 s1 hb1 he1
      try dsimp only
      conv => arg 1; arg 7; unfold L56_0 loopAt c56 Try.f56; simp only [loopIn, Option.getD_some, if_true]
      simp only [go_sem, he1]
      exact hb1
    · intro K1 k1 i1 x1 s1 n1 hR1 hE1 hb1 hx1 hi1 hw1 ih1 h
      try dsimp only at h ⊢
      conv => arg 1; arg 7; unfold L56_0 loopAt c56 Try.f56; simp only [loopIn, Option.getD_some, if_true]
      by_cases c1 : 0 < (i1 : Int)
      · have h := iteT h c1
        obtain ⟨v1, e_v1, h⟩ := ob h
        have e_v1a := (cat_some e_v1).1
        have e_v1b := (cat_some e_v1).2
        simp only [go_sem] at e_v1a
        try simp only [go_sem] at e_v1b
        obtain ⟨v2, e_v2, h⟩ := ob h
        obtain ⟨e_v2a, e_v2b⟩ := idx_some e_v2
        obtain ⟨v3, e_v3, h⟩ := ob h
        have e_v3a := (cat_some e_v3).1
        have e_v3b := (cat_some e_v3).2
        simp only [go_sem] at e_v3a
        try simp only [go_sem] at e_v3b
        by_cases c2 : 0 < (x1.Kids.length : Int)
        · have h := iteT h c2
          obtain ⟨v4, e_v4, h⟩ := ob h
          have e_v4c : call Try.prog T H (.fn 56) [.p (.sl none 1 (List.map rowS a0)), .p (.sl none 2 (List.map row_Node x1.Kids))] [] = some (.ret (.p (.lit (.string (bs v4)))), []) := ih a0 x1.Kids v4 e_v4
          obtain ⟨v5, e_v5, h⟩ := ob h
          have e_v5a := (cat_some e_v5).1
          have e_v5b := (cat_some e_v5).2
          simp only [go_sem] at e_v5a
          try simp only [go_sem] at e_v5b
          obtain ⟨v6, e_v6, h⟩ := ob h
          have e_v6a := (cat_some e_v6).1
          have e_v6b := (cat_some e_v6).2
          simp only [go_sem] at e_v6a
          try simp only [go_sem] at e_v6b
          obtain ⟨v7, e_v7, h⟩ := ob h
          have e_v7a := (cat_some e_v7).1
          have e_v7b := (cat_some e_v7).2
          simp only [go_sem] at e_v7a
          try simp only [go_sem] at e_v7b
          simp only [go_sem, hx1, hi1, hw1, c1, e_v1a, e_v1b, e_v2a, e_v2b, e_v3a, e_v3b, c2, e_v4c, e_v5a, e_v5b, e_v6a, e_v6b, e_v7a, e_v7b, hR1, hE1]
          exact ih1 _ h
        · have h := iteF h c2
          simp only [go_sem, hx1, hi1, hw1, c1, e_v1a, e_v1b, e_v2a, e_v2b, e_v3a, e_v3b, c2, hR1, hE1]
          exact ih1 _ h
      · have h := iteF h c1
        obtain ⟨v8, e_v8, h⟩ := ob h
        obtain ⟨e_v8a, e_v8b⟩ := idx_some e_v8
        obtain ⟨v9, e_v9, h⟩ := ob h
        have e_v9a := (cat_some e_v9).1
        have e_v9b := (cat_some e_v9).2
        simp only [go_sem] at e_v9a
        try simp only [go_sem] at e_v9b
        by_cases c3 : 0 < (x1.Kids.length : Int)
        · have h := iteT h c3
          obtain ⟨v10, e_v10, h⟩ := ob h
          have e_v10c : call Try.prog T H (.fn 56) [.p (.sl none 1 (List.map rowS a0)), .p (.sl none 2 (List.map row_Node x1.Kids))] [] = some (.ret (.p (.lit (.string (bs v10)))), []) := ih a0 x1.Kids v10 e_v10
          obtain ⟨v11, e_v11, h⟩ := ob h
          have e_v11a := (cat_some e_v11).1
          have e_v11b := (cat_some e_v11).2
          simp only [go_sem] at e_v11a
          try simp only [go_sem] at e_v11b
          obtain ⟨v12, e_v12, h⟩ := ob h
          have e_v12a := (cat_some e_v12).1
          have e_v12b := (cat_some e_v12).2
          simp only [go_sem] at e_v12a
          try simp only [go_sem] at e_v12b
          obtain ⟨v13, e_v13, h⟩ := ob h
          have e_v13a := (cat_some e_v13).1
          have e_v13b := (cat_some e_v13).2
          simp only [go_sem] at e_v13a
          try simp only [go_sem] at e_v13b
          simp only [go_sem, hx1, hi1, hw1, c1, e_v8a, e_v8b, e_v9a, e_v9b, c3, e_v10c, e_v11a, e_v11b, e_v12a, e_v12b, e_v13a, e_v13b, hR1, hE1]
          exact ih1 _ h
        · have h := iteF h c3
          simp only [go_sem, hx1, hi1, hw1, c1, e_v8a, e_v8b, e_v9a, e_v9b, c3, hR1, hE1]
          exact ih1 _ h

def ref02_Print (n : Nat) (a0 : Int) (a1 : List Str) (a2 : List Node) : Option (Str × Int) :=
  (ref02_ValidHedge n a0 a2).bind fun v1 =>
  if v1 = true then
    (ref01_Names n a1 a0).bind fun v2 =>
    if v2 = true then
      (ref02_Write n a1 a2).bind fun v3 =>
      some (v3, 0)
    else
      some (([] : Str), 4)
  else
    some (([] : Str), 1)
theorem spec32 (n : Nat) (a0 : Int) (a1 : List Str) (a2 : List Node) (r : Str × Int) (h : ref02_Print n a0 a1 a2 = some r) :
    call Try.prog T H (.fn 32) [.p (iv a0), .p (.sl none 1 (List.map rowS a1)), .p (.sl none 2 (List.map row_Node a2))] [] = some (.ret (.p (.tup [.lit (.string (bs r.1)), iv r.2])), []) := by
  refine Sat.fn fun Q hQ => ?_
  unfold ref02_Print at h
  rw [call32]
  conv => arg 1; arg 7; unfold c32 Try.f32; simp only [Option.getD_some]
  obtain ⟨v1, e_v1, h⟩ := ob h
  have e_v1c : call Try.prog T H (.fn 26) [.p (iv a0), .p (.sl none 2 (List.map row_Node a2))] [] = some (.ret (.p (bv v1)), []) := spec26 n a0 a2 v1 e_v1
  by_cases c1 : v1 = true
  · have h := iteT h c1
    obtain ⟨v2, e_v2, h⟩ := ob h
    have e_v2c : call Try.prog T H (.fn 55) [.p (.sl none 1 (List.map rowS a1)), .p (iv a0)] [] = some (.ret (.p (bv v2)), []) := spec55 n a1 a0 v2 e_v2
    by_cases c2 : v2 = true
    · have h := iteT h c2
      obtain ⟨v3, e_v3, h⟩ := ob h
      have e_v3c : call Try.prog T H (.fn 56) [.p (.sl none 1 (List.map rowS a1)), .p (.sl none 2 (List.map row_Node a2))] [] = some (.ret (.p (.lit (.string (bs v3)))), []) := spec56 n a1 a2 v3 e_v3
      simp only [go_sem, e_v1c, c1, e_v2c, c2, e_v3c]
      injection h with h; subst h
      exact Sat.ok hQ
    · have h := iteF h c2
      have c2 := eq_false_of_ne_true c2
      simp only [go_sem, e_v1c, c1, e_v2c, c2]
      injection h with h; subst h
      exact Sat.ok hQ
  · have h := iteF h c1
    have c1 := eq_false_of_ne_true c1
    simp only [go_sem, e_v1c, c1]
    injection h with h; subst h
    exact Sat.ok hQ

def tree_Known (a0 : List Str) (a1 : Str) : Option Int :=
  (slices_Index_Lstring_string a0 a1).bind fun v1 =>
  if v1 < 0 then
    none
  else
    some v1
theorem spec87 (a0 : List Str) (a1 : Str) (r : Int) (h : tree_Known a0 a1 = some r) :
    call Try.prog T H (.fn 87) [.p (.sl none 1 (List.map rowS a0)), .p (.lit (.string (bs a1)))] [] = some (.ret (.p (iv r)), []) := by
  refine Sat.fn fun Q hQ => ?_
  unfold tree_Known at h
  rw [call87]
  conv => arg 1; arg 7; unfold c87 Try.f87; simp only [Option.getD_some]
  obtain ⟨v1, e_v1, h⟩ := ob h
  have e_v1c : call Try.prog T H (.fn 85) [.p (.sl none 1 (List.map rowS a0)), .p (.lit (.string (bs a1)))] [] = some (.ret (.p (iv v1)), []) := spec85 a0 a1 v1 e_v1
  by_cases c1 : v1 < 0
  · have h := iteT h c1
    cases h
  · have h := iteF h c1
    simp only [go_sem, e_v1c, c1]
    injection h with h; subst h
    exact Sat.ok hQ

def ref02_reader_hedge : Nat → ref02_reader → Option ((List Node) × ref02_reader)
  | 0, _ => none
  | n + 1, a0 =>
    whileL n (a0.bad, ([] : List Node), a0.s, a0.names) (fun k5 (s5 : Bool × (List Node) × Str × (List Str)) n5 =>
      if s5.1 = true then
        k5 (true, s5.2.1, s5.2.2.1, s5.2.2.2)
      else
        whileL n s5.2.2.1 (fun k6 (s6 : Str) n6 =>
          if s6 = ([] : Str) then
            k6 s6
          else
            (s6[0]?).bind fun v16 =>
            if (v16.toNat : Int) = 32 then
              (slcF s6 1).bind fun v17 =>
              n6 v17
            else
              k6 s6) fun s6 =>
        if s6 = ([] : Str) then
          some (s5.2.1, (ref02_reader.mk s5.2.2.2 s6 false))
        else
          (s6[0]?).bind fun v1 =>
          if (v1.toNat : Int) = 41 then
            some (s5.2.1, (ref02_reader.mk s5.2.2.2 s6 false))
          else
            (ref01_Word n s6).bind fun v2 =>
            (slcT s6 v2).bind fun v3 =>
            (ref01_Place s5.2.2.2 v3).bind fun v4 =>
            if v4 < 0 then
              some (([] : List Node), (ref02_reader.mk s5.2.2.2 s6 true))
            else
              (slcF s6 v2).bind fun v5 =>
              whileL n v5 (fun k7 (s7 : Str) n7 =>
                if s7 = ([] : Str) then
                  k7 s7
                else
                  (s7[0]?).bind fun v14 =>
                  if (v14.toNat : Int) = 32 then
                    (slcF s7 1).bind fun v15 =>
                    n7 v15
                  else
                    k7 s7) fun s7 =>
              if s7 = ([] : Str) then
                (app 32 s5.2.1 [(Node.mk v4 ([] : List Node))]).bind fun v6 =>
                n5 (false, v6, v5, s5.2.2.2)
              else
                (s7[0]?).bind fun v7 =>
                if (v7.toNat : Int) = 40 then
                  (slcF s7 1).bind fun v8 =>
                  (ref02_reader_hedge n (ref02_reader.mk s5.2.2.2 v8 false)).bind fun v9 =>
                  if v9.2.bad = true then
                    some (([] : List Node), (ref02_reader.mk v9.2.names v9.2.s true))
                  else
                    if v9.2.s = ([] : Str) then
                      some (([] : List Node), (ref02_reader.mk v9.2.names v9.2.s true))
                    else
                      (v9.2.s[0]?).bind fun v10 =>
                      if (v10.toNat : Int) = 41 then
                        (slcF v9.2.s 1).bind fun v11 =>
                        (app 32 s5.2.1 [(Node.mk v4 v9.1)]).bind fun v12 =>
                        n5 (false, v12, v11, v9.2.names)
                      else
                        some (([] : List Node), (ref02_reader.mk v9.2.names v9.2.s true))
                else
                  (app 32 s5.2.1 [(Node.mk v4 ([] : List Node))]).bind fun v13 =>
                  n5 (false, v13, v5, s5.2.2.2)) fun s5 =>
    some (([] : List Node), (ref02_reader.mk s5.2.2.2 s5.2.2.1 s5.1))
theorem spec58 : ∀ (n : Nat), (∀ (σ : List AObj) (p0 : Nat) (hp0 : p0 < σ.length) (a0 : ref02_reader) (r : (List Node) × ref02_reader), ref02_reader_hedge n a0 = some r →
    call Try.prog T H (.fn 58) [.ptr p0 0] (List.set σ p0 (.cells [.p (.sl none 1 (List.map rowS a0.names)), .p (.lit (.string (bs a0.s))), .p (bv a0.bad)])) = some (.ret (.p (.sl none 2 (List.map row_Node r.1))), (List.set σ p0 (.cells [.p (.sl none 1 (List.map rowS r.2.names)), .p (.lit (.string (bs r.2.s))), .p (bv r.2.bad)])))) := by
  intro n
  induction n with
  | zero => intro σ p0 hp0 a0 r h; cases h
  | succ n ih =>
    intro σ p0 hp0 a0 r h
    refine Sat.fn fun Q hQ => ?_
    rw [ref02_reader_hedge] at h
    rw [call58]
    conv => arg 1; arg 7; unfold c58 Try.f58; simp only [Option.getD_some]
    simp only [go_sem, hp0, fun k => Nat.lt_add_right k hp0, Nat.not_le_of_lt hp0, fun k => Nat.not_le_of_lt (Nat.lt_add_right k hp0)]
    refine run_whileL (c := L58_0) (live := [0, 3]) (by simp only [go_sem]) (M := fun (s5 : Bool × (List Node) × Str × (List Str)) => [(0, .ptr p0 0), (3, .own 2 (List.map row_Node s5.2.1))]) (Z := fun (s5 : Bool × (List Node) × Str × (List Str)) => (List.set σ p0 (.cells [.p (.sl none 1 (List.map rowS s5.2.2.2)), .p (.lit (.string (bs s5.2.2.1))), .p (bv s5.1)]))) (N := fun (s5 : Bool × (List Node) × Str × (List Str)) => ⟨[], (List.set σ p0 (.cells [.p (.sl none 1 (List.map rowS s5.2.2.2)), .p (.lit (.string (bs s5.2.2.1))), .p (bv s5.1)])), [], none, false⟩) h rfl rfl (fun _ => rfl) ?_ ?_
    · intro s5 h
      try dsimp only at h ⊢
      simp only [go_sem, hp0, fun k => Nat.lt_add_right k hp0, Nat.not_le_of_lt hp0, fun k => Nat.not_le_of_lt (Nat.lt_add_right k hp0)]
      injection h with h; subst h
      exact Sat.ok hQ
    · intro K5 k5 s5 n5 hR5 hE5 hb5 ih5 h
      try dsimp only at h ⊢
      conv => arg 1; arg 7; unfold L58_0 loopAt c58 Try.f58; simp only [loopIn, Option.getD_some, if_true]
      by_cases c1 : s5.1 = true
      · have h := iteT h c1
        simp only [go_sem, c1, hR5, hE5, hp0, fun k => Nat.lt_add_right k hp0, Nat.not_le_of_lt hp0, fun k => Nat.not_le_of_lt (Nat.lt_add_right k hp0)]
        exact hb5 _ h
      · have h := iteF h c1
        have c1 := eq_false_of_ne_true c1
        simp only [go_sem, c1, hR5, hE5, hp0, fun k => Nat.lt_add_right k hp0, Nat.not_le_of_lt hp0, fun k => Nat.not_le_of_lt (Nat.lt_add_right k hp0)]
        refine run_whileL (c := L58_2) (live := [0, 3]) (by simp only [go_sem]) (M := fun (s6 : Str) => [(0, .ptr p0 0), (3, .own 2 (List.map row_Node s5.2.1))]) (Z := fun (s6 : Str) => (List.set σ p0 (.cells [.p (.sl none 1 (List.map rowS s5.2.2.2)), .p (.lit (.string (bs s6))), .p (bv false)]))) (N := fun (s6 : Str) => ⟨[(0, .ptr p0 0), (3, .own 2 (List.map row_Node s5.2.1))], (List.set σ p0 (.cells [.p (.sl none 1 (List.map rowS s5.2.2.2)), .p (.lit (.string (bs s6))), .p (bv false)])), [], none, false⟩) h rfl rfl (fun _ => rfl) ?_ ?_
        · intro s6 h
          try dsimp only at h ⊢
          by_cases c2 : s6 = ([] : Str)
          · have h := iteT h c2
            have c2b : (s6 == ([] : Str)) = true := beqT c2
            simp only [go_sem, c2b, hR5, hE5, hp0, fun k => Nat.lt_add_right k hp0, Nat.not_le_of_lt hp0, fun k => Nat.not_le_of_lt (Nat.lt_add_right k hp0)]
            injection h with h; subst h
            exact Sat.ok hQ
          · have h := iteF h c2
            have c2b : (s6 == ([] : Str)) = false := beqF c2
            obtain ⟨v1, e_v1, h⟩ := ob h
            by_cases c3 : (v1.toNat : Int) = 41
            · have h := iteT h c3
              have c3b : ((v1.toNat : Int) == 41) = true := beqT c3
              simp only [go_sem, c2b, e_v1, c3b, hR5, hE5, hp0, fun k => Nat.lt_add_right k hp0, Nat.not_le_of_lt hp0, fun k => Nat.not_le_of_lt (Nat.lt_add_right k hp0)]
              injection h with h; subst h
              exact Sat.ok hQ
            · have h := iteF h c3
              have c3b : ((v1.toNat : Int) == 41) = false := beqF c3
              obtain ⟨v2, e_v2, h⟩ := ob h
              have e_v2c : call Try.prog T H (.fn 78) [.p (.lit (.string (bs s6)))] [] = some (.ret (.p (iv v2)), []) := spec78 n s6 v2 e_v2
              obtain ⟨v3, e_v3, h⟩ := ob h
              obtain ⟨e_v31, e_v32, e_v33, e_v34⟩ := slcT_some e_v3
              obtain ⟨v4, e_v4, h⟩ := ob h
              have e_v4c : call Try.prog T H (.fn 73) [.p (.sl none 1 (List.map rowS s5.2.2.2)), .p (.lit (.string (bs v3)))] [] = some (.ret (.p (iv v4)), []) := spec73 s5.2.2.2 v3 v4 e_v4
              by_cases c4 : v4 < 0
              · have h := iteT h c4
                simp only [go_sem, c2b, e_v1, c3b, e_v2c, e_v31, e_v33, ← e_v34, e_v4c, c4, hR5, hE5, hp0, fun k => Nat.lt_add_right k hp0, Nat.not_le_of_lt hp0, fun k => Nat.not_le_of_lt (Nat.lt_add_right k hp0)]
                injection h with h; subst h
                exact Sat.ok hQ
              · have h := iteF h c4
                obtain ⟨v5, e_v5, h⟩ := ob h
                obtain ⟨e_v51, e_v52, e_v53, e_v54⟩ := slcF_some e_v5
                simp only [go_sem, c2b, e_v1, c3b, e_v2c, e_v31, e_v33, ← e_v34, e_v4c, c4, e_v51, e_v52, ← e_v54, hR5, hE5, hp0, fun k => Nat.lt_add_right k hp0, Nat.not_le_of_lt hp0, fun k => Nat.not_le_of_lt (Nat.lt_add_right k hp0)]
                refine run_whileL (c := L58_4) (live := [0, 3, 5, 6]) (by simp only [go_sem]) (M := fun (s7 : Str) => [(0, .ptr p0 0), (3, .own 2 (List.map row_Node s5.2.1)), (5, .ptr σ.length 0), (6, .p (.lit (.string (bs s7))))]) (Z := fun (s7 : Str) => ((List.set σ p0 (.cells [.p (.sl none 1 (List.map rowS s5.2.2.2)), .p (.lit (.string (bs v5))), .p (bv false)])) ++ [.cells [.p (iv v4), .own 2 []]])) (N := fun (s7 : Str) => ⟨[(0, .ptr p0 0), (3, .own 2 (List.map row_Node s5.2.1)), (5, .ptr σ.length 0), (6, .p (.lit (.string (bs s7))))], ((List.set σ p0 (.cells [.p (.sl none 1 (List.map rowS s5.2.2.2)), .p (.lit (.string (bs v5))), .p (bv false)])) ++ [.cells [.p (iv v4), .own 2 []]]), [], none, false⟩) h rfl rfl (fun _ => rfl) ?_ ?_
                · intro s7 h
                  try dsimp only at h ⊢
                  by_cases c5 : s7 = ([] : Str)
                  · have h := iteT h c5
                    have c5b : (s7 == ([] : Str)) = true := beqT c5
                    obtain ⟨v6, e_v6, h⟩ := ob h
                    have e_v6a : boundOk (s5.2.1.length + 1) 32 = true := bnd_of (by have := (app_some e_v6).1; simpa using this) (by decide)
                    have e_v6b : (List.map row_Node s5.2.1) ++ [[iv v4, .sl none 2 []]] = List.map row_Node v6 := by rw [(app_some e_v6).2]; simp [row_Node_eq]
                    simp only [go_sem, c5b, e_v6a, e_v6b, hR5, hE5, hp0, fun k => Nat.lt_add_right k hp0, Nat.not_le_of_lt hp0, fun k => Nat.not_le_of_lt (Nat.lt_add_right k hp0)]
                    exact ih5 _ h
                  · have h := iteF h c5
                    have c5b : (s7 == ([] : Str)) = false := beqF c5
                    obtain ⟨v7, e_v7, h⟩ := ob h
                    by_cases c6 : (v7.toNat : Int) = 40
                    · have h := iteT h c6
                      have c6b : ((v7.toNat : Int) == 40) = true := beqT c6
                      obtain ⟨v8, e_v8, h⟩ := ob h
                      obtain ⟨e_v81, e_v82, e_v83, e_v84⟩ := slcF_some e_v8
                      simp only [Int.reduceToNat] at e_v82
                      simp only [Int.reduceToNat] at e_v84
                      obtain ⟨v9, e_v9, h⟩ := ob h
                      have e_v9c : call Try.prog T H (.fn 58) [.ptr p0 0] ((List.set σ p0 (.cells [.p (.sl none 1 (List.map rowS s5.2.2.2)), .p (.lit (.string (bs v8))), .p (bv false)])) ++ [.cells [.p (iv v4), .own 2 []]]) = some (.ret (.p (.sl none 2 (List.map row_Node v9.1))), ((List.set σ p0 (.cells [.p (.sl none 1 (List.map rowS v9.2.names)), .p (.lit (.string (bs v9.2.s))), .p (bv v9.2.bad)])) ++ [.cells [.p (iv v4), .own 2 []]])) := by have q := ih ((List.set σ p0 (.cells [.p (.sl none 1 (List.map rowS s5.2.2.2)), .p (.lit (.string (bs v8))), .p (bv false)])) ++ [.cells [.p (iv v4), .own 2 []]]) p0 (by simp only [List.length_append, List.length_set, List.length_cons, List.length_nil]; omega) (ref02_reader.mk s5.2.2.2 v8 false) v9 e_v9; simp only [go_sem, hp0, fun k => Nat.lt_add_right k hp0, Nat.not_le_of_lt hp0, fun k => Nat.not_le_of_lt (Nat.lt_add_right k hp0)] at q ⊢; exact q
                      by_cases c7 : v9.2.bad = true
                      · have h := iteT h c7
                        simp only [go_sem, c5b, e_v7, c6b, e_v82, ← e_v84, e_v9c, c7, hR5, hE5, hp0, fun k => Nat.lt_add_right k hp0, Nat.not_le_of_lt hp0, fun k => Nat.not_le_of_lt (Nat.lt_add_right k hp0)]
                        injection h with h; subst h
                        exact Sat.ok hQ
                      · have h := iteF h c7
                        have c7 := eq_false_of_ne_true c7
                        by_cases c8 : v9.2.s = ([] : Str)
                        · have h := iteT h c8
                          have c8b : (v9.2.s == ([] : Str)) = true := beqT c8
                          simp only [go_sem, c5b, e_v7, c6b, e_v82, ← e_v84, e_v9c, c7, c8b, hR5, hE5, hp0, fun k => Nat.lt_add_right k hp0, Nat.not_le_of_lt hp0, fun k => Nat.not_le_of_lt (Nat.lt_add_right k hp0)]
                          injection h with h; subst h
                          exact Sat.ok hQ
                        · have h := iteF h c8
                          have c8b : (v9.2.s == ([] : Str)) = false := beqF c8
                          obtain ⟨v10, e_v10, h⟩ := ob h
                          by_cases c9 : (v10.toNat : Int) = 41
                          · have h := iteT h c9
                            have c9b : ((v10.toNat : Int) != 41) = false := bneF c9
                            obtain ⟨v11, e_v11, h⟩ := ob h
                            obtain ⟨e_v111, e_v112, e_v113, e_v114⟩ := slcF_some e_v11
                            simp only [Int.reduceToNat] at e_v112
                            simp only [Int.reduceToNat] at e_v114
                            obtain ⟨v12, e_v12, h⟩ := ob h
                            have e_v12a : boundOk (s5.2.1.length + 1) 32 = true := bnd_of (by have := (app_some e_v12).1; simpa using this) (by decide)
                            have e_v12b : (List.map row_Node s5.2.1) ++ [[iv v4, .sl none 2 (List.map row_Node v9.1)]] = List.map row_Node v12 := by rw [(app_some e_v12).2]; simp [row_Node_eq]
                            simp only [go_sem, c5b, e_v7, c6b, e_v82, ← e_v84, e_v9c, c7, c8b, e_v10, c9b, e_v112, ← e_v114, e_v12a, e_v12b, hR5, hE5, hp0, fun k => Nat.lt_add_right k hp0, Nat.not_le_of_lt hp0, fun k => Nat.not_le_of_lt (Nat.lt_add_right k hp0)]
                            exact ih5 _ h
                          · have h := iteF h c9
                            have c9b : ((v10.toNat : Int) != 41) = true := bneT c9
                            simp only [go_sem, c5b, e_v7, c6b, e_v82, ← e_v84, e_v9c, c7, c8b, e_v10, c9b, hR5, hE5, hp0, fun k => Nat.lt_add_right k hp0, Nat.not_le_of_lt hp0, fun k => Nat.not_le_of_lt (Nat.lt_add_right k hp0)]
                            injection h with h; subst h
                            exact Sat.ok hQ
                    · have h := iteF h c6
                      have c6b : ((v7.toNat : Int) == 40) = false := beqF c6
                      obtain ⟨v13, e_v13, h⟩ := ob h
                      have e_v13a : boundOk (s5.2.1.length + 1) 32 = true := bnd_of (by have := (app_some e_v13).1; simpa using this) (by decide)
                      have e_v13b : (List.map row_Node s5.2.1) ++ [[iv v4, .sl none 2 []]] = List.map row_Node v13 := by rw [(app_some e_v13).2]; simp [row_Node_eq]
                      simp only [go_sem, c5b, e_v7, c6b, e_v13a, e_v13b, hR5, hE5, hp0, fun k => Nat.lt_add_right k hp0, Nat.not_le_of_lt hp0, fun k => Nat.not_le_of_lt (Nat.lt_add_right k hp0)]
                      exact ih5 _ h
                · intro K7 k7 s7 n7 hR7 hE7 hb7 ih7 h
                  try dsimp only at h ⊢
                  conv => arg 1; arg 7; unfold L58_4 loopAt c58 Try.f58; simp only [loopIn, Option.getD_some, if_true]
                  by_cases c10 : s7 = ([] : Str)
                  · have h := iteT h c10
                    have c10b : (s7 == ([] : Str)) = true := beqT c10
                    simp only [go_sem, c10b, hR5, hE5, hR7, hE7, hp0, fun k => Nat.lt_add_right k hp0, Nat.not_le_of_lt hp0, fun k => Nat.not_le_of_lt (Nat.lt_add_right k hp0)]
                    exact hb7 _ h
                  · have h := iteF h c10
                    have c10b : (s7 == ([] : Str)) = false := beqF c10
                    obtain ⟨v14, e_v14, h⟩ := ob h
                    by_cases c11 : (v14.toNat : Int) = 32
                    · have h := iteT h c11
                      have c11b : ((v14.toNat : Int) == 32) = true := beqT c11
                      obtain ⟨v15, e_v15, h⟩ := ob h
                      obtain ⟨e_v151, e_v152, e_v153, e_v154⟩ := slcF_some e_v15
                      simp only [Int.reduceToNat] at e_v152
                      simp only [Int.reduceToNat] at e_v154
                      simp only [go_sem, c10b, e_v14, c11b, e_v152, ← e_v154, hR5, hE5, hR7, hE7, hp0, fun k => Nat.lt_add_right k hp0, Nat.not_le_of_lt hp0, fun k => Nat.not_le_of_lt (Nat.lt_add_right k hp0)]
                      exact ih7 _ h
                    · have h := iteF h c11
                      have c11b : ((v14.toNat : Int) == 32) = false := beqF c11
                      simp only [go_sem, c10b, e_v14, c11b, hR5, hE5, hR7, hE7, hp0, fun k => Nat.lt_add_right k hp0, Nat.not_le_of_lt hp0, fun k => Nat.not_le_of_lt (Nat.lt_add_right k hp0)]
                      exact hb7 _ h
        · intro K6 k6 s6 n6 hR6 hE6 hb6 ih6 h
          try dsimp only at h ⊢
          conv => arg 1; arg 7; unfold L58_2 loopAt c58 Try.f58; simp only [loopIn, Option.getD_some, if_true]
          by_cases c12 : s6 = ([] : Str)
          · have h := iteT h c12
            have c12b : (s6 == ([] : Str)) = true := beqT c12
            simp only [go_sem, c12b, hR5, hE5, hR6, hE6, hp0, fun k => Nat.lt_add_right k hp0, Nat.not_le_of_lt hp0, fun k => Nat.not_le_of_lt (Nat.lt_add_right k hp0)]
            exact hb6 _ h
          · have h := iteF h c12
            have c12b : (s6 == ([] : Str)) = false := beqF c12
            obtain ⟨v16, e_v16, h⟩ := ob h
            by_cases c13 : (v16.toNat : Int) = 32
            · have h := iteT h c13
              have c13b : ((v16.toNat : Int) == 32) = true := beqT c13
              obtain ⟨v17, e_v17, h⟩ := ob h
              obtain ⟨e_v171, e_v172, e_v173, e_v174⟩ := slcF_some e_v17
              simp only [Int.reduceToNat] at e_v172
              simp only [Int.reduceToNat] at e_v174
              simp only [go_sem, c12b, e_v16, c13b, e_v172, ← e_v174, hR5, hE5, hR6, hE6, hp0, fun k => Nat.lt_add_right k hp0, Nat.not_le_of_lt hp0, fun k => Nat.not_le_of_lt (Nat.lt_add_right k hp0)]
              exact ih6 _ h
            · have h := iteF h c13
              have c13b : ((v16.toNat : Int) == 32) = false := beqF c13
              simp only [go_sem, c12b, e_v16, c13b, hR5, hE5, hR6, hE6, hp0, fun k => Nat.lt_add_right k hp0, Nat.not_le_of_lt hp0, fun k => Nat.not_le_of_lt (Nat.lt_add_right k hp0)]
              exact hb6 _ h

def ref02_Parse (n : Nat) (a0 : Int) (a1 : List Str) (a2 : Str) : Option ((List Node) × Int) :=
  if a0 < 1 then
    some (([] : List Node), 6)
  else
    if 8 < a0 then
      some (([] : List Node), 6)
    else
      (ref01_Names n a1 a0).bind fun v1 =>
      if v1 = true then
        if 16384 < (a2.length : Int) then
          some (([] : List Node), 3)
        else
          (ref02_reader_hedge n (ref02_reader.mk a1 a2 false)).bind fun v2 =>
          if v2.2.bad = true then
            some (([] : List Node), 4)
          else
            if v2.2.s = ([] : Str) then
              (ref02_Few n v2.1 300).bind fun v3 =>
              if v3 = true then
                some (v2.1, 0)
              else
                some (([] : List Node), 3)
            else
              some (([] : List Node), 4)
      else
        some (([] : List Node), 4)
theorem spec34 (n : Nat) (a0 : Int) (a1 : List Str) (a2 : Str) (r : (List Node) × Int) (h : ref02_Parse n a0 a1 a2 = some r) :
    call Try.prog T H (.fn 34) [.p (iv a0), .p (.sl none 1 (List.map rowS a1)), .p (.lit (.string (bs a2)))] [] = some (.ret (.p (.tup [.sl none 2 (List.map row_Node r.1), iv r.2])), []) := by
  refine Sat.fn fun Q hQ => ?_
  unfold ref02_Parse at h
  rw [call34]
  conv => arg 1; arg 7; unfold c34 Try.f34; simp only [Option.getD_some]
  by_cases c1 : a0 < 1
  · have h := iteT h c1
    simp only [go_sem, c1]
    injection h with h; subst h
    exact Sat.ok hQ
  · have h := iteF h c1
    by_cases c2 : 8 < a0
    · have h := iteT h c2
      simp only [go_sem, c1, c2]
      injection h with h; subst h
      exact Sat.ok hQ
    · have h := iteF h c2
      obtain ⟨v1, e_v1, h⟩ := ob h
      have e_v1c : call Try.prog T H (.fn 55) [.p (.sl none 1 (List.map rowS a1)), .p (iv a0)] [] = some (.ret (.p (bv v1)), []) := spec55 n a1 a0 v1 e_v1
      by_cases c3 : v1 = true
      · have h := iteT h c3
        by_cases c4 : 16384 < (a2.length : Int)
        · have h := iteT h c4
          simp only [go_sem, c1, c2, e_v1c, c3, c4]
          injection h with h; subst h
          exact Sat.ok hQ
        · have h := iteF h c4
          obtain ⟨v2, e_v2, h⟩ := ob h
          have e_v2c : call Try.prog T H (.fn 58) [.ptr 0 0] [.cells [.p (.sl none 1 (List.map rowS a1)), .p (.lit (.string (bs a2))), .p (bv false)]] = some (.ret (.p (.sl none 2 (List.map row_Node v2.1))), [.cells [.p (.sl none 1 (List.map rowS v2.2.names)), .p (.lit (.string (bs v2.2.s))), .p (bv v2.2.bad)]]) := by have q := spec58 n [.cells [.p (.sl none 1 (List.map rowS a1)), .p (.lit (.string (bs a2))), .p (bv false)]] 0 (by simp only [List.length_append, List.length_set, List.length_cons, List.length_nil]; omega) (ref02_reader.mk a1 a2 false) v2 e_v2; simp only [go_sem] at q ⊢; exact q
          by_cases c5 : v2.2.bad = true
          · have h := iteT h c5
            simp only [go_sem, c1, c2, e_v1c, c3, c4, e_v2c, c5]
            injection h with h; subst h
            exact Sat.ok hQ
          · have h := iteF h c5
            have c5 := eq_false_of_ne_true c5
            by_cases c6 : v2.2.s = ([] : Str)
            · have h := iteT h c6
              have c6b : (v2.2.s == ([] : Str)) = true := beqT c6
              obtain ⟨v3, e_v3, h⟩ := ob h
              have e_v3c : call Try.prog T H (.fn 8) [.p (.sl none 2 (List.map row_Node v2.1)), .p (iv 300)] [] = some (.ret (.p (bv v3)), []) := spec8 n v2.1 300 v3 e_v3
              by_cases c7 : v3 = true
              · have h := iteT h c7
                simp only [go_sem, c1, c2, e_v1c, c3, c4, e_v2c, c5, c6b, e_v3c, c7]
                injection h with h; subst h
                exact Sat.ok hQ
              · have h := iteF h c7
                have c7 := eq_false_of_ne_true c7
                simp only [go_sem, c1, c2, e_v1c, c3, c4, e_v2c, c5, c6b, e_v3c, c7]
                injection h with h; subst h
                exact Sat.ok hQ
            · have h := iteF h c6
              have c6b : (v2.2.s == ([] : Str)) = false := beqF c6
              simp only [go_sem, c1, c2, e_v1c, c3, c4, e_v2c, c5, c6b]
              injection h with h; subst h
              exact Sat.ok hQ
      · have h := iteF h c3
        have c3 := eq_false_of_ne_true c3
        simp only [go_sem, c1, c2, e_v1c, c3]
        injection h with h; subst h
        exact Sat.ok hQ

end Go.AM.S02

namespace Go.AM.S02
open Go Go.Proofs Go.AM
set_option maxRecDepth 100000
set_option linter.unusedVariables false
theorem Sat.callrange {n : Nat} {K : Ex × S → Option (Out × List AObj)} {Q : Out × List AObj → Prop} {s : S} {d : Option Nat} {A : Option (Out × List AObj)} (h : Sat A (fun y => Sat (rangeK n K (some (endCall s d y.2 y.1))) Q)) :
    Sat (rangeK n K (callR s d A)) Q := by
  obtain ⟨⟨o, σ⟩, rfl, h2⟩ := h
  exact h2
def encL (f : List Node → Option Tree) : List Node → Tree → Option Tree
  | [], s => some s
  | x :: r, s => (f x.Kids).bind fun v => encL f r ⟨x.Label, [v, s]⟩
def hedge_encode : Nat → Int → List Node → Option Tree
  | 0, _, _ => none
  | n + 1, a, h => if h.length < 9223372036854775807 then encL (hedge_encode n a) h.reverse ⟨a, []⟩ else none
def slv (o : Bool) (k : Nat) (rows : List (List PV)) : AV := if o = true then .own k rows else .p (.sl none k rows)
theorem slv_t (k : Nat) (rows : List (List PV)) : slv true k rows = .own k rows := rfl
theorem slv_f (k : Nat) (rows : List (List PV)) : slv false k rows = .p (.sl none k rows) := rfl
theorem loop_ent {P : Program} {T : Tab} {H : Nat → FH} {f base blk : Nat} {c c' : Code} {e0 e1 : Env} {σ : List AObj} {K : Ex × S → Option (Out × List AObj)} {Q : Out × List AObj → Prop} {live : List Nat} (hl : lookupL (H f).heads blk = some live)
    (hc : c = c') (h0 : maskEnv e0 live = maskEnv e1 live) (h : Sat (run P T H f base blk (.loop c') ⟨e1, σ, [], none, false⟩ K) Q) : Sat (run P T H f base blk (.loop c) ⟨e0, σ, [], none, false⟩ K) Q := by
  subst hc
  rw [run_loop_mask (h := hl)] at h ⊢
  dsimp only at h ⊢
  rw [h0]; exact h
theorem wrapM (m : Nat) (h : m + 1 < 9223372036854775808) : IntKind.i64.wrap ((m : Int) - 1) = (m : Int) - 1 := by rw [wrapN] <;> omega
/-- the rounds of encode, from the last one of the first m on -/
theorem enc_loop {n : Nat} {a0 : Int} {a1 : List Node} {r : Tree} {E : Env} {K : Ex × S → Option (Out × List AObj)} {Q : Out × List AObj → Prop} {c0 c1 : AV} (hl : a1.length < 9223372036854775807)
    (ih : ∀ (a0 : Int) (a1 : List Node) (r : Tree), hedge_encode n a0 a1 = some r →
      call Try.prog T H (.fn 40) [.p (iv a0), .p (.sl none 2 (List.map row_Node a1))] [] = some (.ret (.p (.agg [iv r.Sym, .sl none 2 (List.map row_Tree r.Kids)])), []))
    (hE2 : get E 2 = .ptr 0 0) (hE5 : get E 5 = .ptr 2 0)
    (hK : ∀ (o : Bool) e, Sat (K (.exit 0, ⟨e, [.cells [.p (iv a0)], .cells [c0, c1], .cells [.p (iv r.Sym), slv o 2 (List.map row_Tree r.Kids)], .cells [.p (.sl none 2 (List.map row_Node a1))], .loop 0 none 24 40 E [12, 13] A40_0 B40_0], [], none, false⟩)) Q) :
    ∀ (m : Nat) (s : Tree) (o : Bool), m ≤ a1.length → encL (hedge_encode n a0) (a1.take m).reverse s = some r →
      Sat (run Try.prog T H 79 5 0 (.loop L79_0) ⟨[(0, .yld 4), (1, .ptr 3 0), (3, .p (iv ((m : Int) - 1)))], [.cells [.p (iv a0)], .cells [c0, c1], .cells [.p (iv s.Sym), slv o 2 (List.map row_Tree s.Kids)], .cells [.p (.sl none 2 (List.map row_Node a1))], .loop 0 none 24 40 E [12, 13] A40_0 B40_0], [], none, false⟩ K) Q := by
  intro m
  induction m with
  | zero =>
    intro s o hm h
    rw [List.take_zero, List.reverse_nil, encL] at h
    injection h with h; subst h
    rw [run_loop_mask (live := [0, 1, 3]) (h := by simp only [go_sem])]
    conv => arg 1; arg 7; unfold L79_0 loopAt c79 Try.f79; simp only [loopIn, Option.getD_some, if_true]
    have h1 : ¬ ((0 : Int) ≤ ((0 : Nat) : Int) - 1) := by omega
    simp only [go_sem, h1]
    have := hK o []
    simpa only [go_sem] using this
  | succ m ihm =>
    intro s o hm h
    obtain ⟨x, hx⟩ : ∃ x, a1[m]? = some x := ⟨a1[m]'(by omega), List.getElem?_eq_getElem (by omega)⟩
    have hxm : x ∈ a1 := List.mem_of_getElem? hx
    have ht : (a1.take (m + 1)).reverse = x :: (a1.take m).reverse := by
      rw [List.take_add_one, hx]; simp
    rw [ht, encL] at h
    obtain ⟨v, hv, h⟩ := ob h
    have hc := ih a0 x.Kids v hv
    rw [run_loop_mask (live := [0, 1, 3]) (h := by simp only [go_sem])]
    conv => arg 1; arg 7; unfold L79_0 loopAt c79 Try.f79; simp only [loopIn, Option.getD_some, if_true]
    have e1 : (((m + 1 : Nat) : Int) - 1) = (m : Int) := by omega
    have w1 := wrapM m (by omega)
    simp only [e1]
    simp only [go_sem, hx]
    refine Sat.callc ?_
    rw [call_yld (h := rfl) (hok := yo40_0) (hl := rfl)]
    conv => arg 1; arg 7; unfold A40_0 rangeA c40 Try.f40; simp only [rangeIn, Option.getD_some, if_true]
    simp only [go_sem, asgK, setSt]
    conv => arg 1; arg 7; unfold B40_0 rangeB c40 Try.f40; simp only [rangeIn, Option.getD_some, if_true]
    have hr : List.map row_Tree [v, s] = [[iv v.Sym, .sl none 2 (List.map row_Tree v.Kids)], [iv s.Sym, .sl none 2 (List.map row_Tree s.Kids)]] := by simp only [List.map_cons, List.map_nil, row_Tree_eq]
    have fin := ihm ⟨x.Label, [v, s]⟩ false (by omega) h
    rw [slv_f, hr] at fin
    cases o with
    | true =>
      simp only [go_sem, slv_t, hE2, hE5, hc, yldK, endYield, yldRet, setSt]
      refine Sat.ok ?_
      simp only [go_sem, w1]
      exact fin
    | false =>
      simp only [go_sem, slv_f, hE2, hE5, hc, yldK, endYield, yldRet, setSt]
      refine Sat.ok ?_
      simp only [go_sem, w1]
      exact fin
theorem spec40 : ∀ (n : Nat) (a0 : Int) (a1 : List Node) (r : Tree), hedge_encode n a0 a1 = some r →
    call Try.prog T H (.fn 40) [.p (iv a0), .p (.sl none 2 (List.map row_Node a1))] [] = some (.ret (.p (.agg [iv r.Sym, .sl none 2 (List.map row_Tree r.Kids)])), []) := by
  intro n
  induction n with
  | zero => intro a0 a1 r h; cases h
  | succ n ih =>
    intro a0 a1 r h
    refine Sat.fn fun Q hQ => ?_
    rw [hedge_encode] at h
    by_cases hl : a1.length < 9223372036854775807
    case neg => rw [if_neg hl] at h; cases h
    rw [if_pos hl, ← List.take_length (l := a1)] at h
    rw [call40, cf40]
    conv => arg 1; arg 7; unfold c40 Try.f40; simp only [Option.getD_some, foldR, if_true]
    simp only [go_sem]
    refine Sat.callc ?_
    rw [call62]
    conv => arg 1; arg 7; unfold c62 Try.f62; simp only [Option.getD_some]
    simp only [go_sem]
    refine Sat.ok ?_
    simp only [go_sem]
    refine Sat.callrange ?_
    rw [call79]
    conv => arg 1; arg 7; unfold c79 Try.f79; simp only [Option.getD_some]
    simp only [go_sem]
    have w1 : IntKind.i64.wrap ((a1.length : Int) - 1) = (a1.length : Int) - 1 := by
      by_cases h0 : a1.length = 0
      · rw [h0]; rfl
      · rw [wrapN] <;> omega
    refine loop_ent (c' := L79_0) (live := [0, 1, 3]) (e1 := [(0, .yld 4), (1, .ptr 3 0), (3, .p (iv ((a1.length : Int) - 1)))]) (by simp only [go_sem]) ?_ ?_ ?_
    · unfold L79_0 loopAt c79 Try.f79; simp only [loopIn, Option.getD_some, if_true]
    · simp only [go_sem, w1]
    · refine enc_loop (n := n) (r := r) (o := true) (s := ⟨a0, []⟩) hl ih ?_ ?_ ?_ a1.length (Nat.le_refl _) h
      · simp only [go_sem]
      · simp only [go_sem]
      · intro o e
        simp only [go_sem]
        refine Sat.ok ?_
        simp only [go_sem, rangeK_ok, atLoop_some, pendK_none]
        cases o with
        | true =>
          simp only [go_sem, slv_t]
          exact Sat.ok hQ
        | false =>
          simp only [go_sem, slv_f]
          exact Sat.ok hQ
end Go.AM.S02

namespace Go.AM.S02
open Go Go.Proofs Go.AM
set_option maxRecDepth 100000
set_option linter.unusedVariables false
def rI (l : List ref02_Info) : List (List AV) := l.map (rowA row_ref02_Info)
theorem rI_eq (l : List ref02_Info) : List.map (rowA row_ref02_Info) l = rI l := rfl
theorem rI_len (l : List ref02_Info) : (rI l).length = l.length := List.length_map ..
theorem rI_take (l : List ref02_Info) : (rI l).take l.length = rI l := by rw [← rI_len, List.take_length]
theorem rI_app (l : List ref02_Info) (a b c d : Int) : rI l ++ [[.p (iv a), .p (iv b), .p (iv c), .p (iv d)]] = rI (l ++ [⟨a, b, c, d⟩]) := by unfold rI; rw [List.map_append]; rfl
theorem rI_get {l : List ref02_Info} {i : Nat} {x : ref02_Info} (h : l[i]? = some x) : (rI l)[i]? = some [.p (iv x.Label), .p (iv x.Parent), .p (iv x.Index), .p (iv x.Last)] := by unfold rI; rw [List.getElem?_map, h]; rfl
theorem rI_set (l : List ref02_Info) (i : Nat) (a b c d : Int) : (rI l).set i [.p (iv a), .p (iv b), .p (iv c), .p (iv d)] = rI (l.set i ⟨a, b, c, d⟩) := by unfold rI; rw [List.map_set]; rfl
def ref02_fin (at_ : Nat) (l : List ref02_Info) : Option (List ref02_Info) :=
  (idxM l.length l (at_ : Int)).bind fun v => some (l.set at_ ⟨v.Label, v.Parent, v.Index, w64 ((l.length : Int) - 1)⟩)
def ref02_nodes : Nat → Node → Int → Int → List ref02_Info × Nat → Option (List ref02_Info × Nat)
  | 0, _, _, _, _ => none
  | n + 1, x, p, i, o =>
    (app 32 o.1 [⟨x.Label, p, i, 0⟩]).bind fun o1 =>
    rangeL x.Kids (o1, o.2 + 1) (fun _ i1 x1 s n1 => (ref02_nodes n x1 (o.1.length : Int) (i1 : Int) s).bind fun v => n1 v) fun s =>
    (ref02_fin o.1.length s.1).bind fun v => some (v, s.2)
def Spec61 (n : Nat) : Prop := ∀ (σ : List AObj) (p : Nat) (hp : p < σ.length) (x : Node) (a1 a2 : Int) (o r : List ref02_Info × Nat), ref02_nodes n x a1 a2 o = some r →
    call Try.prog T H (.fn 61) [.p (.agg [iv x.Label, .sl none 2 (List.map row_Node x.Kids)]), .p (iv a1), .p (iv a2), .ms p o.2 4 0 o.1.length] (σ.set p (.arr o.2 4 (rI o.1))) = some (.ret (.ms p r.2 4 0 r.1.length), σ.set p (.arr r.2 4 (rI r.1)) ++ [.cells [.p (iv x.Label), .p (.sl none 2 (List.map row_Node x.Kids))]])
theorem nodes_loop {n : Nat} (ih : Spec61 n) {p : Nat} {σ : List AObj} (hp : p < σ.length) {base : Nat} {at_ : Int} {xs : List Node} {R : Type} {r : R} {K : Ex × S → Option (Out × List AObj)} {Q : Out × List AObj → Prop} {k : List ref02_Info × Nat → Option R} {s0 : List ref02_Info × Nat} {e0 : Env}
    (h : rangeL xs s0 (fun _ i1 x1 s n1 => (ref02_nodes n x1 at_ (i1 : Int) s).bind fun v => n1 v) k = some r)
    (h0 : maskEnv e0 [3, 9, 23, 24, 25] = [(3, .ms p s0.2 4 0 s0.1.length), (9, .p (iv at_)), (23, .p (.sl none 2 (List.map row_Node xs))), (24, .p (iv (xs.length : Int))), (25, .p (iv 0))])
    (hK : ∀ s, k s = some r → Sat (K (.exit 0, ⟨[(3, .ms p s.2 4 0 s.1.length), (9, .p (iv at_))], σ.set p (.arr s.2 4 (rI s.1)), [], none, false⟩)) Q) :
    Sat (run Try.prog T H 61 base 0 (.loop L61_0) ⟨e0, σ.set p (.arr s0.2 4 (rI s0.1)), [], none, false⟩ K) Q := by
  refine run_rangeL (c := L61_0) (live := [3, 9, 23, 24, 25]) (by simp only [go_sem]) (M := fun i1 s => [(3, .ms p s.2 4 0 s.1.length), (9, .p (iv at_)), (23, .p (.sl none 2 (List.map row_Node xs))), (24, .p (iv (xs.length : Int))), (25, .p (iv (i1 : Int)))]) (Z := fun i1 s => σ.set p (.arr s.2 4 (rI s.1))) (N := fun s => ⟨[(3, .ms p s.2 4 0 s.1.length), (9, .p (iv at_))], σ.set p (.arr s.2 4 (rI s.1)), [], none, false⟩) h h0 rfl (fun _ _ => rfl) ?_ ?_ ?_
  · intro s h
    exact hK s h
  · intro K1 s1 hb1 he1
    try dsimp only
    conv => arg 1; arg 7; unfold L61_0 loopAt c61 Try.f61; simp only [loopIn, Option.getD_some, if_true]
    simp only [go_sem, he1, hp]
    exact hb1
  · intro K1 k1 i1 x1 s1 n1 hR1 hE1 hb1 hx1 hi1 hw1 ih1 h
    try dsimp only at h ⊢
    conv => arg 1; arg 7; unfold L61_0 loopAt c61 Try.f61; simp only [loopIn, Option.getD_some, if_true]
    obtain ⟨v1, e_v1, h⟩ := ob h
    have e_v1c : call Try.prog T H (.fn 61) [.p (.agg [iv x1.Label, .sl none 2 (List.map row_Node x1.Kids)]), .p (iv at_), .p (iv (i1 : Int)), .ms p s1.2 4 0 s1.1.length] (σ.set p (.arr s1.2 4 (rI s1.1)) ++ [.cells [.p (iv x1.Label), .p (.sl none 2 (List.map row_Node x1.Kids))]]) = some (.ret (.ms p v1.2 4 0 v1.1.length), σ.set p (.arr v1.2 4 (rI v1.1)) ++ [.cells [.p (iv x1.Label), .p (.sl none 2 (List.map row_Node x1.Kids))], .cells [.p (iv x1.Label), .p (.sl none 2 (List.map row_Node x1.Kids))]]) := by
      have q := ih (σ ++ [.cells [.p (iv x1.Label), .p (.sl none 2 (List.map row_Node x1.Kids))]]) p (by rw [List.length_append]; omega) x1 at_ (i1 : Int) s1 v1 e_v1
      rw [List.set_append_left _ _ hp, List.set_append_left _ _ hp, List.append_assoc] at q
      exact q
    simp only [go_sem, hx1, hi1, hw1, e_v1c, hR1, hE1, hp, fun k => Nat.lt_add_right k hp, Nat.not_le_of_lt hp, fun k => Nat.not_le_of_lt (Nat.lt_add_right k hp)]
    exact ih1 _ h
theorem spec61 : ∀ n, Spec61 n := by
  intro n
  induction n with
  | zero => intro σ p hp x a1 a2 o r h; cases h
  | succ n ih =>
    intro σ p hp x a1 a2 o r h
    refine Sat.fn fun Q hQ => ?_
    rw [ref02_nodes] at h
    obtain ⟨o1, e1, h⟩ := ob h
    have e1a : boundOk (o.1.length + 1) 32 = true := bnd_of (by have := (app_some e1).1; simpa using this) (by decide)
    have e1b := (app_some e1).2
    have e1l : o.1.length + 1 = o1.length := by rw [e1b]; simp
    rw [call61]
    conv => arg 1; arg 7; unfold c61 Try.f61; simp only [Option.getD_some]
    have e1c : boundOk o1.length 32 = true := by rw [← e1l]; exact e1a
    simp only [go_sem, e1a, e1c, rI_len, rI_take, rI_app, ← e1b, e1l, hp, fun k => Nat.lt_add_right k hp, Nat.not_le_of_lt hp, fun k => Nat.not_le_of_lt (Nat.lt_add_right k hp)]
    rw [← List.set_append_left _ _ hp]
    refine nodes_loop ih (s0 := (o1, o.2 + 1)) (by rw [List.length_append]; omega) h rfl ?_
    intro s hs
    obtain ⟨v, hv, hs⟩ := ob hs
    injection hs with hs; subst hs
    unfold ref02_fin at hv
    obtain ⟨w, hw, hv⟩ := ob hv
    injection hv with hv; subst hv
    obtain ⟨w1, w2, w3⟩ := idxM_some hw
    simp only [Int.toNat_natCast] at w2 w3
    rw [List.set_append_left _ _ hp]
    have w4 := rI_get w3
    simp only [go_sem, w1, w2, w4, rI_len, rI_set, hp, fun k => Nat.lt_add_right k hp, Nat.not_le_of_lt hp, fun k => Nat.not_le_of_lt (Nat.lt_add_right k hp)]
    simp only [List.length_set] at hQ
    exact Sat.ok hQ
def ref02_List (n : Nat) (x : Node) : Option (List ref02_Info) :=
  (app 32 ([] : List ref02_Info) [⟨x.Label, -1, 0, 0⟩]).bind fun o1 =>
    rangeL x.Kids (o1, 0) (fun _ i1 x1 s n1 => (ref02_nodes n x1 ((0 : Nat) : Int) (i1 : Int) s).bind fun v => n1 v) fun s =>
    ref02_fin 0 s.1
theorem spec38 (n : Nat) (x : Node) (r : List ref02_Info) (h : ref02_List n x = some r) : 
    call Try.prog T H (.fn 38) [.p (.agg [iv x.Label, .sl none 2 (List.map row_Node x.Kids)])] [] = some (.ret (.p (.sl none 4 (List.map row_ref02_Info r))), []) := by
  refine Sat.fn fun Q hQ => ?_
  unfold ref02_List at h
  obtain ⟨o1, e1, h⟩ := ob h
  have e1b := (app_some e1).2
  rw [call38]
  conv => arg 1; arg 7; unfold c38 Try.f38; simp only [Option.getD_some]
  simp only [go_sem]
  refine Sat.callc ?_
  rw [call61]
  conv => arg 1; arg 7; unfold c61 Try.f61; simp only [Option.getD_some]
  have bk : boundOk 1 32 = true := by decide
  have ez : ∀ g l, [AObj.cells [AV.p (iv x.Label), AV.p (PV.sl none 2 (List.map row_Node x.Kids))], AObj.cells [AV.p (iv x.Label), AV.p (PV.sl none 2 (List.map row_Node x.Kids))], AObj.arr g 4 (rI l)] = [AObj.cells [AV.p (iv x.Label), AV.p (PV.sl none 2 (List.map row_Node x.Kids))], AObj.cells [AV.p (iv x.Label), AV.p (PV.sl none 2 (List.map row_Node x.Kids))], AObj.dead].set 2 (.arr g 4 (rI l)) := fun _ _ => rfl
  have ei : [[AV.p (iv x.Label), AV.p (PV.lit (Value.int IntKind.i64 (-1))), AV.p (PV.lit (Value.int IntKind.i64 0)), AV.p (PV.lit (Value.int IntKind.i64 0))]] = rI o1 := by rw [e1b]; rfl
  have el : o1.length = 1 := by rw [e1b]; rfl
  simp only [go_sem, bk]
  rw [ei, ez]
  refine nodes_loop (spec61 n) (s0 := (o1, 0)) (Nat.lt_succ_self 2) h (by simp only [go_sem, el]) ?_
  intro s hv
  unfold ref02_fin at hv
  obtain ⟨w, hw, hv⟩ := ob hv
  injection hv with hv; subst hv
  obtain ⟨w1, w2, w3⟩ := idxM_some hw
  simp only [Int.toNat_natCast] at w2 w3
  rw [← ez]
  have w4 := rI_get w3
  simp only [go_sem, w1, w2, w4, rI_len, rI_set]
  refine Sat.ok ?_
  have ww := fun (l : List ref02_Info) base (σ : List AObj) k => mapM_rowA row_ref02_Info base σ k l
  simp only [rI_eq] at ww
  have wt : ∀ y, List.take s.1.length (rI (s.1.set 0 y)) = rI (s.1.set 0 y) := fun y => by rw [List.take_of_length_le]; rw [rI_len, List.length_set]; omega
  simp only [go_sem, List.length_set, rI_len, wt, ww, Nat.le_refl]

  exact Sat.ok hQ
end Go.AM.S02

namespace Go.AM.S02
open Go Go.Proofs Go.AM
set_option maxRecDepth 100000
set_option linter.unusedVariables false
/-- the objects that the iterator needs -/
structure WF (E : Env) (σ : List AObj) : Prop where
  len : 7 ≤ σ.length
  o3 : σ[3]? = some (.loop 0 none 22 10 E [15, 16] A10_0 B10_0)
  o4 : σ[4]? = some (.cells [.yld 3])
  o6 : σ[6]? = some (.cells [.fn 60 [.ptr 5 0, .ptr 4 0, .ptr 6 0]])
def wS (σ : List AObj) (s : Int × List hedge_Info) : List AObj := (σ.set 1 (.cells [.own 4 (s.2.map row_hedge_Info)])).set 5 (.cells [.p (iv s.1)])
theorem wS_len (σ : List AObj) (s : Int × List hedge_Info) : (wS σ s).length = σ.length := by simp [wS]
theorem wS_get (σ : List AObj) (s : Int × List hedge_Info) {i : Nat} (h1 : i ≠ 1) (h5 : i ≠ 5) : (wS σ s)[i]? = σ[i]? := by
  unfold wS; rw [List.getElem?_set_ne (Ne.symm h5), List.getElem?_set_ne (Ne.symm h1)]
theorem wS_1 {σ : List AObj} (s : Int × List hedge_Info) (h : 7 ≤ σ.length) : (wS σ s)[1]? = some (.cells [.own 4 (s.2.map row_hedge_Info)]) := by
  unfold wS; rw [List.getElem?_set_ne (by decide), List.getElem?_set_self (by omega)]
theorem wS_5 {σ : List AObj} (s : Int × List hedge_Info) (h : 7 ≤ σ.length) : (wS σ s)[5]? = some (.cells [.p (iv s.1)]) := by
  unfold wS; rw [List.getElem?_set_self (by rw [List.length_set]; omega)]
theorem wS_set1 (σ : List AObj) (s : Int × List hedge_Info) (o : List hedge_Info) : (wS σ s).set 1 (.cells [.own 4 (o.map row_hedge_Info)]) = wS σ (s.1, o) := by
  unfold wS; rw [List.set_comm _ _ (by decide), List.set_set]
theorem wS_set5 (σ : List AObj) (s : Int × List hedge_Info) (m : Int) : (wS σ s).set 5 (.cells [.p (iv m)]) = wS σ (m, s.2) := by
  unfold wS; rw [List.set_set]
theorem wS_app {σ : List AObj} (s : Int × List hedge_Info) (h : 7 ≤ σ.length) (l : List AObj) : wS σ s ++ l = wS (σ ++ l) s := by
  unfold wS; rw [List.set_append_left _ _ (by omega), List.set_append_left _ _ (by rw [List.length_set]; omega)]
theorem WF.app {E : Env} {σ : List AObj} (h : WF E σ) (l : List AObj) : WF E (σ ++ l) where
  len := by rw [List.length_append]; have := h.len; omega
  o3 := by rw [List.getElem?_append_left (by have := h.len; omega)]; exact h.o3
  o4 := by rw [List.getElem?_append_left (by have := h.len; omega)]; exact h.o4
  o6 := by rw [List.getElem?_append_left (by have := h.len; omega)]; exact h.o6
theorem set_back {α : Type} {l : List α} {i : Nat} {a : α} (h : l[i]? = some a) : l.set i a = l := by
  apply List.ext_getElem?
  intro j
  by_cases e : i = j
  · subst e
    have := (List.getElem?_eq_some_iff.mp h).1
    rw [List.getElem?_set_self this, h]
  · rw [List.getElem?_set_ne e]
theorem yield10 {E : Env} (hE : get E 6 = .ptr 1 0) {ρ : List AObj} (hl : 7 ≤ ρ.length) (h3 : ρ[3]? = some (.loop 0 none 22 10 E [15, 16] A10_0 B10_0)) (o o1 : List hedge_Info) (h1 : ρ[1]? = some (.cells [.own 4 (o.map row_hedge_Info)])) (a : Int) (x : hedge_Info) (e1 : app 32 o [x] = some o1) :
    call Try.prog T H (.yld 3) [.p (iv a), .p (.agg [iv x.Label, iv x.Parent, iv x.Index, iv x.Last])] ρ = some (.ret (.p (bv true)), ρ.set 1 (.cells [.own 4 (o1.map row_hedge_Info)])) := by
  refine Sat.fn fun Q hQ => ?_
  have e1a : boundOk (o.length + 1) 32 = true := bnd_of (by have := (app_some e1).1; simpa using this) (by decide)
  have e1b := (app_some e1).2
  have e1r : o.map row_hedge_Info ++ [[iv x.Label, iv x.Parent, iv x.Index, iv x.Last]] = o1.map row_hedge_Info := by rw [e1b]; simp [row_hedge_Info_eq]
  have a1 : ∀ l, (ρ ++ l)[3]? = some (.loop 0 none 22 10 E [15, 16] A10_0 B10_0) := fun l => by rw [List.getElem?_append_left (by omega)]; exact h3
  have a2 : ∀ l y, (ρ ++ l).set 3 y = ρ.set 3 y ++ l := fun l y => List.set_append_left _ _ (by omega)
  have a3 : ∀ l y, (ρ.set 3 y ++ l)[1]? = some (.cells [.own 4 (o.map row_hedge_Info)]) := fun l y => by rw [List.getElem?_append_left (by rw [List.length_set]; omega), List.getElem?_set_ne (by decide)]; exact h1
  have a4 : ∀ l y z, (ρ.set 3 y ++ l).set 1 z = (ρ.set 1 z).set 3 y ++ l := fun l y z => by rw [List.set_append_left _ _ (by rw [List.length_set]; omega), List.set_comm _ _ (by decide)]
  have a5 : ∀ l y z, ((ρ.set 1 z).set 3 y ++ l)[1]? = some z := fun l y z => by rw [List.getElem?_append_left (by simp; omega), List.getElem?_set_ne (by decide), List.getElem?_set_self (by omega)]
  have a6 : ∀ l y z z', ((ρ.set 1 z).set 3 y ++ l).set 1 z' = (ρ.set 1 z').set 3 y ++ l := fun l y z z' => by rw [List.set_append_left _ _ (by simp; omega), List.set_comm _ _ (by decide), List.set_set]
  have a7 : ∀ l y z, ((ρ.set 1 z).set 3 y ++ l)[3]? = some y := fun l y z => by rw [List.getElem?_append_left (by simp; omega), List.getElem?_set_self (by simp; omega)]
  have a8 : ∀ l y z, ((ρ.set 1 z).set 3 y ++ l).set 3 (.loop 0 none 22 10 E [15, 16] A10_0 B10_0) = ρ.set 1 z ++ l := fun l y z => by
    rw [List.set_append_left _ _ (by simp; omega), List.set_set, set_back]
    rw [List.getElem?_set_ne (by decide)]; exact h3
  rw [call_yld (h := h3) (hok := yo10_0) (hl := rfl)]
  conv => arg 1; arg 7; unfold A10_0 rangeA c10 Try.f10; simp only [rangeIn, Option.getD_some, if_true]
  simp only [go_sem, asgK, setSt, a1, a2]
  conv => arg 1; arg 7; unfold B10_0 rangeB c10 Try.f10; simp only [rangeIn, Option.getD_some, if_true]
  simp only [go_sem, hE, a3, a4, a5, a6, a7, a8, e1a, e1r, yldK, endYield, yldRet, setSt]
  exact Sat.ok hQ
def hedge_walk (z : Nat) : Nat → Node → Int → Int → Int × List hedge_Info → Option (Int × List hedge_Info)
  | 0, _, _, _, _ => none
  | n + 1, x, p, i, s =>
    (hedge_Size z [x]).bind fun v1 =>
    (app 32 s.2 [⟨x.Label, p, i, w64 (w64 (s.1 + v1) - 1)⟩]).bind fun o1 =>
    rangeL x.Kids (w64 (s.1 + 1), o1) (fun _ i1 x1 s1 n1 => (hedge_walk z n x1 s.1 (i1 : Int) s1).bind fun v => n1 v) fun s1 => some s1
theorem spec60 {E : Env} (hE : get E 6 = .ptr 1 0) (z : Nat) : ∀ (n : Nat) (σ : List AObj) (w : WF E σ) (x : Node) (p i : Int) (s r : Int × List hedge_Info), hedge_walk z n x p i s = some r →
    call Try.prog T H (.fn 60) [.p (.agg [iv x.Label, .sl none 2 (List.map row_Node x.Kids)]), .p (iv p), .p (iv i), .ptr 5 0, .ptr 4 0, .ptr 6 0] (wS σ s) = some (.ret (.p (bv true)), wS σ r) := by
  intro n
  induction n with
  | zero => intro σ w x p i s r h; cases h
  | succ n ih =>
    intro σ w x p i s r h
    refine Sat.fn fun Q hQ => ?_
    rw [hedge_walk] at h
    obtain ⟨v1, e_v1, h⟩ := ob h
    have e_v1c : call Try.prog T H (.fn 28) [.p (.sl none 2 [[iv x.Label, .sl none 2 (List.map row_Node x.Kids)]])] [] = some (.ret (.p (iv v1)), []) := by
      have q := spec28 z [x] v1 e_v1
      simp only [List.map_cons, List.map_nil, row_Node_eq x] at q
      exact q
    obtain ⟨o1, e1, h⟩ := ob h
    have hl := w.len
    have b5 : ∀ s l, (wS σ s ++ l)[5]? = some (.cells [.p (iv s.1)]) := fun s l => by rw [List.getElem?_append_left (by rw [wS_len]; omega), wS_5 _ hl]
    have b5n : ∀ s, (wS σ s)[5]? = some (.cells [.p (iv s.1)]) := fun s => wS_5 _ hl
    have bs5 : ∀ s l m, (wS σ s ++ l).set 5 (.cells [.p (iv m)]) = wS σ (m, s.2) ++ l := fun s l m => by rw [List.set_append_left _ _ (by rw [wS_len]; omega), wS_set5]
    have b4 : ∀ s l, (wS σ s ++ l)[4]? = some (.cells [.yld 3]) := fun s l => by rw [List.getElem?_append_left (by rw [wS_len]; omega), wS_get _ _ (by decide) (by decide), w.o4]
    have b6 : ∀ s l, (wS σ s ++ l)[6]? = some (.cells [.fn 60 [.ptr 5 0, .ptr 4 0, .ptr 6 0]]) := fun s l => by rw [List.getElem?_append_left (by rw [wS_len]; omega), wS_get _ _ (by decide) (by decide), w.o6]
    have g0 : ∀ s l, (wS σ s ++ l)[σ.length]? = l[0]? := fun s l => sA0 (wS_len σ s)
    have gk : ∀ s l k, (wS σ s ++ l)[σ.length + k]? = l[k]? := fun s l k => sAK (wS_len σ s)
    have s0 : ∀ s l y, (wS σ s ++ l).set σ.length y = wS σ s ++ l.set 0 y := fun s l y => sS0 (wS_len σ s)
    have sk : ∀ s l y k, (wS σ s ++ l).set (σ.length + k) y = wS σ s ++ l.set k y := fun s l y k => sSK (wS_len σ s)
    have t0 : ∀ s l, (wS σ s ++ l).take σ.length = wS σ s := fun s l => sT0 (wS_len σ s)
    have tk : ∀ s l k, (wS σ s ++ l).take (σ.length + k) = wS σ s ++ l.take k := fun s l k => sTK (wS_len σ s)
    have tx : ∀ s, (wS σ s).take σ.length = wS σ s := fun s => sTX (wS_len σ s)
    have yy : ∀ l, call Try.prog T H (.yld 3) [.p (iv s.1), .p (.agg [iv x.Label, iv p, iv i, iv (w64 (w64 (s.1 + v1) - 1))])] (wS σ (w64 (s.1 + 1), s.2) ++ l) = some (.ret (.p (bv true)), wS σ (w64 (s.1 + 1), o1) ++ l) := fun l => by
      have q := yield10 hE (ρ := wS σ (w64 (s.1 + 1), s.2) ++ l) (by rw [List.length_append, wS_len]; omega) (by rw [List.getElem?_append_left (by rw [wS_len]; omega), wS_get _ _ (by decide) (by decide), w.o3]) s.2 o1 (by rw [List.getElem?_append_left (by rw [wS_len]; omega), wS_1 _ hl]) s.1 _ e1
      rw [List.set_append_left _ _ (by rw [wS_len]; omega), wS_set1] at q
      exact q
    rw [call60]
    conv => arg 1; arg 7; unfold c60 Try.f60; simp only [Option.getD_some]
    simp only [go_sem, wS_len, b5, b5n, bs5, b4, b6, g0, gk, s0, sk, t0, tk, tx, yy, e_v1c]
    refine run_rangeL (c := L60_0) (live := [5, 10, 32, 33, 34]) (by simp only [go_sem]) (M := fun i1 (s1 : Int × List hedge_Info) => [(5, .ptr 6 0), (10, .p (iv s.1)), (32, .p (.sl none 2 (List.map row_Node x.Kids))), (33, .p (iv (x.Kids.length : Int))), (34, .p (iv (i1 : Int)))]) (Z := fun i1 s1 => wS σ s1 ++ [.cells [.p (iv x.Label), .p (.sl none 2 (List.map row_Node x.Kids))]]) (N := fun s1 => ⟨[], wS σ s1 ++ [.cells [.p (iv x.Label), .p (.sl none 2 (List.map row_Node x.Kids))]], [], none, false⟩) h rfl rfl (fun _ _ => rfl) ?_ ?_ ?_
    · intro s1 h
      try dsimp only at h ⊢
      simp only [go_sem, wS_len, b5, b5n, bs5, b4, b6, g0, gk, s0, sk, t0, tk, tx]
      injection h with h; subst h
      exact Sat.ok hQ
    · intro K1 s1 hb1 he1
      try dsimp only
      conv => arg 1; arg 7; unfold L60_0 loopAt c60 Try.f60; simp only [loopIn, Option.getD_some, if_true]
      simp only [go_sem, he1, wS_len, b5, b5n, bs5, b4, b6, g0, gk, s0, sk, t0, tk, tx]
      exact hb1
    · intro K1 k1 i1 x1 s1 n1 hR1 hE1 hb1 hx1 hi1 hw1 ih1 h
      try dsimp only at h ⊢
      conv => arg 1; arg 7; unfold L60_0 loopAt c60 Try.f60; simp only [loopIn, Option.getD_some, if_true]
      obtain ⟨v2, e_v2, h⟩ := ob h
      have e_v2c : ∀ l, call Try.prog T H (.fn 60) [.p (.agg [iv x1.Label, .sl none 2 (List.map row_Node x1.Kids)]), .p (iv s.1), .p (iv (i1 : Int)), .ptr 5 0, .ptr 4 0, .ptr 6 0] (wS σ s1 ++ l) = some (.ret (.p (bv true)), wS σ v2 ++ l) := fun l => by
        have q := ih (σ ++ l) (w.app l) x1 s.1 (i1 : Int) s1 v2 e_v2
        rw [← wS_app _ hl, ← wS_app _ hl] at q
        exact q
      have c6 : 6 < σ.length + 1 := by omega
      simp only [go_sem, hx1, hi1, hw1, c6, e_v2c, hR1, hE1, wS_len, b5, b5n, bs5, b4, b6, g0, gk, s0, sk, t0, tk, tx]
      exact ih1 _ h
def hedge_Nodes (n : Nat) (a : Int) (x : Node) : Option (List hedge_Info × Int) :=
  (hedge_Valid n a x).bind fun v1 =>
  if v1 = true then (hedge_walk n n x (-1) 0 (0, [])).bind fun v => some (v.2, 0)
  else some ([], 1)
theorem spec10 (n : Nat) (a : Int) (x : Node) (r : List hedge_Info × Int) (h : hedge_Nodes n a x = some r) :
    call Try.prog T H (.fn 10) [.p (iv a), .p (.agg [iv x.Label, .sl none 2 (List.map row_Node x.Kids)])] [] = some (.ret (.p (.tup [.sl none 4 (List.map row_hedge_Info r.1), iv r.2])), []) := by
  refine Sat.fn fun Q hQ => ?_
  unfold hedge_Nodes at h
  obtain ⟨v1, e_v1, h⟩ := ob h
  have e_v1c : call Try.prog T H (.fn 23) [.p (iv a), .p (.agg [iv x.Label, .sl none 2 (List.map row_Node x.Kids)])] [] = some (.ret (.p (bv v1)), []) := spec23 n a x v1 e_v1
  rw [call10, cf10]
  conv => arg 1; arg 7; unfold c10 Try.f10; simp only [Option.getD_some, foldR, if_true]
  by_cases c1 : v1 = true
  · have h := iteT h c1
    obtain ⟨v, e_v, h⟩ := ob h
    simp only [go_sem, e_v1c, c1]
    refine Sat.callc ?_
    rw [call37]
    conv => arg 1; arg 7; unfold c37 Try.f37; simp only [Option.getD_some]
    simp only [go_sem]
    refine Sat.ok ?_
    simp only [go_sem]
    have q : ∀ E c, get E 6 = .ptr 1 0 → call Try.prog T H (.fn 60) [.p (.agg [iv x.Label, .sl none 2 (List.map row_Node x.Kids)]), .p (iv (-1)), .p (iv 0), .ptr 5 0, .ptr 4 0, .ptr 6 0] [c, .cells [.own 4 []], c, .loop 0 none 22 10 E [15, 16] A10_0 B10_0, .cells [.yld 3], .cells [.p (iv 0)], .cells [.fn 60 [.ptr 5 0, .ptr 4 0, .ptr 6 0]]] = some (.ret (.p (bv true)), [c, .cells [.own 4 (v.2.map row_hedge_Info)], c, .loop 0 none 22 10 E [15, 16] A10_0 B10_0, .cells [.yld 3], .cells [.p (iv v.1)], .cells [.fn 60 [.ptr 5 0, .ptr 4 0, .ptr 6 0]]]) := fun E c hE =>
      spec60 hE n n [c, .cells [.own 4 []], c, .loop 0 none 22 10 E [15, 16] A10_0 B10_0, .cells [.yld 3], .cells [.p (iv 0)], .cells [.fn 60 [.ptr 5 0, .ptr 4 0, .ptr 6 0]]] ⟨Nat.le_refl _, rfl, rfl, rfl⟩ x (-1) 0 (0, []) v e_v
    refine Sat.callrange ?_
    rw [call59]
    conv => arg 1; arg 7; unfold c59 Try.f59; simp only [Option.getD_some]
    simp only [go_sem, q]
    refine Sat.ok ?_
    simp only [go_sem, rangeK_ok, atLoop_some, pendK_none]
    injection h with h; subst h
    exact Sat.ok hQ
  · have h := iteF h c1
    have c1 := eq_false_of_ne_true c1
    simp only [go_sem, e_v1c, c1]
    injection h with h; subst h
    exact Sat.ok hQ
end Go.AM.S02

namespace Go.AM.S02
open Go Go.Proofs Go.AM
set_option maxRecDepth 100000
set_option linter.unusedVariables false
set_option maxHeartbeats 4000000


def hedge_Encode (n : Nat) (a0 : Int) (a1 : List Node) : Option (Tree × Int) :=
  (hedge_ValidHedge n a0 a1).bind fun v1 =>
  if v1 = true then
    (hedge_Size n a1).bind fun v2 =>
    if 300 < (w64 ((w64 (2 * v2)) + 1)) then
      some ((Tree.mk 0 ([] : List Tree)), 3)
    else
      (hedge_encode n a0 a1).bind fun v3 =>
      some (v3, 0)
  else
    some ((Tree.mk 0 ([] : List Tree)), 1)
theorem spec14 (n : Nat) (a0 : Int) (a1 : List Node) (r : Tree × Int) (h : hedge_Encode n a0 a1 = some r) :
    call Try.prog T H (.fn 14) [.p (iv a0), .p (.sl none 2 (List.map row_Node a1))] [] = some (.ret (.p (.tup [.agg [iv r.1.Sym, .sl none 2 (List.map row_Tree r.1.Kids)], iv r.2])), []) := by
  refine Sat.fn fun Q hQ => ?_
  unfold hedge_Encode at h
  rw [call14]
  conv => arg 1; arg 7; unfold S02.c14 Try.f14; simp only [Option.getD_some]
  obtain ⟨v1, e_v1, h⟩ := ob h
  have e_v1c : call Try.prog T H (.fn 25) [.p (iv a0), .p (.sl none 2 (List.map row_Node a1))] [] = some (.ret (.p (bv v1)), []) := spec25 n a0 a1 v1 e_v1
  by_cases c1 : v1 = true
  · have h := iteT h c1
    obtain ⟨v2, e_v2, h⟩ := ob h
    have e_v2c : call Try.prog T H (.fn 28) [.p (.sl none 2 (List.map row_Node a1))] [] = some (.ret (.p (iv v2)), []) := spec28 n a1 v2 e_v2
    by_cases c2 : 300 < (w64 ((w64 (2 * v2)) + 1))
    · have h := iteT h c2
      simp only [go_sem, e_v1c, c1, e_v2c, c2]
      injection h with h; subst h
      exact Sat.ok hQ
    · have h := iteF h c2
      obtain ⟨v3, e_v3, h⟩ := ob h
      have e_v3c : call Try.prog T H (.fn 40) [.p (iv a0), .p (.sl none 2 (List.map row_Node a1))] [] = some (.ret (.p (.agg [iv v3.Sym, .sl none 2 (List.map row_Tree v3.Kids)])), []) := spec40 n a0 a1 v3 e_v3
      simp only [go_sem, e_v1c, c1, e_v2c, c2, e_v3c]
      injection h with h; subst h
      exact Sat.ok hQ
  · have h := iteF h c1
    have c1 := eq_false_of_ne_true c1
    simp only [go_sem, e_v1c, c1]
    injection h with h; subst h
    exact Sat.ok hQ

def law02_awake (n : Nat)  : Option Bool :=
  (hedge_Encode n 2 [(Node.mk 0 [(Node.mk 1 ([] : List Node))]), (Node.mk 1 ([] : List Node))]).bind fun v1 =>
  (hedge_Nodes n 2 (Node.mk 0 [(Node.mk 1 [(Node.mk 0 ([] : List Node))]), (Node.mk 1 ([] : List Node))])).bind fun v2 =>
  if v1.2 = 0 then
    (ref01_Size n v1.1).bind fun v3 =>
    if v3 = 7 then
      if v1.1.Sym = 0 then
        (v1.1.Kids[0]?).bind fun v4 =>
        if v4.Sym = 1 then
          (v1.1.Kids[1]?).bind fun v5 =>
          if v5.Sym = 1 then
            if v2.2 = 0 then
              if (v2.1.length : Int) = 4 then
                (v2.1[1]?).bind fun v6 =>
                if v6.Label = 1 then
                  if v6.Parent = 0 then
                    if v6.Index = 0 then
                      if v6.Last = 2 then
                        some true
                      else
                        some false
                    else
                      some false
                  else
                    some false
                else
                  some false
              else
                some false
            else
              some false
          else
            some false
        else
          some false
      else
        some false
    else
      some false
  else
    some false
theorem spec9 (n : Nat)  (r : Bool) (h : law02_awake n = some r) :
    call Try.prog T H (.fn 9) [] [] = some (.ret (.p (bv r)), []) := by
  refine Sat.fn fun Q hQ => ?_
  unfold law02_awake at h
  rw [call9]
  conv => arg 1; arg 7; unfold S02.c9 Try.f9; simp only [Option.getD_some]
  obtain ⟨v1, e_v1, h⟩ := ob h
  have e_v1c : call Try.prog T H (.fn 14) [.p (iv 2), .p (.sl none 2 [[iv 0, .sl none 2 [[iv 1, .sl none 2 []]]], [iv 1, .sl none 2 []]])] [] = some (.ret (.p (.tup [.agg [iv v1.1.Sym, .sl none 2 (List.map row_Tree v1.1.Kids)], iv v1.2])), []) := by have q := spec14 n 2 [(Node.mk 0 [(Node.mk 1 ([] : List Node))]), (Node.mk 1 ([] : List Node))] v1 e_v1; simp only [List.map_cons, List.map_nil, row_Node_eq] at q ⊢; exact q
  obtain ⟨v2, e_v2, h⟩ := ob h
  have e_v2c : call Try.prog T H (.fn 10) [.p (iv 2), .p (.agg [iv 0, .sl none 2 [[iv 1, .sl none 2 [[iv 0, .sl none 2 []]]], [iv 1, .sl none 2 []]]])] [] = some (.ret (.p (.tup [.sl none 4 (List.map row_hedge_Info v2.1), iv v2.2])), []) := by have q := spec10 n 2 (Node.mk 0 [(Node.mk 1 [(Node.mk 0 ([] : List Node))]), (Node.mk 1 ([] : List Node))]) v2 e_v2; simp only [List.map_cons, List.map_nil, row_Node_eq] at q ⊢; exact q
  by_cases c1 : v1.2 = 0
  · have h := iteT h c1
    have c1b : (v1.2 == 0) = true := beqT c1
    obtain ⟨v3, e_v3, h⟩ := ob h
    have e_v3c : call Try.prog T H (.fn 36) [.p (.agg [iv v1.1.Sym, .sl none 2 (List.map row_Tree v1.1.Kids)])] [] = some (.ret (.p (iv v3)), []) := spec36 n v1.1 v3 e_v3
    by_cases c2 : v3 = 7
    · have h := iteT h c2
      have c2b : (v3 == 7) = true := beqT c2
      by_cases c3 : v1.1.Sym = 0
      · have h := iteT h c3
        have c3b : (v1.1.Sym == 0) = true := beqT c3
        obtain ⟨v4, e_v4, h⟩ := ob h
        by_cases c4 : v4.Sym = 1
        · have h := iteT h c4
          have c4b : (v4.Sym == 1) = true := beqT c4
          obtain ⟨v5, e_v5, h⟩ := ob h
          by_cases c5 : v5.Sym = 1
          · have h := iteT h c5
            have c5b : (v5.Sym == 1) = true := beqT c5
            by_cases c6 : v2.2 = 0
            · have h := iteT h c6
              have c6b : (v2.2 == 0) = true := beqT c6
              by_cases c7 : (v2.1.length : Int) = 4
              · have h := iteT h c7
                have c7b : ((v2.1.length : Int) == 4) = true := beqT c7
                obtain ⟨v6, e_v6, h⟩ := ob h
                by_cases c8 : v6.Label = 1
                · have h := iteT h c8
                  have c8b : (v6.Label == 1) = true := beqT c8
                  by_cases c9 : v6.Parent = 0
                  · have h := iteT h c9
                    have c9b : (v6.Parent == 0) = true := beqT c9
                    by_cases c10 : v6.Index = 0
                    · have h := iteT h c10
                      have c10b : (v6.Index == 0) = true := beqT c10
                      by_cases c11 : v6.Last = 2
                      · have h := iteT h c11
                        have c11b : (v6.Last == 2) = true := beqT c11
                        simp only [go_sem, e_v1c, e_v2c, c1b, e_v3c, c2b, c3b, e_v4, c4b, e_v5, c5b, c6b, c7b, e_v6, c8b, c9b, c10b, c11b]
                        injection h with h; subst h
                        exact Sat.ok hQ
                      · have h := iteF h c11
                        have c11b : (v6.Last == 2) = false := beqF c11
                        simp only [go_sem, e_v1c, e_v2c, c1b, e_v3c, c2b, c3b, e_v4, c4b, e_v5, c5b, c6b, c7b, e_v6, c8b, c9b, c10b, c11b]
                        injection h with h; subst h
                        exact Sat.ok hQ
                    · have h := iteF h c10
                      have c10b : (v6.Index == 0) = false := beqF c10
                      simp only [go_sem, e_v1c, e_v2c, c1b, e_v3c, c2b, c3b, e_v4, c4b, e_v5, c5b, c6b, c7b, e_v6, c8b, c9b, c10b]
                      injection h with h; subst h
                      exact Sat.ok hQ
                  · have h := iteF h c9
                    have c9b : (v6.Parent == 0) = false := beqF c9
                    simp only [go_sem, e_v1c, e_v2c, c1b, e_v3c, c2b, c3b, e_v4, c4b, e_v5, c5b, c6b, c7b, e_v6, c8b, c9b]
                    injection h with h; subst h
                    exact Sat.ok hQ
                · have h := iteF h c8
                  have c8b : (v6.Label == 1) = false := beqF c8
                  simp only [go_sem, e_v1c, e_v2c, c1b, e_v3c, c2b, c3b, e_v4, c4b, e_v5, c5b, c6b, c7b, e_v6, c8b]
                  injection h with h; subst h
                  exact Sat.ok hQ
              · have h := iteF h c7
                have c7b : ((v2.1.length : Int) == 4) = false := beqF c7
                simp only [go_sem, e_v1c, e_v2c, c1b, e_v3c, c2b, c3b, e_v4, c4b, e_v5, c5b, c6b, c7b]
                injection h with h; subst h
                exact Sat.ok hQ
            · have h := iteF h c6
              have c6b : (v2.2 == 0) = false := beqF c6
              simp only [go_sem, e_v1c, e_v2c, c1b, e_v3c, c2b, c3b, e_v4, c4b, e_v5, c5b, c6b]
              injection h with h; subst h
              exact Sat.ok hQ
          · have h := iteF h c5
            have c5b : (v5.Sym == 1) = false := beqF c5
            simp only [go_sem, e_v1c, e_v2c, c1b, e_v3c, c2b, c3b, e_v4, c4b, e_v5, c5b]
            injection h with h; subst h
            exact Sat.ok hQ
        · have h := iteF h c4
          have c4b : (v4.Sym == 1) = false := beqF c4
          simp only [go_sem, e_v1c, e_v2c, c1b, e_v3c, c2b, c3b, e_v4, c4b]
          injection h with h; subst h
          exact Sat.ok hQ
      · have h := iteF h c3
        have c3b : (v1.1.Sym == 0) = false := beqF c3
        simp only [go_sem, e_v1c, e_v2c, c1b, e_v3c, c2b, c3b]
        injection h with h; subst h
        exact Sat.ok hQ
    · have h := iteF h c2
      have c2b : (v3 == 7) = false := beqF c2
      simp only [go_sem, e_v1c, e_v2c, c1b, e_v3c, c2b]
      injection h with h; subst h
      exact Sat.ok hQ
  · have h := iteF h c1
    have c1b : (v1.2 == 0) = false := beqF c1
    simp only [go_sem, e_v1c, e_v2c, c1b]
    injection h with h; subst h
    exact Sat.ok hQ

def ref02_Nodes (n : Nat) (a0 : Int) (a1 : Node) : Option ((List ref02_Info) × Int) :=
  (ref02_Valid n a0 a1).bind fun v1 =>
  if v1 = true then
    (ref02_List n a1).bind fun v2 =>
    some (v2, 0)
  else
    some (([] : List ref02_Info), 1)
theorem spec11 (n : Nat) (a0 : Int) (a1 : Node) (r : (List ref02_Info) × Int) (h : ref02_Nodes n a0 a1 = some r) :
    call Try.prog T H (.fn 11) [.p (iv a0), .p (.agg [iv a1.Label, .sl none 2 (List.map row_Node a1.Kids)])] [] = some (.ret (.p (.tup [.sl none 4 (List.map row_ref02_Info r.1), iv r.2])), []) := by
  refine Sat.fn fun Q hQ => ?_
  unfold ref02_Nodes at h
  rw [call11]
  conv => arg 1; arg 7; unfold S02.c11 Try.f11; simp only [Option.getD_some]
  obtain ⟨v1, e_v1, h⟩ := ob h
  have e_v1c : call Try.prog T H (.fn 24) [.p (iv a0), .p (.agg [iv a1.Label, .sl none 2 (List.map row_Node a1.Kids)])] [] = some (.ret (.p (bv v1)), []) := spec24 n a0 a1 v1 e_v1
  by_cases c1 : v1 = true
  · have h := iteT h c1
    obtain ⟨v2, e_v2, h⟩ := ob h
    have e_v2c : call Try.prog T H (.fn 38) [.p (.agg [iv a1.Label, .sl none 2 (List.map row_Node a1.Kids)])] [] = some (.ret (.p (.sl none 4 (List.map row_ref02_Info v2))), []) := spec38 n a1 v2 e_v2
    simp only [go_sem, e_v1c, c1, e_v2c]
    injection h with h; subst h
    exact Sat.ok hQ
  · have h := iteF h c1
    have c1 := eq_false_of_ne_true c1
    simp only [go_sem, e_v1c, c1]
    injection h with h; subst h
    exact Sat.ok hQ

def law02_HedgeNodes (n : Nat) (a0 : Int) (a1 : Node) : Option Bool :=
  (ref02_Few n [a1] 2000).bind fun v1 =>
  if v1 = true then
    (hedge_Nodes n a0 a1).bind fun v2 =>
    (ref02_Nodes n a0 a1).bind fun v3 =>
    if v2.2 = v3.2 then
      (law02_same v2.1 v3.1).bind fun v4 =>
      if v4 = true then
        (law02_awake n).bind fun v5 =>
        some v5
      else
        some false
    else
      some false
  else
    (law02_awake n).bind fun v6 =>
    some v6
theorem spec3 (n : Nat) (a0 : Int) (a1 : Node) (r : Bool) (h : law02_HedgeNodes n a0 a1 = some r) :
    call Try.prog T H (.fn 3) [.p (iv a0), .p (.agg [iv a1.Label, .sl none 2 (List.map row_Node a1.Kids)])] [] = some (.ret (.p (bv r)), []) := by
  refine Sat.fn fun Q hQ => ?_
  unfold law02_HedgeNodes at h
  rw [call3]
  conv => arg 1; arg 7; unfold S02.c3 Try.f3; simp only [Option.getD_some]
  obtain ⟨v1, e_v1, h⟩ := ob h
  have e_v1c : call Try.prog T H (.fn 8) [.p (.sl none 2 [[iv a1.Label, .sl none 2 (List.map row_Node a1.Kids)]]), .p (iv 2000)] [] = some (.ret (.p (bv v1)), []) := by have q := spec8 n [a1] 2000 v1 e_v1; simp only [List.map_cons, List.map_nil, row_Node_eq] at q ⊢; exact q
  by_cases c1 : v1 = true
  · have h := iteT h c1
    obtain ⟨v2, e_v2, h⟩ := ob h
    have e_v2c : call Try.prog T H (.fn 10) [.p (iv a0), .p (.agg [iv a1.Label, .sl none 2 (List.map row_Node a1.Kids)])] [] = some (.ret (.p (.tup [.sl none 4 (List.map row_hedge_Info v2.1), iv v2.2])), []) := spec10 n a0 a1 v2 e_v2
    obtain ⟨v3, e_v3, h⟩ := ob h
    have e_v3c : call Try.prog T H (.fn 11) [.p (iv a0), .p (.agg [iv a1.Label, .sl none 2 (List.map row_Node a1.Kids)])] [] = some (.ret (.p (.tup [.sl none 4 (List.map row_ref02_Info v3.1), iv v3.2])), []) := spec11 n a0 a1 v3 e_v3
    by_cases c2 : v2.2 = v3.2
    · have h := iteT h c2
      have c2b : (v2.2 == v3.2) = true := beqT c2
      obtain ⟨v4, e_v4, h⟩ := ob h
      have e_v4c : call Try.prog T H (.fn 12) [.p (.sl none 4 (List.map row_hedge_Info v2.1)), .p (.sl none 4 (List.map row_ref02_Info v3.1))] [] = some (.ret (.p (bv v4)), []) := spec12 v2.1 v3.1 v4 e_v4
      by_cases c3 : v4 = true
      · have h := iteT h c3
        obtain ⟨v5, e_v5, h⟩ := ob h
        have e_v5c : call Try.prog T H (.fn 9) [] [] = some (.ret (.p (bv v5)), []) := spec9 n v5 e_v5
        simp only [go_sem, e_v1c, c1, e_v2c, e_v3c, c2b, e_v4c, c3, e_v5c]
        injection h with h; subst h
        exact Sat.ok hQ
      · have h := iteF h c3
        have c3 := eq_false_of_ne_true c3
        simp only [go_sem, e_v1c, c1, e_v2c, e_v3c, c2b, e_v4c, c3]
        injection h with h; subst h
        exact Sat.ok hQ
    · have h := iteF h c2
      have c2b : (v2.2 == v3.2) = false := beqF c2
      simp only [go_sem, e_v1c, c1, e_v2c, e_v3c, c2b]
      injection h with h; subst h
      exact Sat.ok hQ
  · have h := iteF h c1
    have c1 := eq_false_of_ne_true c1
    obtain ⟨v6, e_v6, h⟩ := ob h
    have e_v6c : call Try.prog T H (.fn 9) [] [] = some (.ret (.p (bv v6)), []) := spec9 n v6 e_v6
    simp only [go_sem, e_v1c, c1, e_v6c]
    injection h with h; subst h
    exact Sat.ok hQ

def law02_HedgeParts (n : Nat) (a0 : Int) (a1 : Node) (a2 : Int) (a3 : Int) : Option Bool :=
  (ref02_Few n [a1] 2000).bind fun v1 =>
  if v1 = true then
    (hedge_Nodes n a0 a1).bind fun v2 =>
    if v2.2 = 0 then
      if a2 < 0 then
        (law02_awake n).bind fun v3 =>
        some v3
      else
        if a3 < 0 then
          (law02_awake n).bind fun v4 =>
          some v4
        else
          if (v2.1.length : Int) ≤ a2 then
            (law02_awake n).bind fun v5 =>
            some v5
          else
            if (v2.1.length : Int) ≤ a3 then
              (law02_awake n).bind fun v6 =>
              some v6
            else
              whileL n a3 (fun k1 (s1 : Int) n1 =>
                if a2 < s1 then
                  (idx v2.1 s1).bind fun v10 =>
                  if v10.Parent < (-1) then
                    some false
                  else
                    if s1 ≤ v10.Parent then
                      some false
                    else
                      n1 v10.Parent
                else
                  k1 s1) fun s1 =>
              if a2 ≤ a3 then
                (idx v2.1 a2).bind fun v7 =>
                if (s1 == a2) = (decide (a3 ≤ v7.Last)) then
                  (law02_awake n).bind fun v8 =>
                  some v8
                else
                  some false
              else
                if (s1 == a2) = false then
                  (law02_awake n).bind fun v9 =>
                  some v9
                else
                  some false
    else
      (law02_awake n).bind fun v11 =>
      some v11
  else
    (law02_awake n).bind fun v12 =>
    some v12
theorem spec4 (n : Nat) (a0 : Int) (a1 : Node) (a2 : Int) (a3 : Int) (r : Bool) (h : law02_HedgeParts n a0 a1 a2 a3 = some r) :
    call Try.prog T H (.fn 4) [.p (iv a0), .p (.agg [iv a1.Label, .sl none 2 (List.map row_Node a1.Kids)]), .p (iv a2), .p (iv a3)] [] = some (.ret (.p (bv r)), []) := by
  refine Sat.fn fun Q hQ => ?_
  unfold law02_HedgeParts at h
  rw [call4]
  conv => arg 1; arg 7; unfold S02.c4 Try.f4; simp only [Option.getD_some]
  obtain ⟨v1, e_v1, h⟩ := ob h
  have e_v1c : call Try.prog T H (.fn 8) [.p (.sl none 2 [[iv a1.Label, .sl none 2 (List.map row_Node a1.Kids)]]), .p (iv 2000)] [] = some (.ret (.p (bv v1)), []) := by have q := spec8 n [a1] 2000 v1 e_v1; simp only [List.map_cons, List.map_nil, row_Node_eq] at q ⊢; exact q
  by_cases c1 : v1 = true
  · have h := iteT h c1
    obtain ⟨v2, e_v2, h⟩ := ob h
    have e_v2c : call Try.prog T H (.fn 10) [.p (iv a0), .p (.agg [iv a1.Label, .sl none 2 (List.map row_Node a1.Kids)])] [] = some (.ret (.p (.tup [.sl none 4 (List.map row_hedge_Info v2.1), iv v2.2])), []) := spec10 n a0 a1 v2 e_v2
    by_cases c2 : v2.2 = 0
    · have h := iteT h c2
      have c2b : (v2.2 != 0) = false := bneF c2
      by_cases c3 : a2 < 0
      · have h := iteT h c3
        obtain ⟨v3, e_v3, h⟩ := ob h
        have e_v3c : call Try.prog T H (.fn 9) [] [] = some (.ret (.p (bv v3)), []) := spec9 n v3 e_v3
        simp only [go_sem, e_v1c, c1, e_v2c, c2b, c3, e_v3c]
        injection h with h; subst h
        exact Sat.ok hQ
      · have h := iteF h c3
        by_cases c4 : a3 < 0
        · have h := iteT h c4
          obtain ⟨v4, e_v4, h⟩ := ob h
          have e_v4c : call Try.prog T H (.fn 9) [] [] = some (.ret (.p (bv v4)), []) := spec9 n v4 e_v4
          simp only [go_sem, e_v1c, c1, e_v2c, c2b, c3, c4, e_v4c]
          injection h with h; subst h
          exact Sat.ok hQ
        · have h := iteF h c4
          by_cases c5 : (v2.1.length : Int) ≤ a2
          · have h := iteT h c5
            obtain ⟨v5, e_v5, h⟩ := ob h
            have e_v5c : call Try.prog T H (.fn 9) [] [] = some (.ret (.p (bv v5)), []) := spec9 n v5 e_v5
            simp only [go_sem, e_v1c, c1, e_v2c, c2b, c3, c4, c5, e_v5c]
            injection h with h; subst h
            exact Sat.ok hQ
          · have h := iteF h c5
            by_cases c6 : (v2.1.length : Int) ≤ a3
            · have h := iteT h c6
              obtain ⟨v6, e_v6, h⟩ := ob h
              have e_v6c : call Try.prog T H (.fn 9) [] [] = some (.ret (.p (bv v6)), []) := spec9 n v6 e_v6
              simp only [go_sem, e_v1c, c1, e_v2c, c2b, c3, c4, c5, c6, e_v6c]
              injection h with h; subst h
              exact Sat.ok hQ
            · have h := iteF h c6
              simp only [go_sem, e_v1c, c1, e_v2c, c2b, c3, c4, c5, c6]
              refine run_whileL (c := L4_0) (live := [2, 3, 9, 11]) (by simp only [go_sem]) (M := fun (s1 : Int) => [(2, .p (iv a2)), (3, .p (iv a3)), (9, .p (.sl none 4 (List.map row_hedge_Info v2.1))), (11, .p (iv s1))]) (Z := fun (s1 : Int) => [.cells [.p (iv a1.Label), .p (.sl none 2 (List.map row_Node a1.Kids))]]) (N := fun (s1 : Int) => ⟨[(2, .p (iv a2)), (3, .p (iv a3)), (9, .p (.sl none 4 (List.map row_hedge_Info v2.1))), (11, .p (iv s1))], [.cells [.p (iv a1.Label), .p (.sl none 2 (List.map row_Node a1.Kids))]], [], none, false⟩) h rfl rfl (fun _ => rfl) ?_ ?_
              · intro s1 h
                try dsimp only at h ⊢
                by_cases c7 : a2 ≤ a3
                · have h := iteT h c7
                  obtain ⟨v7, e_v7, h⟩ := ob h
                  obtain ⟨e_v7a, e_v7b⟩ := idx_some e_v7
                  by_cases c8 : (s1 == a2) = (decide (a3 ≤ v7.Last))
                  · have h := iteT h c8
                    have c8b : ((s1 == a2) == (decide (a3 ≤ v7.Last))) = true := beqT c8
                    obtain ⟨v8, e_v8, h⟩ := ob h
                    have e_v8c : call Try.prog T H (.fn 9) [] [] = some (.ret (.p (bv v8)), []) := spec9 n v8 e_v8
                    simp only [go_sem, c7, e_v7a, e_v7b, c8b, e_v8c]
                    injection h with h; subst h
                    exact Sat.ok hQ
                  · have h := iteF h c8
                    have c8b : ((s1 == a2) == (decide (a3 ≤ v7.Last))) = false := beqF c8
                    simp only [go_sem, c7, e_v7a, e_v7b, c8b]
                    injection h with h; subst h
                    exact Sat.ok hQ
                · have h := iteF h c7
                  by_cases c9 : (s1 == a2) = false
                  · have h := iteT h c9
                    have c9b : ((s1 == a2) == false) = true := beqT c9
                    obtain ⟨v9, e_v9, h⟩ := ob h
                    have e_v9c : call Try.prog T H (.fn 9) [] [] = some (.ret (.p (bv v9)), []) := spec9 n v9 e_v9
                    simp only [go_sem, c7, c9b, e_v9c]
                    injection h with h; subst h
                    exact Sat.ok hQ
                  · have h := iteF h c9
                    have c9b : ((s1 == a2) == false) = false := beqF c9
                    simp only [go_sem, c7, c9b]
                    injection h with h; subst h
                    exact Sat.ok hQ
              · intro K1 k1 s1 n1 hR1 hE1 hb1 ih1 h
                try dsimp only at h ⊢
                conv => arg 1; arg 7; unfold L4_0 loopAt S02.c4 Try.f4; simp only [loopIn, Option.getD_some, if_true]
                by_cases c10 : a2 < s1
                · have h := iteT h c10
                  obtain ⟨v10, e_v10, h⟩ := ob h
                  obtain ⟨e_v10a, e_v10b⟩ := idx_some e_v10
                  by_cases c11 : v10.Parent < (-1)
                  · have h := iteT h c11
                    simp only [go_sem, c10, e_v10a, e_v10b, c11, hR1, hE1]
                    injection h with h; subst h
                    exact Sat.ok hQ
                  · have h := iteF h c11
                    by_cases c12 : s1 ≤ v10.Parent
                    · have h := iteT h c12
                      simp only [go_sem, c10, e_v10a, e_v10b, c11, c12, hR1, hE1]
                      injection h with h; subst h
                      exact Sat.ok hQ
                    · have h := iteF h c12
                      simp only [go_sem, c10, e_v10a, e_v10b, c11, c12, hR1, hE1]
                      exact ih1 _ h
                · have h := iteF h c10
                  simp only [go_sem, c10, hR1, hE1]
                  exact hb1 _ h
    · have h := iteF h c2
      have c2b : (v2.2 != 0) = true := bneT c2
      obtain ⟨v11, e_v11, h⟩ := ob h
      have e_v11c : call Try.prog T H (.fn 9) [] [] = some (.ret (.p (bv v11)), []) := spec9 n v11 e_v11
      simp only [go_sem, e_v1c, c1, e_v2c, c2b, e_v11c]
      injection h with h; subst h
      exact Sat.ok hQ
  · have h := iteF h c1
    have c1 := eq_false_of_ne_true c1
    obtain ⟨v12, e_v12, h⟩ := ob h
    have e_v12c : call Try.prog T H (.fn 9) [] [] = some (.ret (.p (bv v12)), []) := spec9 n v12 e_v12
    simp only [go_sem, e_v1c, c1, e_v12c]
    injection h with h; subst h
    exact Sat.ok hQ

def law02_HedgeCodes (n : Nat) (a0 : Int) (a1 : List Node) (a2 : Tree) : Option Bool :=
  (ref02_Few n a1 2000).bind fun v1 =>
  if v1 = true then
    (ref01_Few n a2 2000).bind fun v2 =>
    if v2 = true then
      (hedge_Encode n a0 a1).bind fun v3 =>
      (ref02_Encode n a0 a1).bind fun v4 =>
      (hedge_Decode n a0 a2).bind fun v5 =>
      (ref02_Decode n a0 a2).bind fun v6 =>
      if v3.2 = v4.2 then
        (ref01_Same n v3.1 v4.1).bind fun v7 =>
        if v7 = true then
          if v5.2 = v6.2 then
            (ref02_Same n v5.1 v6.1).bind fun v8 =>
            if v8 = true then
              if v3.2 = 0 then
                (hedge_Decode n a0 v3.1).bind fun v9 =>
                if v9.2 = 0 then
                  (ref02_Same n v9.1 a1).bind fun v10 =>
                  if v10 = true then
                    if v5.2 = 0 then
                      (hedge_Encode n a0 v5.1).bind fun v11 =>
                      if v11.2 = 0 then
                        (ref01_Same n v11.1 a2).bind fun v12 =>
                        if v12 = true then
                          (law02_awake n).bind fun v13 =>
                          some v13
                        else
                          some false
                      else
                        some false
                    else
                      (law02_awake n).bind fun v14 =>
                      some v14
                  else
                    some false
                else
                  some false
              else
                if v5.2 = 0 then
                  (hedge_Encode n a0 v5.1).bind fun v15 =>
                  if v15.2 = 0 then
                    (ref01_Same n v15.1 a2).bind fun v16 =>
                    if v16 = true then
                      (law02_awake n).bind fun v17 =>
                      some v17
                    else
                      some false
                  else
                    some false
                else
                  (law02_awake n).bind fun v18 =>
                  some v18
            else
              some false
          else
            some false
        else
          some false
      else
        some false
    else
      (law02_awake n).bind fun v19 =>
      some v19
  else
    (law02_awake n).bind fun v20 =>
    some v20
theorem spec5 (n : Nat) (a0 : Int) (a1 : List Node) (a2 : Tree) (r : Bool) (h : law02_HedgeCodes n a0 a1 a2 = some r) :
    call Try.prog T H (.fn 5) [.p (iv a0), .p (.sl none 2 (List.map row_Node a1)), .p (.agg [iv a2.Sym, .sl none 2 (List.map row_Tree a2.Kids)])] [] = some (.ret (.p (bv r)), []) := by
  refine Sat.fn fun Q hQ => ?_
  unfold law02_HedgeCodes at h
  rw [call5]
  conv => arg 1; arg 7; unfold S02.c5 Try.f5; simp only [Option.getD_some]
  obtain ⟨v1, e_v1, h⟩ := ob h
  have e_v1c : call Try.prog T H (.fn 8) [.p (.sl none 2 (List.map row_Node a1)), .p (iv 2000)] [] = some (.ret (.p (bv v1)), []) := spec8 n a1 2000 v1 e_v1
  by_cases c1 : v1 = true
  · have h := iteT h c1
    obtain ⟨v2, e_v2, h⟩ := ob h
    have e_v2c : call Try.prog T H (.fn 13) [.p (.agg [iv a2.Sym, .sl none 2 (List.map row_Tree a2.Kids)]), .p (iv 2000)] [] = some (.ret (.p (bv v2)), []) := spec13 n a2 2000 v2 e_v2
    by_cases c2 : v2 = true
    · have h := iteT h c2
      obtain ⟨v3, e_v3, h⟩ := ob h
      have e_v3c : call Try.prog T H (.fn 14) [.p (iv a0), .p (.sl none 2 (List.map row_Node a1))] [] = some (.ret (.p (.tup [.agg [iv v3.1.Sym, .sl none 2 (List.map row_Tree v3.1.Kids)], iv v3.2])), []) := spec14 n a0 a1 v3 e_v3
      obtain ⟨v4, e_v4, h⟩ := ob h
      have e_v4c : call Try.prog T H (.fn 15) [.p (iv a0), .p (.sl none 2 (List.map row_Node a1))] [] = some (.ret (.p (.tup [.agg [iv v4.1.Sym, .sl none 2 (List.map row_Tree v4.1.Kids)], iv v4.2])), []) := spec15 n a0 a1 v4 e_v4
      obtain ⟨v5, e_v5, h⟩ := ob h
      have e_v5c : call Try.prog T H (.fn 16) [.p (iv a0), .p (.agg [iv a2.Sym, .sl none 2 (List.map row_Tree a2.Kids)])] [] = some (.ret (.p (.tup [.sl none 2 (List.map row_Node v5.1), iv v5.2])), []) := spec16 n a0 a2 v5 e_v5
      obtain ⟨v6, e_v6, h⟩ := ob h
      have e_v6c : call Try.prog T H (.fn 17) [.p (iv a0), .p (.agg [iv a2.Sym, .sl none 2 (List.map row_Tree a2.Kids)])] [] = some (.ret (.p (.tup [.sl none 2 (List.map row_Node v6.1), iv v6.2])), []) := spec17 n a0 a2 v6 e_v6
      by_cases c3 : v3.2 = v4.2
      · have h := iteT h c3
        have c3b : (v3.2 != v4.2) = false := bneF c3
        obtain ⟨v7, e_v7, h⟩ := ob h
        have e_v7c : call Try.prog T H (.fn 18) [.p (.agg [iv v3.1.Sym, .sl none 2 (List.map row_Tree v3.1.Kids)]), .p (.agg [iv v4.1.Sym, .sl none 2 (List.map row_Tree v4.1.Kids)])] [] = some (.ret (.p (bv v7)), []) := spec18 n v3.1 v4.1 v7 e_v7
        by_cases c4 : v7 = true
        · have h := iteT h c4
          by_cases c5 : v5.2 = v6.2
          · have h := iteT h c5
            have c5b : (v5.2 != v6.2) = false := bneF c5
            obtain ⟨v8, e_v8, h⟩ := ob h
            have e_v8c : call Try.prog T H (.fn 19) [.p (.sl none 2 (List.map row_Node v5.1)), .p (.sl none 2 (List.map row_Node v6.1))] [] = some (.ret (.p (bv v8)), []) := spec19 n v5.1 v6.1 v8 e_v8
            by_cases c6 : v8 = true
            · have h := iteT h c6
              by_cases c7 : v3.2 = 0
              · have h := iteT h c7
                have c7b : (v3.2 == 0) = true := beqT c7
                obtain ⟨v9, e_v9, h⟩ := ob h
                have e_v9c : call Try.prog T H (.fn 16) [.p (iv a0), .p (.agg [iv v3.1.Sym, .sl none 2 (List.map row_Tree v3.1.Kids)])] [] = some (.ret (.p (.tup [.sl none 2 (List.map row_Node v9.1), iv v9.2])), []) := spec16 n a0 v3.1 v9 e_v9
                by_cases c8 : v9.2 = 0
                · have h := iteT h c8
                  have c8b : (v9.2 != 0) = false := bneF c8
                  obtain ⟨v10, e_v10, h⟩ := ob h
                  have e_v10c : call Try.prog T H (.fn 19) [.p (.sl none 2 (List.map row_Node v9.1)), .p (.sl none 2 (List.map row_Node a1))] [] = some (.ret (.p (bv v10)), []) := spec19 n v9.1 a1 v10 e_v10
                  by_cases c9 : v10 = true
                  · have h := iteT h c9
                    by_cases c10 : v5.2 = 0
                    · have h := iteT h c10
                      have c10b : (v5.2 == 0) = true := beqT c10
                      obtain ⟨v11, e_v11, h⟩ := ob h
                      have e_v11c : call Try.prog T H (.fn 14) [.p (iv a0), .p (.sl none 2 (List.map row_Node v5.1))] [] = some (.ret (.p (.tup [.agg [iv v11.1.Sym, .sl none 2 (List.map row_Tree v11.1.Kids)], iv v11.2])), []) := spec14 n a0 v5.1 v11 e_v11
                      by_cases c11 : v11.2 = 0
                      · have h := iteT h c11
                        have c11b : (v11.2 != 0) = false := bneF c11
                        obtain ⟨v12, e_v12, h⟩ := ob h
                        have e_v12c : call Try.prog T H (.fn 18) [.p (.agg [iv v11.1.Sym, .sl none 2 (List.map row_Tree v11.1.Kids)]), .p (.agg [iv a2.Sym, .sl none 2 (List.map row_Tree a2.Kids)])] [] = some (.ret (.p (bv v12)), []) := spec18 n v11.1 a2 v12 e_v12
                        by_cases c12 : v12 = true
                        · have h := iteT h c12
                          obtain ⟨v13, e_v13, h⟩ := ob h
                          have e_v13c : call Try.prog T H (.fn 9) [] [] = some (.ret (.p (bv v13)), []) := spec9 n v13 e_v13
                          simp only [go_sem, e_v1c, c1, e_v2c, c2, e_v3c, e_v4c, e_v5c, e_v6c, c3b, e_v7c, c4, c5b, e_v8c, c6, c7b, e_v9c, c8b, e_v10c, c9, c10b, e_v11c, c11b, e_v12c, c12, e_v13c]
                          injection h with h; subst h
                          exact Sat.ok hQ
                        · have h := iteF h c12
                          have c12 := eq_false_of_ne_true c12
                          simp only [go_sem, e_v1c, c1, e_v2c, c2, e_v3c, e_v4c, e_v5c, e_v6c, c3b, e_v7c, c4, c5b, e_v8c, c6, c7b, e_v9c, c8b, e_v10c, c9, c10b, e_v11c, c11b, e_v12c, c12]
                          injection h with h; subst h
                          exact Sat.ok hQ
                      · have h := iteF h c11
                        have c11b : (v11.2 != 0) = true := bneT c11
                        simp only [go_sem, e_v1c, c1, e_v2c, c2, e_v3c, e_v4c, e_v5c, e_v6c, c3b, e_v7c, c4, c5b, e_v8c, c6, c7b, e_v9c, c8b, e_v10c, c9, c10b, e_v11c, c11b]
                        injection h with h; subst h
                        exact Sat.ok hQ
                    · have h := iteF h c10
                      have c10b : (v5.2 == 0) = false := beqF c10
                      obtain ⟨v14, e_v14, h⟩ := ob h
                      have e_v14c : call Try.prog T H (.fn 9) [] [] = some (.ret (.p (bv v14)), []) := spec9 n v14 e_v14
                      simp only [go_sem, e_v1c, c1, e_v2c, c2, e_v3c, e_v4c, e_v5c, e_v6c, c3b, e_v7c, c4, c5b, e_v8c, c6, c7b, e_v9c, c8b, e_v10c, c9, c10b, e_v14c]
                      injection h with h; subst h
                      exact Sat.ok hQ
                  · have h := iteF h c9
                    have c9 := eq_false_of_ne_true c9
                    simp only [go_sem, e_v1c, c1, e_v2c, c2, e_v3c, e_v4c, e_v5c, e_v6c, c3b, e_v7c, c4, c5b, e_v8c, c6, c7b, e_v9c, c8b, e_v10c, c9]
                    injection h with h; subst h
                    exact Sat.ok hQ
                · have h := iteF h c8
                  have c8b : (v9.2 != 0) = true := bneT c8
                  simp only [go_sem, e_v1c, c1, e_v2c, c2, e_v3c, e_v4c, e_v5c, e_v6c, c3b, e_v7c, c4, c5b, e_v8c, c6, c7b, e_v9c, c8b]
                  injection h with h; subst h
                  exact Sat.ok hQ
              · have h := iteF h c7
                have c7b : (v3.2 == 0) = false := beqF c7
                by_cases c13 : v5.2 = 0
                · have h := iteT h c13
                  have c13b : (v5.2 == 0) = true := beqT c13
                  obtain ⟨v15, e_v15, h⟩ := ob h
                  have e_v15c : call Try.prog T H (.fn 14) [.p (iv a0), .p (.sl none 2 (List.map row_Node v5.1))] [] = some (.ret (.p (.tup [.agg [iv v15.1.Sym, .sl none 2 (List.map row_Tree v15.1.Kids)], iv v15.2])), []) := spec14 n a0 v5.1 v15 e_v15
                  by_cases c14 : v15.2 = 0
                  · have h := iteT h c14
                    have c14b : (v15.2 != 0) = false := bneF c14
                    obtain ⟨v16, e_v16, h⟩ := ob h
                    have e_v16c : call Try.prog T H (.fn 18) [.p (.agg [iv v15.1.Sym, .sl none 2 (List.map row_Tree v15.1.Kids)]), .p (.agg [iv a2.Sym, .sl none 2 (List.map row_Tree a2.Kids)])] [] = some (.ret (.p (bv v16)), []) := spec18 n v15.1 a2 v16 e_v16
                    by_cases c15 : v16 = true
                    · have h := iteT h c15
                      obtain ⟨v17, e_v17, h⟩ := ob h
                      have e_v17c : call Try.prog T H (.fn 9) [] [] = some (.ret (.p (bv v17)), []) := spec9 n v17 e_v17
                      simp only [go_sem, e_v1c, c1, e_v2c, c2, e_v3c, e_v4c, e_v5c, e_v6c, c3b, e_v7c, c4, c5b, e_v8c, c6, c7b, c13b, e_v15c, c14b, e_v16c, c15, e_v17c]
                      injection h with h; subst h
                      exact Sat.ok hQ
                    · have h := iteF h c15
                      have c15 := eq_false_of_ne_true c15
                      simp only [go_sem, e_v1c, c1, e_v2c, c2, e_v3c, e_v4c, e_v5c, e_v6c, c3b, e_v7c, c4, c5b, e_v8c, c6, c7b, c13b, e_v15c, c14b, e_v16c, c15]
                      injection h with h; subst h
                      exact Sat.ok hQ
                  · have h := iteF h c14
                    have c14b : (v15.2 != 0) = true := bneT c14
                    simp only [go_sem, e_v1c, c1, e_v2c, c2, e_v3c, e_v4c, e_v5c, e_v6c, c3b, e_v7c, c4, c5b, e_v8c, c6, c7b, c13b, e_v15c, c14b]
                    injection h with h; subst h
                    exact Sat.ok hQ
                · have h := iteF h c13
                  have c13b : (v5.2 == 0) = false := beqF c13
                  obtain ⟨v18, e_v18, h⟩ := ob h
                  have e_v18c : call Try.prog T H (.fn 9) [] [] = some (.ret (.p (bv v18)), []) := spec9 n v18 e_v18
                  simp only [go_sem, e_v1c, c1, e_v2c, c2, e_v3c, e_v4c, e_v5c, e_v6c, c3b, e_v7c, c4, c5b, e_v8c, c6, c7b, c13b, e_v18c]
                  injection h with h; subst h
                  exact Sat.ok hQ
            · have h := iteF h c6
              have c6 := eq_false_of_ne_true c6
              simp only [go_sem, e_v1c, c1, e_v2c, c2, e_v3c, e_v4c, e_v5c, e_v6c, c3b, e_v7c, c4, c5b, e_v8c, c6]
              injection h with h; subst h
              exact Sat.ok hQ
          · have h := iteF h c5
            have c5b : (v5.2 != v6.2) = true := bneT c5
            simp only [go_sem, e_v1c, c1, e_v2c, c2, e_v3c, e_v4c, e_v5c, e_v6c, c3b, e_v7c, c4, c5b]
            injection h with h; subst h
            exact Sat.ok hQ
        · have h := iteF h c4
          have c4 := eq_false_of_ne_true c4
          simp only [go_sem, e_v1c, c1, e_v2c, c2, e_v3c, e_v4c, e_v5c, e_v6c, c3b, e_v7c, c4]
          injection h with h; subst h
          exact Sat.ok hQ
      · have h := iteF h c3
        have c3b : (v3.2 != v4.2) = true := bneT c3
        simp only [go_sem, e_v1c, c1, e_v2c, c2, e_v3c, e_v4c, e_v5c, e_v6c, c3b]
        injection h with h; subst h
        exact Sat.ok hQ
    · have h := iteF h c2
      have c2 := eq_false_of_ne_true c2
      obtain ⟨v19, e_v19, h⟩ := ob h
      have e_v19c : call Try.prog T H (.fn 9) [] [] = some (.ret (.p (bv v19)), []) := spec9 n v19 e_v19
      simp only [go_sem, e_v1c, c1, e_v2c, c2, e_v19c]
      injection h with h; subst h
      exact Sat.ok hQ
  · have h := iteF h c1
    have c1 := eq_false_of_ne_true c1
    obtain ⟨v20, e_v20, h⟩ := ob h
    have e_v20c : call Try.prog T H (.fn 9) [] [] = some (.ret (.p (bv v20)), []) := spec9 n v20 e_v20
    simp only [go_sem, e_v1c, c1, e_v20c]
    injection h with h; subst h
    exact Sat.ok hQ

def law02_HedgeForms (n : Nat) (a0 : Int) (a1 : List Node) (a2 : Node) (a3 : Node) : Option Bool :=
  (ref02_Few n a1 2000).bind fun v1 =>
  if v1 = true then
    (ref02_Few n [a2, a3] 2000).bind fun v2 =>
    if v2 = true then
      (hedge_Binary a0).bind fun v3 =>
      (ref02_Binary a0).bind fun v4 =>
      (hedge_Compare n a2 a3).bind fun v5 =>
      (hedge_Valid n a0 a2).bind fun v6 =>
      (ref02_Valid n a0 a2).bind fun v7 =>
      if v6 = v7 then
        (hedge_ValidHedge n a0 a1).bind fun v8 =>
        (ref02_ValidHedge n a0 a1).bind fun v9 =>
        if v8 = v9 then
          if v3.2 = v4.2 then
            (ref01_List v3.1.Ranks v4.1.Ranks).bind fun v10 =>
            if v10 = true then
              (hedge_Size n a1).bind fun v11 =>
              (ref02_Size n a1).bind fun v12 =>
              if v11 = v12 then
                (ref02_Compare n a2 a3).bind fun v13 =>
                if v5 = v13 then
                  (hedge_Compare n a3 a2).bind fun v14 =>
                  if v5 = (IntKind.i64.wrap (0 - v14)) then
                    (law02_awake n).bind fun v15 =>
                    some v15
                  else
                    some false
                else
                  some false
              else
                some false
            else
              some false
          else
            some false
        else
          some false
      else
        some false
    else
      (law02_awake n).bind fun v16 =>
      some v16
  else
    (law02_awake n).bind fun v17 =>
    some v17
theorem spec6 (n : Nat) (a0 : Int) (a1 : List Node) (a2 : Node) (a3 : Node) (r : Bool) (h : law02_HedgeForms n a0 a1 a2 a3 = some r) :
    call Try.prog T H (.fn 6) [.p (iv a0), .p (.sl none 2 (List.map row_Node a1)), .p (.agg [iv a2.Label, .sl none 2 (List.map row_Node a2.Kids)]), .p (.agg [iv a3.Label, .sl none 2 (List.map row_Node a3.Kids)])] [] = some (.ret (.p (bv r)), []) := by
  refine Sat.fn fun Q hQ => ?_
  unfold law02_HedgeForms at h
  rw [call6]
  conv => arg 1; arg 7; unfold S02.c6 Try.f6; simp only [Option.getD_some]
  obtain ⟨v1, e_v1, h⟩ := ob h
  have e_v1c : call Try.prog T H (.fn 8) [.p (.sl none 2 (List.map row_Node a1)), .p (iv 2000)] [] = some (.ret (.p (bv v1)), []) := spec8 n a1 2000 v1 e_v1
  by_cases c1 : v1 = true
  · have h := iteT h c1
    obtain ⟨v2, e_v2, h⟩ := ob h
    have e_v2c : call Try.prog T H (.fn 8) [.p (.sl none 2 [[iv a2.Label, .sl none 2 (List.map row_Node a2.Kids)], [iv a3.Label, .sl none 2 (List.map row_Node a3.Kids)]]), .p (iv 2000)] [] = some (.ret (.p (bv v2)), []) := by have q := spec8 n [a2, a3] 2000 v2 e_v2; simp only [List.map_cons, List.map_nil, row_Node_eq] at q ⊢; exact q
    by_cases c2 : v2 = true
    · have h := iteT h c2
      obtain ⟨v3, e_v3, h⟩ := ob h
      have e_v3c : call Try.prog T H (.fn 20) [.p (iv a0)] [] = some (.ret (.p (.tup [.agg [.sl none 1 (List.map rowI v3.1.Ranks)], iv v3.2])), []) := spec20 a0 v3 e_v3
      obtain ⟨v4, e_v4, h⟩ := ob h
      have e_v4c : call Try.prog T H (.fn 21) [.p (iv a0)] [] = some (.ret (.p (.tup [.agg [.sl none 1 (List.map rowI v4.1.Ranks)], iv v4.2])), []) := spec21 a0 v4 e_v4
      obtain ⟨v5, e_v5, h⟩ := ob h
      have e_v5c : call Try.prog T H (.fn 22) [.p (.agg [iv a2.Label, .sl none 2 (List.map row_Node a2.Kids)]), .p (.agg [iv a3.Label, .sl none 2 (List.map row_Node a3.Kids)])] [] = some (.ret (.p (iv v5)), []) := spec22 n a2 a3 v5 e_v5
      obtain ⟨v6, e_v6, h⟩ := ob h
      have e_v6c : call Try.prog T H (.fn 23) [.p (iv a0), .p (.agg [iv a2.Label, .sl none 2 (List.map row_Node a2.Kids)])] [] = some (.ret (.p (bv v6)), []) := spec23 n a0 a2 v6 e_v6
      obtain ⟨v7, e_v7, h⟩ := ob h
      have e_v7c : call Try.prog T H (.fn 24) [.p (iv a0), .p (.agg [iv a2.Label, .sl none 2 (List.map row_Node a2.Kids)])] [] = some (.ret (.p (bv v7)), []) := spec24 n a0 a2 v7 e_v7
      by_cases c3 : v6 = v7
      · have h := iteT h c3
        have c3b : (v6 == v7) = true := beqT c3
        obtain ⟨v8, e_v8, h⟩ := ob h
        have e_v8c : call Try.prog T H (.fn 25) [.p (iv a0), .p (.sl none 2 (List.map row_Node a1))] [] = some (.ret (.p (bv v8)), []) := spec25 n a0 a1 v8 e_v8
        obtain ⟨v9, e_v9, h⟩ := ob h
        have e_v9c : call Try.prog T H (.fn 26) [.p (iv a0), .p (.sl none 2 (List.map row_Node a1))] [] = some (.ret (.p (bv v9)), []) := spec26 n a0 a1 v9 e_v9
        by_cases c4 : v8 = v9
        · have h := iteT h c4
          have c4b : (v8 == v9) = true := beqT c4
          by_cases c5 : v3.2 = v4.2
          · have h := iteT h c5
            have c5b : (v3.2 == v4.2) = true := beqT c5
            obtain ⟨v10, e_v10, h⟩ := ob h
            have e_v10c : call Try.prog T H (.fn 27) [.p (.sl none 1 (List.map rowI v3.1.Ranks)), .p (.sl none 1 (List.map rowI v4.1.Ranks))] [] = some (.ret (.p (bv v10)), []) := spec27 v3.1.Ranks v4.1.Ranks v10 e_v10
            by_cases c6 : v10 = true
            · have h := iteT h c6
              obtain ⟨v11, e_v11, h⟩ := ob h
              have e_v11c : call Try.prog T H (.fn 28) [.p (.sl none 2 (List.map row_Node a1))] [] = some (.ret (.p (iv v11)), []) := spec28 n a1 v11 e_v11
              obtain ⟨v12, e_v12, h⟩ := ob h
              have e_v12c : call Try.prog T H (.fn 29) [.p (.sl none 2 (List.map row_Node a1))] [] = some (.ret (.p (iv v12)), []) := spec29 n a1 v12 e_v12
              by_cases c7 : v11 = v12
              · have h := iteT h c7
                have c7b : (v11 == v12) = true := beqT c7
                obtain ⟨v13, e_v13, h⟩ := ob h
                have e_v13c : call Try.prog T H (.fn 30) [.p (.agg [iv a2.Label, .sl none 2 (List.map row_Node a2.Kids)]), .p (.agg [iv a3.Label, .sl none 2 (List.map row_Node a3.Kids)])] [] = some (.ret (.p (iv v13)), []) := spec30 n a2 a3 v13 e_v13
                by_cases c8 : v5 = v13
                · have h := iteT h c8
                  have c8b : (v5 == v13) = true := beqT c8
                  obtain ⟨v14, e_v14, h⟩ := ob h
                  have e_v14c : call Try.prog T H (.fn 22) [.p (.agg [iv a3.Label, .sl none 2 (List.map row_Node a3.Kids)]), .p (.agg [iv a2.Label, .sl none 2 (List.map row_Node a2.Kids)])] [] = some (.ret (.p (iv v14)), []) := spec22 n a3 a2 v14 e_v14
                  by_cases c9 : v5 = (IntKind.i64.wrap (0 - v14))
                  · have h := iteT h c9
                    have c9b : (v5 == (IntKind.i64.wrap (0 - v14))) = true := beqT c9
                    obtain ⟨v15, e_v15, h⟩ := ob h
                    have e_v15c : call Try.prog T H (.fn 9) [] [] = some (.ret (.p (bv v15)), []) := spec9 n v15 e_v15
                    simp only [go_sem, e_v1c, c1, e_v2c, c2, e_v3c, e_v4c, e_v5c, e_v6c, e_v7c, c3b, e_v8c, e_v9c, c4b, c5b, e_v10c, c6, e_v11c, e_v12c, c7b, e_v13c, c8b, e_v14c, c9b, e_v15c]
                    injection h with h; subst h
                    exact Sat.ok hQ
                  · have h := iteF h c9
                    have c9b : (v5 == (IntKind.i64.wrap (0 - v14))) = false := beqF c9
                    simp only [go_sem, e_v1c, c1, e_v2c, c2, e_v3c, e_v4c, e_v5c, e_v6c, e_v7c, c3b, e_v8c, e_v9c, c4b, c5b, e_v10c, c6, e_v11c, e_v12c, c7b, e_v13c, c8b, e_v14c, c9b]
                    injection h with h; subst h
                    exact Sat.ok hQ
                · have h := iteF h c8
                  have c8b : (v5 == v13) = false := beqF c8
                  simp only [go_sem, e_v1c, c1, e_v2c, c2, e_v3c, e_v4c, e_v5c, e_v6c, e_v7c, c3b, e_v8c, e_v9c, c4b, c5b, e_v10c, c6, e_v11c, e_v12c, c7b, e_v13c, c8b]
                  injection h with h; subst h
                  exact Sat.ok hQ
              · have h := iteF h c7
                have c7b : (v11 == v12) = false := beqF c7
                simp only [go_sem, e_v1c, c1, e_v2c, c2, e_v3c, e_v4c, e_v5c, e_v6c, e_v7c, c3b, e_v8c, e_v9c, c4b, c5b, e_v10c, c6, e_v11c, e_v12c, c7b]
                injection h with h; subst h
                exact Sat.ok hQ
            · have h := iteF h c6
              have c6 := eq_false_of_ne_true c6
              simp only [go_sem, e_v1c, c1, e_v2c, c2, e_v3c, e_v4c, e_v5c, e_v6c, e_v7c, c3b, e_v8c, e_v9c, c4b, c5b, e_v10c, c6]
              injection h with h; subst h
              exact Sat.ok hQ
          · have h := iteF h c5
            have c5b : (v3.2 == v4.2) = false := beqF c5
            simp only [go_sem, e_v1c, c1, e_v2c, c2, e_v3c, e_v4c, e_v5c, e_v6c, e_v7c, c3b, e_v8c, e_v9c, c4b, c5b]
            injection h with h; subst h
            exact Sat.ok hQ
        · have h := iteF h c4
          have c4b : (v8 == v9) = false := beqF c4
          simp only [go_sem, e_v1c, c1, e_v2c, c2, e_v3c, e_v4c, e_v5c, e_v6c, e_v7c, c3b, e_v8c, e_v9c, c4b]
          injection h with h; subst h
          exact Sat.ok hQ
      · have h := iteF h c3
        have c3b : (v6 == v7) = false := beqF c3
        simp only [go_sem, e_v1c, c1, e_v2c, c2, e_v3c, e_v4c, e_v5c, e_v6c, e_v7c, c3b]
        injection h with h; subst h
        exact Sat.ok hQ
    · have h := iteF h c2
      have c2 := eq_false_of_ne_true c2
      obtain ⟨v16, e_v16, h⟩ := ob h
      have e_v16c : call Try.prog T H (.fn 9) [] [] = some (.ret (.p (bv v16)), []) := spec9 n v16 e_v16
      simp only [go_sem, e_v1c, c1, e_v2c, c2, e_v16c]
      injection h with h; subst h
      exact Sat.ok hQ
  · have h := iteF h c1
    have c1 := eq_false_of_ne_true c1
    obtain ⟨v17, e_v17, h⟩ := ob h
    have e_v17c : call Try.prog T H (.fn 9) [] [] = some (.ret (.p (bv v17)), []) := spec9 n v17 e_v17
    simp only [go_sem, e_v1c, c1, e_v17c]
    injection h with h; subst h
    exact Sat.ok hQ

end Go.AM.S02

namespace Go.AM.S02
open Go Go.Proofs Go.AM
set_option linter.unusedVariables false
theorem w64_eq {n : Int} (h1 : -9223372036854775808 ≤ n) (h2 : n ≤ 9223372036854775807) : w64 n = n := wrapN h1 h2
mutual
def nsN : Node → Nat
  | .mk _ k => nsL k
def nsL : List Node → Nat
  | [] => 0
  | x :: r => 1 + nsN x + nsL r
end
mutual
def dN : Node → Nat
  | .mk _ k => dL k
def dL : List Node → Nat
  | [] => 0
  | x :: r => max (dN x + 1) (dL r)
end
mutual
def labN (a : Int) : Node → Bool
  | .mk l k => decide (0 ≤ l ∧ l < a) && labL a k
def labL (a : Int) : List Node → Bool
  | [] => true
  | x :: r => labN a x && labL a r
end
theorem nsN_eq (x : Node) : nsN x = nsL x.Kids := by cases x; rw [nsN]
theorem dN_eq (x : Node) : dN x = dL x.Kids := by cases x; rw [dN]
theorem nsL_cons (x : Node) (r : List Node) : nsL (x :: r) = 1 + nsL x.Kids + nsL r := by rw [nsL, nsN_eq]
theorem labL_cons (a : Int) (x : Node) (r : List Node) : labL a (x :: r) = (decide (0 ≤ x.Label ∧ x.Label < a) && labL a x.Kids && labL a r) := by rw [labL]; cases x; rw [labN]
theorem dL_cons {x : Node} {r : List Node} {n : Nat} (h : dL (x :: r) < n + 1) : dL x.Kids < n ∧ dL r < n + 1 := by rw [dL, dN_eq] at h; omega
theorem len_ns : ∀ l : List Node, l.length ≤ nsL l
  | [] => Nat.zero_le _
  | x :: r => by rw [nsL_cons, List.length_cons]; have := len_ns r; omega
theorem size_eq : ∀ (n : Nat) (h : List Node), dL h < n → nsL h < 4611686018427387904 → hedge_Size n h = some (nsL h : Int) := by
  intro n
  induction n with
  | zero => intro h hd; omega
  | succ n ih =>
    intro h hd hs
    rw [hedge_Size, rangeL, if_pos (by have := len_ns h; omega)]
    suffices H : ∀ (l : List Node) (i : Nat) (s : Int) (k : Int → Option Int), dL l < n + 1 → 0 ≤ s → s + nsL l < 4611686018427387904 + l.length → rangeC (fun i1 x1 (s1 : Int) n1 => (hedge_Size n x1.Kids).bind fun v1 => n1 (w64 (s1 + v1))) l i s k = k (s + nsL l - l.length) by
      rw [H h 0 h.length _ hd (by omega) (by omega)]
      congr 1; omega
    intro l
    induction l with
    | nil => intro i s k _ _ _; rw [rangeC]; congr 1; simp [nsL]
    | cons x r ihr =>
      intro i s k hd h0 h1
      obtain ⟨d1, d2⟩ := dL_cons hd
      rw [nsL_cons, List.length_cons] at h1
      have lr := len_ns r
      rw [rangeC, ih x.Kids d1 (by omega)]
      show rangeC _ r (i + 1) (w64 (s + (nsL x.Kids : Int))) k = _
      rw [w64_eq (by omega) (by omega), ihr _ _ _ d2 (by omega) (by omega)]
      congr 1; rw [nsL_cons, List.length_cons]; omega
theorem rsize_eq : ∀ (n : Nat) (h : List Node), dL h < n → nsL h < 4611686018427387904 → ref02_Size n h = some (nsL h : Int) := by
  intro n
  induction n with
  | zero => intro h hd; omega
  | succ n ih =>
    intro h hd hs
    rw [ref02_Size, rangeL, if_pos (by have := len_ns h; omega)]
    suffices H : ∀ (l : List Node) (i : Nat) (s : Int) (k : Int → Option Int), dL l < n + 1 → 0 ≤ s → s + nsL l < 4611686018427387904 → rangeC (fun i1 x1 (s1 : Int) n1 => (ref02_Size n x1.Kids).bind fun v1 => n1 (w64 (s1 + (w64 (1 + v1))))) l i s k = k (s + nsL l) by
      rw [H h 0 0 _ hd (by omega) (by omega)]
      congr 1; omega
    intro l
    induction l with
    | nil => intro i s k _ _ _; rw [rangeC]; congr 1; simp [nsL]
    | cons x r ihr =>
      intro i s k hd h0 h1
      obtain ⟨d1, d2⟩ := dL_cons hd
      rw [nsL_cons] at h1
      rw [rangeC, ih x.Kids d1 (by omega)]
      show rangeC _ r (i + 1) (w64 (s + (w64 (1 + (nsL x.Kids : Int))))) k = _
      rw [w64_eq (n := 1 + _) (by omega) (by omega), w64_eq (by omega) (by omega), ihr _ _ _ d2 (by omega) (by omega)]
      congr 1; rw [nsL_cons]; omega
def ok63 (n : Nat) (h : List Node) : Prop := True
mutual
/-- lengths of lists -/
def wdN : Node → Bool
  | .mk _ k => decide (k.length < 9223372036854775808) && wdL k
def wdL : List Node → Bool
  | [] => true
  | x :: r => wdN x && wdL r
end
theorem wdL_cons {x : Node} {r : List Node} (h : wdL (x :: r) = true) : x.Kids.length < 9223372036854775808 ∧ wdL x.Kids = true ∧ wdL r = true := by
  rw [wdL] at h; cases x; rw [wdN] at h; simpa [and_assoc] using h
theorem count_eq : ∀ (n : Nat) (h : List Node) (m : Int), dL h < n → h.length < 9223372036854775808 → wdL h = true → -1 ≤ m → m ≤ 1000000 → ref02_count n h m = some (min (nsL h : Int) (m + 1)) := by
  intro n
  induction n with
  | zero => intro h m hd; omega
  | succ n ih =>
    intro h m hd hl hw h1 h2
    rw [ref02_count, rangeL, if_pos hl]
    suffices H : ∀ (l : List Node) (i : Nat) (t : Nat) (k : Int → Option Int), dL l < n + 1 → wdL l = true → rangeC (fun i1 x1 (s1 : Int) n1 =>
      if s1 ≤ m then
        (ref02_count n x1.Kids (w64 ((w64 (m - s1)) - 1))).bind fun v1 =>
        n1 (w64 (s1 + (w64 (1 + v1))))
      else
        n1 s1) l i (min (t : Int) (m + 1)) k = k (min ((t + nsL l : Nat) : Int) (m + 1)) by
      have := H h 0 0 (fun s => some s) hd hw
      rw [show min ((0 : Nat) : Int) (m + 1) = 0 by omega] at this
      rw [this]; congr 1; simp
    intro l
    induction l with
    | nil => intro i t k _ _; rw [rangeC]; congr 1
    | cons x r ihr =>
      intro i t k hd hw
      obtain ⟨d1, d2⟩ := dL_cons hd
      obtain ⟨w1, w2, w3⟩ := wdL_cons hw
      rw [rangeC]
      by_cases c : min (t : Int) (m + 1) ≤ m
      · rw [if_pos c]
        have e : min (t : Int) (m + 1) = t := by omega
        rw [e, w64_eq (n := m - t) (by omega) (by omega), w64_eq (n := m - t - 1) (by omega) (by omega), ih x.Kids _ d1 w1 w2 (by omega) (by omega)]
        show rangeC _ r (i + 1) (w64 (t + w64 (1 + min (nsL x.Kids : Int) (m - t - 1 + 1)))) k = _
        rw [w64_eq (n := 1 + _) (by omega) (by omega), w64_eq (by omega) (by omega)]
        have := ihr (i + 1) (t + 1 + nsL x.Kids) k d2 w3
        rw [show (t : Int) + (1 + min (nsL x.Kids : Int) (m - t - 1 + 1)) = min ((t + 1 + nsL x.Kids : Nat) : Int) (m + 1) by omega, this, nsL_cons]
        congr 2; omega
      · rw [if_neg c]
        show rangeC _ r (i + 1) (min (t : Int) (m + 1)) k = _
        have := ihr (i + 1) (t + 1 + nsL x.Kids) k d2 w3
        rw [show min (t : Int) (m + 1) = min ((t + 1 + nsL x.Kids : Nat) : Int) (m + 1) by omega, this, nsL_cons]
        congr 2; omega
theorem few_eq {n : Nat} {h : List Node} {m : Int} (hd : dL h < n) (hl : h.length < 9223372036854775808) (hw : wdL h = true) (h1 : -1 ≤ m) (h2 : m ≤ 1000000) : ref02_Few n h m = some (decide ((nsL h : Int) ≤ m)) := by
  rw [ref02_Few, count_eq n h m hd hl hw h1 h2]
  show some _ = some _
  congr 1
  exact decide_eq_decide.2 (by omega)
theorem formed_eq : ∀ (n : Nat) (a : Int) (h : List Node) (m : Int), dL h < n → h.length < 9223372036854775808 → wdL h = true → 0 ≤ m → m ≤ 1000000 →
    (((nsL h : Int) ≤ m ∧ labL a h = true) ∧ hedge_formed n a h m = some (true, m - nsL h)) ∨ (¬ ((nsL h : Int) ≤ m ∧ labL a h = true) ∧ ∃ v, hedge_formed n a h m = some (false, v)) := by
  intro n
  induction n with
  | zero => intro a h m hd; omega
  | succ n ih =>
    intro a h m hd hl hw h1 h2
    rw [hedge_formed, rangeL, if_pos hl]
    suffices H : ∀ (l : List Node) (i : Nat) (s : Int), dL l < n + 1 → wdL l = true → 0 ≤ s → s ≤ 1000000 →
      (((nsL l : Int) ≤ s ∧ labL a l = true) ∧ ∀ k : Int → Option (Bool × Int), rangeC (fun i1 x1 (s1 : Int) n1 => if (w64 (s1 - 1)) < 0 then some (false, w64 (s1 - 1)) else if x1.Label < 0 then some (false, w64 (s1 - 1)) else if a ≤ x1.Label then some (false, w64 (s1 - 1)) else (hedge_formed n a x1.Kids (w64 (s1 - 1))).bind fun v1 => if v1.1 = true then n1 v1.2 else some (false, v1.2)) l i s k = k (s - nsL l)) ∨
      (¬ ((nsL l : Int) ≤ s ∧ labL a l = true) ∧ ∃ v, ∀ k : Int → Option (Bool × Int), rangeC (fun i1 x1 (s1 : Int) n1 => if (w64 (s1 - 1)) < 0 then some (false, w64 (s1 - 1)) else if x1.Label < 0 then some (false, w64 (s1 - 1)) else if a ≤ x1.Label then some (false, w64 (s1 - 1)) else (hedge_formed n a x1.Kids (w64 (s1 - 1))).bind fun v1 => if v1.1 = true then n1 v1.2 else some (false, v1.2)) l i s k = some (false, v)) by
      rcases H h 0 m hd hw h1 h2 with ⟨c, e⟩ | ⟨c, v, e⟩
      · exact .inl ⟨c, e _⟩
      · exact .inr ⟨c, v, e _⟩
    intro l
    induction l with
    | nil => intro i s _ _ h1 h2; exact .inl ⟨⟨by simp [nsL]; omega, by rw [labL]⟩, fun k => by rw [rangeC]; congr 1; simp [nsL]⟩
    | cons x r ihr =>
      intro i s hd hw h1 h2
      obtain ⟨d1, d2⟩ := dL_cons hd
      obtain ⟨w1, w2, w3⟩ := wdL_cons hw
      rw [nsL_cons, labL_cons]
      simp only [Bool.and_eq_true, decide_eq_true_eq]
      have e1 : w64 (s - 1) = s - 1 := w64_eq (by omega) (by omega)
      simp only [rangeC, e1]
      by_cases c1 : s - 1 < 0
      · exact .inr ⟨by omega, s - 1, fun k => by rw [if_pos c1]⟩
      by_cases c2 : x.Label < 0
      · exact .inr ⟨by omega, s - 1, fun k => by rw [if_neg c1, if_pos c2]⟩
      by_cases c3 : a ≤ x.Label
      · exact .inr ⟨by omega, s - 1, fun k => by rw [if_neg c1, if_neg c2, if_pos c3]⟩
      simp only [if_neg c1, if_neg c2, if_neg c3]
      rcases ih a x.Kids (s - 1) d1 w1 w2 (by omega) (by omega) with ⟨c, e⟩ | ⟨c, v, e⟩
      · rcases ihr (i + 1) (s - 1 - nsL x.Kids) d2 w3 (by omega) (by omega) with ⟨c', e'⟩ | ⟨c', v, e'⟩
        · exact .inl ⟨⟨by omega, ⟨⟨⟨by omega, by omega⟩, c.2⟩, c'.2⟩⟩, fun k => by rw [e]; simp only [Option.bind_some, if_true]; rw [e' k]; congr 1; omega⟩
        · exact .inr ⟨fun hh => c' ⟨by omega, hh.2.2⟩, v, fun k => by rw [e]; simp only [Option.bind_some, if_true]; rw [e' k]⟩
      · exact .inr ⟨fun hh => c ⟨by omega, hh.2.1.2⟩, v, fun k => by rw [e]; rfl⟩
theorem labelled_eq : ∀ (n : Nat) (a : Int) (h : List Node), dL h < n → h.length < 9223372036854775808 → wdL h = true → ref02_labelled n a h = some (labL a h) := by
  intro n
  induction n with
  | zero => intro a h hd; omega
  | succ n ih =>
    intro a h hd hl hw
    rw [ref02_labelled, rangeL, if_pos hl]
    suffices H : ∀ (l : List Node) (i : Nat), dL l < n + 1 → wdL l = true → rangeC (fun i1 x1 (s1 : Unit) n1 => if x1.Label < 0 then some false else if a ≤ x1.Label then some false else (ref02_labelled n a x1.Kids).bind fun v1 => if v1 = true then n1 () else some false) l i () (fun _ => some true) = some (labL a l) from H h 0 hd hw
    intro l
    induction l with
    | nil => intro i _ _; rw [rangeC, labL]
    | cons x r ihr =>
      intro i hd hw
      obtain ⟨d1, d2⟩ := dL_cons hd
      obtain ⟨w1, w2, w3⟩ := wdL_cons hw
      rw [rangeC, labL_cons, ih a x.Kids d1 w1 w2]
      by_cases c2 : x.Label < 0
      · rw [if_pos c2, decide_eq_false (by omega)]; rfl
      by_cases c3 : a ≤ x.Label
      · rw [if_neg c2, if_pos c3, decide_eq_false (by omega)]; rfl
      rw [if_neg c2, if_neg c3, decide_eq_true ⟨by omega, by omega⟩]
      simp only [Option.bind_some]
      cases labL a x.Kids with
      | true => rw [if_pos rfl, ihr (i + 1) d2 w3]; rfl
      | false => rfl
def vld (a : Int) (h : List Node) : Bool := decide (1 ≤ a ∧ a ≤ 8) && (decide ((nsL h : Int) ≤ 300) && labL a h)
theorem hvalid_eq {n : Nat} {a : Int} {h : List Node} (hd : dL h < n) (hl : h.length < 9223372036854775808) (hw : wdL h = true) : hedge_ValidHedge n a h = some (vld a h) := by
  unfold hedge_ValidHedge hedge_labels vld
  by_cases c1 : 1 ≤ a
  · rw [if_pos c1]
    by_cases c2 : a ≤ 8
    · simp only [decide_eq_true c2, Option.bind_some, if_true]
      rw [decide_eq_true (show 1 ≤ a ∧ a ≤ 8 from ⟨c1, c2⟩)]
      rcases formed_eq n a h 300 hd hl hw (by omega) (by omega) with ⟨c, e⟩ | ⟨c, v, e⟩
      · rw [e, decide_eq_true c.1, c.2]; rfl
      · rw [e]
        simp only [Option.bind_some, Bool.true_and]
        congr 1
        cases h1 : labL a h with
        | false => simp
        | true => rw [decide_eq_false (fun h2 => c ⟨h2, h1⟩)]; rfl
    · rw [decide_eq_false c2, decide_eq_false (by omega)]; rfl
  · rw [if_neg c1, decide_eq_false (by omega)]; rfl
theorem rvalid_eq {n : Nat} {a : Int} {h : List Node} (hd : dL h < n) (hl : h.length < 9223372036854775808) (hw : wdL h = true) : ref02_ValidHedge n a h = some (vld a h) := by
  unfold ref02_ValidHedge vld
  by_cases c1 : 1 ≤ a
  · rw [if_pos c1]
    by_cases c2 : a ≤ 8
    · rw [if_pos c2, few_eq hd hl hw (by omega) (by omega), decide_eq_true (show 1 ≤ a ∧ a ≤ 8 from ⟨c1, c2⟩)]
      simp only [Option.bind_some, Bool.true_and]
      by_cases c3 : (nsL h : Int) ≤ 300
      · rw [decide_eq_true c3, if_pos rfl, labelled_eq n a h hd hl hw]; rfl
      · rw [decide_eq_false c3]; rfl
    · rw [if_neg c2, decide_eq_false (by omega)]; rfl
  · rw [if_neg c1, decide_eq_false (by omega)]; rfl
end Go.AM.S02

namespace Go.AM.S02
open Go Go.Proofs Go.AM
set_option linter.unusedVariables false
mutual
def preN : Node → Int → Int → Nat → List hedge_Info
  | .mk l ks, p, i, at_ => ⟨l, p, i, (at_ : Int) + nsL ks⟩ :: preL ks at_ 0 (at_ + 1)
def preL : List Node → Int → Nat → Nat → List hedge_Info
  | [], _, _, _ => []
  | x :: r, p, i, at_ => preN x p i at_ ++ preL r p (i + 1) (at_ + 1 + nsN x)
end
theorem preN_eq (x : Node) (p i : Int) (at_ : Nat) : preN x p i at_ = ⟨x.Label, p, i, (at_ : Int) + nsL x.Kids⟩ :: preL x.Kids at_ 0 (at_ + 1) := by cases x; rw [preN]
mutual
theorem preN_len : ∀ (x : Node) (p i : Int) (at_ : Nat), (preN x p i at_).length = 1 + nsN x
  | .mk l ks, p, i, at_ => by rw [preN, List.length_cons, preL_len ks, nsN]; omega
theorem preL_len : ∀ (l : List Node) (p : Int) (i at_ : Nat), (preL l p i at_).length = nsL l
  | [], p, i, at_ => by rw [preL, nsL]; rfl
  | x :: r, p, i, at_ => by rw [preL, List.length_append, preN_len x, preL_len r, nsL]
end
theorem dL_one (x : Node) : dL [x] = dN x + 1 := by rw [dL, dL]; omega
theorem app_ok {α : Type} {b : Nat} {xs ys : List α} (h : (xs.length + ys.length) * b ≤ 70368744177664) : app b xs ys = some (xs ++ ys) := if_pos h
theorem walk_eq (z : Nat) : ∀ (n : Nat) (x : Node) (p i : Int) (o : List hedge_Info), dN x < n → dN x + 1 < z → o.length + 1 + nsN x ≤ 1000000 →
    hedge_walk z n x p i ((o.length : Int), o) = some (((o ++ preN x p i o.length).length : Int), o ++ preN x p i o.length) := by
  intro n
  induction n with
  | zero => intro x p i o hd; omega
  | succ n ih =>
    intro x p i o hd hz hs
    have hs1 : nsL [x] = 1 + nsN x := by rw [nsL, nsL]; omega
    rw [hedge_walk, size_eq z [x] (by rw [dL_one]; omega) (by omega)]
    simp only [Option.bind_some]
    rw [app_ok (by simp only [List.length_cons, List.length_nil]; omega)]
    simp only [Option.bind_some]
    rw [hs1, w64_eq (n := (o.length : Int) + 1) (by omega) (by omega), w64_eq (n := (o.length : Int) + ((1 + nsN x : Nat) : Int)) (by omega) (by omega), w64_eq (by omega) (by omega)]
    have hk := len_ns x.Kids
    rw [nsN_eq] at hs
    rw [rangeL, if_pos (by omega)]
    suffices H : ∀ (l : List Node) (j : Nat) (q : List hedge_Info) (k : Int × List hedge_Info → Option (Int × List hedge_Info)), dL l < n + 1 → dL l + 1 < z + 1 → q.length + nsL l ≤ 1000000 → rangeC (fun i1 x1 (s1 : Int × List hedge_Info) n1 => (hedge_walk z n x1 (o.length : Int) (i1 : Int) s1).bind fun v => n1 v) l j ((q.length : Int), q) k = k (((q ++ preL l o.length j q.length).length : Int), q ++ preL l o.length j q.length) by
      have hd' : dN x = dL x.Kids := dN_eq x
      have := H x.Kids 0 (o ++ [⟨x.Label, p, i, (o.length : Int) + (1 + nsN x : Nat) - 1⟩]) (fun s1 => some s1) (by omega) (by omega) (by rw [List.length_append]; simp only [List.length_cons, List.length_nil]; omega)
      rw [List.length_append] at this
      simp only [List.length_cons, List.length_nil] at this
      rw [show (o.length : Int) + 1 = ((o.length + (0 + 1) : Nat) : Int) by omega]
      rw [this, preN_eq, List.append_assoc]
      rw [show (o.length : Int) + (1 + nsN x : Nat) - 1 = (o.length : Int) + nsL x.Kids by rw [nsN_eq]; omega]
      rfl
    intro l
    induction l with
    | nil => intro j q k _ _ _; rw [rangeC, preL, List.append_nil]
    | cons y r ihr =>
      intro j q k h1 h2 h3
      obtain ⟨d1, d2⟩ := dL_cons h1
      have h2' := h2
      rw [dL, dN_eq] at h2'
      rw [nsL] at h3
      rw [rangeC, ih y _ _ q (by rw [dN_eq]; exact d1) (by rw [dN_eq]; omega) (by omega)]
      simp only [Option.bind_some]
      have hz' : dL r + 1 < z + 1 := by rw [dL] at h2; omega
      rw [ihr _ _ _ d2 hz' (by rw [List.length_append, preN_len]; omega)]
      rw [preL, List.append_assoc, List.length_append («as» := q) (bs := preN y _ _ _), preN_len, Nat.add_assoc]
def cv (y : hedge_Info) : ref02_Info := ⟨y.Label, y.Parent, y.Index, y.Last⟩
theorem fin_eq (o : List ref02_Info) (a : ref02_Info) (rest : List ref02_Info) : ref02_fin o.length (o ++ a :: rest) = some (o ++ ⟨a.Label, a.Parent, a.Index, w64 (((o ++ a :: rest).length : Int) - 1)⟩ :: rest) := by
  unfold ref02_fin idxM
  rw [if_pos ⟨by omega, by rw [List.length_append, List.length_cons]; omega⟩]
  rw [Int.toNat_natCast, List.getElem?_append_right (Nat.le_refl _), Nat.sub_self]
  simp only [List.getElem?_cons_zero, Option.bind_some]
  rw [List.set_append_right _ _ (Nat.le_refl _), Nat.sub_self]
  rfl
theorem nodes_eq : ∀ (n : Nat) (x : Node) (p i : Int) (o : List ref02_Info) (g : Nat), dN x < n → o.length + 1 + nsN x ≤ 1000000 →
    ref02_nodes n x p i (o, g) = some (o ++ (preN x p i o.length).map cv, g + 1 + nsN x) := by
  intro n
  induction n with
  | zero => intro x p i o g hd; omega
  | succ n ih =>
    intro x p i o g hd hs
    rw [ref02_nodes]
    simp only []
    rw [app_ok (by simp only [List.length_cons, List.length_nil]; omega)]
    simp only [Option.bind_some]
    have hk := len_ns x.Kids
    rw [nsN_eq] at hs
    rw [rangeL, if_pos (by omega)]
    suffices H : ∀ (l : List Node) (j : Nat) (q : List ref02_Info) (g : Nat) (k : List ref02_Info × Nat → Option (List ref02_Info × Nat)), dL l < n + 1 → q.length + nsL l ≤ 1000000 → rangeC (fun i1 x1 (s1 : List ref02_Info × Nat) n1 => (ref02_nodes n x1 (o.length : Int) (i1 : Int) s1).bind fun v => n1 v) l j (q, g) k = k (q ++ (preL l o.length j q.length).map cv, g + nsL l) by
      have hd' : dN x = dL x.Kids := dN_eq x
      rw [H x.Kids 0 _ _ _ (by omega) (by rw [List.length_append]; simp only [List.length_cons, List.length_nil]; omega)]
      simp only []
      rw [List.append_assoc, List.cons_append, List.nil_append, fin_eq]
      simp only [Option.bind_some]
      have e1 : (o ++ [(⟨x.Label, p, i, 0⟩ : ref02_Info)]).length = o.length + 1 := by rw [List.length_append]; rfl
      rw [preN_eq, List.map_cons, nsN_eq, e1, List.length_append, List.length_cons, List.length_map, preL_len, w64_eq (by omega) (by omega), show ((o.length + (nsL x.Kids + 1) : Nat) : Int) - 1 = (o.length : Int) + nsL x.Kids by omega]
      rfl
    intro l
    induction l with
    | nil => intro j q g k _ _; rw [rangeC, preL, List.map_nil, List.append_nil, nsL]; rfl
    | cons y r ihr =>
      intro j q g k h1 h3
      obtain ⟨d1, d2⟩ := dL_cons h1
      rw [nsL] at h3
      rw [rangeC, ih y _ _ q g (by rw [dN_eq]; exact d1) (by omega)]
      simp only [Option.bind_some]
      rw [ihr _ _ _ _ d2 (by rw [List.length_append, List.length_map, preN_len]; omega)]
      rw [preL, List.map_append, List.append_assoc, List.length_append («as» := q) (bs := (preN y _ _ _).map cv), List.length_map, preN_len, nsL, show q.length + (1 + nsN y) = q.length + 1 + nsN y by omega, show g + 1 + nsN y + nsL r = g + (1 + nsN y + nsL r) by omega]
theorem list_eq {n : Nat} {x : Node} (hd : dN x < n + 1) (hs : 1 + nsN x ≤ 1000000) : ref02_List n x = some ((preN x (-1) 0 0).map cv) := by
  unfold ref02_List
  rw [app_ok (by simp only [List.length_cons, List.length_nil]; omega)]
  simp only [Option.bind_some, List.nil_append]
  have hk := len_ns x.Kids
  rw [nsN_eq] at hs
  rw [rangeL, if_pos (by omega)]
  suffices H : ∀ (l : List Node) (j : Nat) (q : List ref02_Info) (g : Nat) (k : List ref02_Info × Nat → Option (List ref02_Info)), dL l < n + 1 → q.length + nsL l ≤ 1000000 → rangeC (fun i1 x1 (s1 : List ref02_Info × Nat) n1 => (ref02_nodes n x1 ((0 : Nat) : Int) (i1 : Int) s1).bind fun v => n1 v) l j (q, g) k = k (q ++ (preL l ((0 : Nat) : Int) j q.length).map cv, g + nsL l) by
    have hd' : dN x = dL x.Kids := dN_eq x
    rw [H x.Kids 0 _ _ _ (by omega) (by simp only [List.length_cons, List.length_nil]; omega)]
    simp only [List.cons_append, List.nil_append]
    have := fin_eq [] ⟨x.Label, -1, 0, 0⟩ ((preL x.Kids ((0 : Nat) : Int) 0 1).map cv)
    simp only [List.nil_append, List.length_nil] at this
    rw [show [(⟨x.Label, -1, 0, 0⟩ : ref02_Info)].length = 1 from rfl, this, preN_eq, List.map_cons]
    rw [List.length_cons, List.length_map, preL_len, w64_eq (by omega) (by omega), show ((nsL x.Kids + 1 : Nat) : Int) - 1 = ((0 : Nat) : Int) + nsL x.Kids by omega]
    rfl
  intro l
  induction l with
  | nil => intro j q g k _ _; rw [rangeC, preL, List.map_nil, List.append_nil, nsL]; rfl
  | cons y r ihr =>
    intro j q g k h1 h3
    obtain ⟨d1, d2⟩ := dL_cons h1
    rw [nsL] at h3
    rw [rangeC, nodes_eq n y _ _ q g (by rw [dN_eq]; exact d1) (by omega)]
    simp only [Option.bind_some]
    rw [ihr _ _ _ _ d2 (by rw [List.length_append, List.length_map, preN_len]; omega)]
    rw [preL, List.map_append, List.append_assoc, List.length_append («as» := q) (bs := (preN y _ _ _).map cv), List.length_map, preN_len, nsL, show q.length + (1 + nsN y) = q.length + 1 + nsN y by omega, show g + 1 + nsN y + nsL r = g + (1 + nsN y + nsL r) by omega]
theorem same_eq (l : List hedge_Info) (hl : l.length < 9223372036854775808) : law02_same l (l.map cv) = some true := by
  unfold law02_same
  rw [if_pos (by rw [List.length_map]), rangeL, if_pos hl]
  suffices H : ∀ (r p : List hedge_Info), l = p ++ r → rangeC (fun i1 (x1 : hedge_Info) (s1 : Unit) n1 => ((l.map cv)[i1]?).bind fun v1 => if x1.Label = v1.Label then if x1.Parent = v1.Parent then if x1.Index = v1.Index then if x1.Last = v1.Last then n1 () else some false else some false else some false else some false) r p.length () (fun _ => some true) = some true from H l [] rfl
  intro r
  induction r with
  | nil => intro p _; rw [rangeC]
  | cons x r ih =>
    intro p e
    have hx : (l.map cv)[p.length]? = some (cv x) := by rw [List.getElem?_map, e, List.getElem?_append_right (Nat.le_refl _), Nat.sub_self]; rfl
    rw [rangeC, hx]
    simp only [Option.bind_some, cv, if_true]
    have := ih (p ++ [x]) (by rw [e]; simp)
    rw [List.length_append] at this
    exact this
theorem awake_eq (m : Nat) : law02_awake (m + 10) = some true := by rfl
end Go.AM.S02

namespace Go.AM.S02
open Go Go.Proofs Go.AM
set_option linter.unusedVariables false
theorem hnodes_eq {n : Nat} {a : Int} {x : Node} (hd : dN x + 2 < n) (hl : wdL [x] = true) : hedge_Nodes n a x = some (if vld a [x] = true then (preN x (-1) 0 0, 0) else ([], 1)) := by
  unfold hedge_Nodes hedge_Valid
  rw [hvalid_eq (by rw [dL_one]; omega) (by simp only [List.length_cons, List.length_nil]; omega) hl]
  simp only [Option.bind_some]
  by_cases c : vld a [x] = true
  · rw [if_pos c, if_pos c]
    have hs : nsL [x] ≤ 300 := by
      unfold vld at c
      simp only [Bool.and_eq_true, decide_eq_true_eq] at c
      omega
    rw [nsL, nsL] at hs
    have := walk_eq n n x (-1) 0 [] (by omega) (by omega) (by rw [List.length_nil]; omega)
    rw [show ((0 : Int), ([] : List hedge_Info)) = ((([] : List hedge_Info).length : Int), []) from rfl, this]
    rfl
  · rw [if_neg c, if_neg c]
theorem rnodes_eq {n : Nat} {a : Int} {x : Node} (hd : dN x + 2 < n) (hl : wdL [x] = true) : ref02_Nodes n a x = some (if vld a [x] = true then ((preN x (-1) 0 0).map cv, 0) else ([], 1)) := by
  unfold ref02_Nodes ref02_Valid
  rw [rvalid_eq (by rw [dL_one]; omega) (by simp only [List.length_cons, List.length_nil]; omega) hl]
  simp only [Option.bind_some]
  by_cases c : vld a [x] = true
  · rw [if_pos c, if_pos c]
    have hs : nsL [x] ≤ 300 := by
      unfold vld at c
      simp only [Bool.and_eq_true, decide_eq_true_eq] at c
      omega
    rw [nsL, nsL] at hs
    rw [list_eq (by omega) (by omega)]
    rfl
  · rw [if_neg c, if_neg c]
theorem nodes_law (m : Nat) (a : Int) (x : Node) (hd : dN x + 2 < m + 10) (hl : wdL [x] = true) : law02_HedgeNodes (m + 10) a x = some true := by
  unfold law02_HedgeNodes
  rw [few_eq (by rw [dL_one]; omega) (by simp only [List.length_cons, List.length_nil]; omega) hl (by omega) (by omega), awake_eq, hnodes_eq hd hl, rnodes_eq hd hl]
  simp only [Option.bind_some]
  by_cases c1 : (nsL [x] : Int) ≤ 2000
  · rw [decide_eq_true c1]
    simp only [if_true]
    by_cases c : vld a [x] = true
    · simp only [if_pos c, if_true]
      rw [nsL, nsL] at c1
      rw [same_eq _ (by rw [preN_len]; omega)]
      rfl
    · simp only [if_neg c, if_true]
      rfl
  · rw [decide_eq_false c1]
    rfl
/-- what the list says of its nodes -/
def GP (L : List hedge_Info) (p : Int) (at_ : Nat) : Prop := ∀ (j : Nat) y, L[j]? = some y → (y.Parent = p ∨ (at_ : Int) ≤ y.Parent) ∧ y.Parent < at_ + j ∧ (at_ + j : Int) ≤ y.Last ∧ y.Last < at_ + L.length ∧
  ∀ (j' : Nat) y', L[j']? = some y' → j < j' → ((at_ + j' : Int) ≤ y.Last → (at_ + j : Int) ≤ y'.Parent) ∧ (y.Last < at_ + j' → y'.Parent < at_ + j ∨ y.Last < y'.Parent)
theorem GP.nil (p : Int) (at_ : Nat) : GP [] p at_ := fun j y h => by simp at h
theorem GP.app {A B : List hedge_Info} {p : Int} {at_ : Nat} (hp : p < at_) (hA : GP A p at_) (hB : GP B p (at_ + A.length)) : GP (A ++ B) p at_ := by
  intro j y hj
  have hlen : (A ++ B).length = A.length + B.length := List.length_append
  rw [List.getElem?_append] at hj
  split at hj
  · rename_i hlt
    obtain ⟨a1, a2, a3, a4, a5⟩ := hA j y hj
    refine ⟨a1, a2, a3, by omega, fun j' y' hj' hlt' => ?_⟩
    rw [List.getElem?_append] at hj'
    split at hj'
    · exact a5 j' y' hj' hlt'
    · rename_i hge
      obtain ⟨b1, b2, b3, b4, b5⟩ := hB _ y' hj'
      exact ⟨fun h => by omega, fun h => by omega⟩
  · rename_i hge
    obtain ⟨b1, b2, b3, b4, b5⟩ := hB _ y hj
    have hjl := (List.getElem?_eq_some_iff.1 hj).1
    refine ⟨by omega, by omega, by omega, by omega, fun j' y' hj' hlt' => ?_⟩
    rw [List.getElem?_append_right (by omega)] at hj'
    obtain ⟨c1, c2⟩ := b5 _ y' hj' (by omega)
    exact ⟨fun h => by have := c1 (by omega); omega, fun h => by have := c2 (by omega); omega⟩
theorem GP.cons {l p i : Int} {at_ : Nat} {R : List hedge_Info} (hp : p < at_) (h : GP R at_ (at_ + 1)) : GP (⟨l, p, i, (at_ : Int) + R.length⟩ :: R) p at_ := by
  intro j y hj
  have hlen : ((⟨l, p, i, (at_ : Int) + R.length⟩ : hedge_Info) :: R).length = R.length + 1 := rfl
  rw [hlen]
  cases j with
  | zero =>
    injection hj with hj; subst hj
    refine ⟨.inl rfl, by simpa using hp, by simp only []; omega, by simp only []; omega, fun j' y' hj' hlt => ?_⟩
    cases j' with
    | zero => omega
    | succ j' =>
      rw [List.getElem?_cons_succ] at hj'
      obtain ⟨b1, b2, b3, b4, b5⟩ := h j' y' hj'
      have hjl := (List.getElem?_eq_some_iff.1 hj').1
      simp only []
      exact ⟨fun _ => by omega, fun hh => by omega⟩
  | succ j =>
    rw [List.getElem?_cons_succ] at hj
    obtain ⟨b1, b2, b3, b4, b5⟩ := h j y hj
    refine ⟨by omega, by omega, by omega, by omega, fun j' y' hj' hlt => ?_⟩
    cases j' with
    | zero => omega
    | succ j' =>
      rw [List.getElem?_cons_succ] at hj'
      obtain ⟨c1, c2⟩ := b5 j' y' hj' (by omega)
      exact ⟨fun h => by have := c1 (by omega); omega, fun h => by have := c2 (by omega); omega⟩
mutual
theorem preN_GP : ∀ (x : Node) (p i : Int) (at_ : Nat), p < at_ → GP (preN x p i at_) p at_
  | .mk l ks, p, i, at_, hp => by
    have := GP.cons (l := l) (i := i) hp (preL_GP ks at_ 0 (at_ + 1) (by omega))
    rw [preL_len] at this
    rw [preN]; exact this
theorem preL_GP : ∀ (l : List Node) (p : Int) (i at_ : Nat), p < at_ → GP (preL l p i at_) p at_
  | [], p, i, at_, hp => by rw [preL]; exact GP.nil p at_
  | x :: r, p, i, at_, hp => by
    rw [preL]
    refine GP.app hp (preN_GP x p i at_ hp) ?_
    have := preL_GP r p (i + 1) (at_ + 1 + nsN x) (by omega)
    rw [preN_len, ← Nat.add_assoc]
    exact this
end
/-- from m up to the first that is not above k -/
theorem climb {L : List hedge_Info} (hG : GP L (-1) 0) {k : Nat} {yk : hedge_Info} (hk : L[k]? = some yk) (B : (Int → Option Bool) → Int → (Int → Option Bool) → Option Bool)
    (hB : B = fun k1 (s1 : Int) n1 =>
                if (k : Int) < s1 then
                  (idx L s1).bind fun v10 =>
                  if v10.Parent < (-1) then
                    some false
                  else
                    if s1 ≤ v10.Parent then
                      some false
                    else
                      n1 v10.Parent
                else
                  k1 s1) (kk : Int → Option Bool) (b : Bool) :
    ∀ (n : Nat) (s : Int), -1 ≤ s → s < n → s < L.length → ((k : Int) ≤ s ∧ s ≤ yk.Last ↔ b = true) → (∀ t : Int, (t == (k : Int)) = b → kk t = some true) → whileC (B kk) (n + 1) s = some true := by
  obtain ⟨k1, k2, k3, k4, k5⟩ := hG k yk hk
  intro n
  induction n with
  | zero =>
    intro s h0 h1 h2 hb hkk
    rw [whileC, hB]
    simp only []
    rw [if_neg (by omega)]
    refine hkk s ?_
    cases b with
    | true => have := hb.2 rfl; omega
    | false => exact beq_eq_false_iff_ne.2 (fun e => by have := hb.1 (by omega); cases this)
  | succ n ih =>
    intro s h0 h1 h2 hb hkk
    rw [whileC, hB]
    simp only []
    by_cases c : (k : Int) < s
    · rw [if_pos c]
      obtain ⟨y, hy⟩ : ∃ y, L[s.toNat]? = some y := ⟨L[s.toNat]'(by omega), List.getElem?_eq_getElem (by omega)⟩
      have e1 : idx L s = some y := by unfold idx; rw [if_pos (by omega), hy]
      obtain ⟨a1, a2, a3, a4, a5⟩ := hG s.toNat y hy
      obtain ⟨c1, c2⟩ := k5 s.toNat y hy (by omega)
      rw [e1]
      simp only [Option.bind_some]
      rw [if_neg (by omega), if_neg (by omega)]
      have := ih y.Parent (by omega) (by omega) (by omega) ?_ hkk
      · rw [hB] at this; exact this
      · constructor
        · intro h
          refine hb.1 ⟨by omega, ?_⟩
          by_cases d : s ≤ yk.Last
          · exact d
          · have := c2 (by omega); omega
        · intro h
          have := hb.2 h
          have := c1 (by omega)
          omega
    · rw [if_neg c]
      refine hkk s ?_
      cases b with
      | true => have := hb.2 rfl; exact beq_iff_eq.2 (by omega)
      | false => exact beq_eq_false_iff_ne.2 (fun e => by have := hb.1 (by omega); cases this)
theorem parts_law (m : Nat) (a : Int) (x : Node) (k l : Int) (hd : dN x + 2 < m + 3010) (hl : wdL [x] = true) : law02_HedgeParts (m + 3010) a x k l = some true := by
  unfold law02_HedgeParts
  rw [few_eq (by rw [dL_one]; omega) (by simp only [List.length_cons, List.length_nil]; omega) hl (by omega) (by omega), show m + 3010 = (m + 3000) + 10 from rfl, awake_eq, show m + 3000 + 10 = m + 3010 from rfl, hnodes_eq hd hl]
  simp only [Option.bind_some]
  by_cases c1 : (nsL [x] : Int) ≤ 2000
  · rw [decide_eq_true c1]
    simp only [if_true]
    by_cases c : vld a [x] = true
    · simp only [if_pos c, if_true]
      rw [nsL, nsL] at c1
      by_cases c2 : k < 0
      · rw [if_pos c2]
      rw [if_neg c2]
      by_cases c3 : l < 0
      · rw [if_pos c3]
      rw [if_neg c3]
      have hlen := preN_len x (-1) 0 0
      by_cases c4 : ((preN x (-1) 0 0).length : Int) ≤ k
      · rw [if_pos c4]
      rw [if_neg c4]
      by_cases c5 : ((preN x (-1) 0 0).length : Int) ≤ l
      · rw [if_pos c5]
      rw [if_neg c5]
      have hG := preN_GP x (-1) 0 0 (by omega)
      revert hG hlen c4 c5
      generalize preN x (-1) 0 0 = L
      intro hlen c4 c5 hG
      obtain ⟨k, rfl⟩ := Int.eq_ofNat_of_zero_le (Int.not_lt.1 c2)
      obtain ⟨yk, hy⟩ : ∃ y, L[k]? = some y := ⟨L[k]'(by omega), List.getElem?_eq_getElem (by omega)⟩
      have hk3 := (hG k yk hy).2.2.1
      unfold whileL
      refine climb hG hy _ rfl _ (decide ((k : Int) ≤ l ∧ l ≤ yk.Last)) (m + 3009) l (by omega) (by omega) (by omega) (by simp) ?_
      intro t ht
      by_cases d1 : (k : Int) ≤ l
      · rw [if_pos d1]
        have e1 : idx L (k : Int) = some yk := by unfold idx; rw [if_pos (by omega), Int.toNat_natCast, hy]
        rw [e1]
        simp only [Option.bind_some]
        rw [ht, if_pos (by simp [d1])]
      · rw [if_neg d1, ht, if_pos (by simp [d1])]
    · simp only [if_neg c]
      rw [if_neg (by decide)]
  · rw [decide_eq_false c1]
    rfl
end Go.AM.S02

namespace Go.AM.S02
open Go Go.Proofs Go.AM
theorem wdL_all : ∀ {l : List Node}, (∀ x, x ∈ l → wdN x = true) → wdL l = true
  | [], _ => by rw [wdL]
  | x :: r, h => by rw [wdL, h x (by simp), wdL_all (fun y hy => h y (List.mem_cons_of_mem _ hy))]; rfl
theorem d3 : (T.at 3).d = .int .i64 := rfl
theorem d24 : (T.at 24).d = .st [(0, 3), (1, 22)] := rfl
theorem d22 : (T.at 22).d = .sl 24 := rfl
theorem sz3 : (T.at 3).size = 1 := rfl
theorem sz22 : (T.at 22).size = 1 := rfl
theorem sz24 : (T.at 24).size = 2 := rfl
theorem wt24 : ∀ (n : Nat) (cs : List PV), wt T n 24 cs → ∃ x : Node, cs = row_Node x ∧ wdN x = true := by
  intro n
  induction n using Nat.strongRecOn with
  | _ n ih =>
    intro cs h
    obtain ⟨m, rfl, h1, h2⟩ := wt_st d24 h
    rw [sz24] at h1
    match cs, h1 with
    | [c0, c1], _ =>
      have f0 := h2 (0, 3) (by simp)
      have f1 := h2 (1, 22) (by simp)
      simp only [sz3, sz22, List.drop_zero, List.drop_succ_cons, List.take_succ_cons, List.take_zero] at f0 f1
      obtain ⟨i, e0, _⟩ := wt_int d3 f0
      obtain ⟨xs, e1, hl, hx⟩ := wt_slM (row := row_Node) (P := fun x => wdN x = true) d22 f1 (fun m' r hm hr => ih m' (by omega) r hr)
      injection e0 with e0; subst e0
      injection e1 with e1; subst e1
      refine ⟨⟨i, xs⟩, by rw [row_Node_eq, sz24], ?_⟩
      rw [wdN, decide_eq_true hl, wdL_all hx]; rfl
theorem law3 (pss : List (List PV)) (h : wtAll T [3, 24] pss) : ∃ σ', call Try.prog T H (.fn 3) (argsOf T [3, 24] pss) [] = some (.ret (.p (.lit (.bool true))), σ') := by
  obtain ⟨p1, r1, rfl, ⟨n1, w1⟩, p2, r2, rfl, ⟨n2, w2⟩, rfl⟩ := h
  obtain ⟨a, rfl, _⟩ := wt_int d3 w1
  obtain ⟨x, rfl, hx⟩ := wt24 n2 p2 w2
  have := spec3 (dN x + 10) a x true (nodes_law (dN x) a x (by omega) (by rw [wdL, hx, wdL]; rfl))
  rw [row_Node_eq]
  exact ⟨[], this⟩
theorem law4 (pss : List (List PV)) (h : wtAll T [3, 24, 3, 3] pss) : ∃ σ', call Try.prog T H (.fn 4) (argsOf T [3, 24, 3, 3] pss) [] = some (.ret (.p (.lit (.bool true))), σ') := by
  obtain ⟨p1, r1, rfl, ⟨n1, w1⟩, p2, r2, rfl, ⟨n2, w2⟩, p3, r3, rfl, ⟨n3, w3⟩, p4, r4, rfl, ⟨n4, w4⟩, rfl⟩ := h
  obtain ⟨a, rfl, _⟩ := wt_int d3 w1
  obtain ⟨x, rfl, hx⟩ := wt24 n2 p2 w2
  obtain ⟨k, rfl, _⟩ := wt_int d3 w3
  obtain ⟨m, rfl, _⟩ := wt_int d3 w4
  have := spec4 (dN x + 3010) a x k m true (parts_law (dN x) a x k m (by omega) (by rw [wdL, hx, wdL]; rfl))
  rw [row_Node_eq]
  exact ⟨[], this⟩
theorem closed : closedB T [3, 22, 24] = true := by decide +kernel
theorem primOk : PrimOk Try.prog GL H := PrimOk.none fun f => hOf_pr (by kernel_rfl)
end Go.AM.S02

