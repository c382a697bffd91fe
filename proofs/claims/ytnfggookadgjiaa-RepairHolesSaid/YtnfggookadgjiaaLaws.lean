/- What the functions of this seat compute on the abstract machine, function by function, and the plain laws. -/
import Derived.Test.YtnfggookadgjiaaTab
import Derived.Test.YtnfggookadgjiaaAmGen
set_option linter.unusedVariables false
set_option linter.unusedSimpArgs false
namespace Go.AM.S22
open Go Go.Proofs Go.AM
set_option maxRecDepth 100000
set_option linter.unusedVariables false
set_option maxHeartbeats 4000000


structure Tree where
  Sym : Int
  Kids : List Tree
mutual
def row_Tree : Tree → List PV
  | .mk f0 f1 => [iv f0, .sl none 2 (rows_Tree f1)]
def rows_Tree : List Tree → List (List PV)
  | [] => []
  | x :: r => row_Tree x :: rows_Tree r
end
theorem rows_Tree_map : ∀ l : List Tree, rows_Tree l = l.map row_Tree
  | [] => rfl
  | x :: r => by rw [rows_Tree, rows_Tree_map r]; rfl
theorem row_Tree_eq (x : Tree) : row_Tree x = [iv x.Sym, .sl none 2 (List.map row_Tree x.Kids)] := by
  cases x; rw [row_Tree]; simp only [rows_Tree_map]
attribute [go_sem] row_Tree_eq
structure Rule where
  Sym : Int
  From : List Int
  To : Int
def row_Rule (x : Rule) : List PV := [iv x.Sym, .sl none 1 (List.map rowI x.From), iv x.To]
theorem row_Rule_eq (x : Rule) : row_Rule x = [iv x.Sym, .sl none 1 (List.map rowI x.From), iv x.To] := rfl
attribute [go_sem] row_Rule_eq
structure Alphabet where
  Ranks : List Int
def row_Alphabet (x : Alphabet) : List PV := [.sl none 1 (List.map rowI x.Ranks)]
theorem row_Alphabet_eq (x : Alphabet) : row_Alphabet x = [.sl none 1 (List.map rowI x.Ranks)] := rfl
attribute [go_sem] row_Alphabet_eq
structure Automaton where
  States : Int
  Final : List Int
  Rules : List Rule
def row_Automaton (x : Automaton) : List PV := [iv x.States, .sl none 1 (List.map rowI x.Final), .sl none 3 (List.map row_Rule x.Rules)]
theorem row_Automaton_eq (x : Automaton) : row_Automaton x = [iv x.States, .sl none 1 (List.map rowI x.Final), .sl none 3 (List.map row_Rule x.Rules)] := rfl
attribute [go_sem] row_Automaton_eq
structure repair_labeled where
  many : Int
  tree : Tree
def row_repair_labeled (x : repair_labeled) : List PV := [iv x.many, iv x.tree.Sym, .sl none 2 (List.map row_Tree x.tree.Kids)]
theorem row_repair_labeled_eq (x : repair_labeled) : row_repair_labeled x = [iv x.many, iv x.tree.Sym, .sl none 2 (List.map row_Tree x.tree.Kids)] := rfl
attribute [go_sem] row_repair_labeled_eq
structure tree_sized where
  sym : Int
  size : Int
  kids : List tree_sized
mutual
def row_tree_sized : tree_sized → List PV
  | .mk f0 f1 f2 => [iv f0, iv f1, .sl none 3 (rows_tree_sized f2)]
def rows_tree_sized : List tree_sized → List (List PV)
  | [] => []
  | x :: r => row_tree_sized x :: rows_tree_sized r
end
theorem rows_tree_sized_map : ∀ l : List tree_sized, rows_tree_sized l = l.map row_tree_sized
  | [] => rfl
  | x :: r => by rw [rows_tree_sized, rows_tree_sized_map r]; rfl
theorem row_tree_sized_eq (x : tree_sized) : row_tree_sized x = [iv x.sym, iv x.size, .sl none 3 (List.map row_tree_sized x.kids)] := by
  cases x; rw [row_tree_sized]; simp only [rows_tree_sized_map]
attribute [go_sem] row_tree_sized_eq
structure repair_holes where
  ok : Bool
  gone : Int
  list : List (List Int)
def row_repair_holes (x : repair_holes) : List PV := [bv x.ok, iv x.gone, .sl none 1 (List.map (rowL 1 rowI) x.list)]
theorem row_repair_holes_eq (x : repair_holes) : row_repair_holes x = [bv x.ok, iv x.gone, .sl none 1 (List.map (rowL 1 rowI) x.list)] := rfl
attribute [go_sem] row_repair_holes_eq
structure ref22_choice where
  some : Bool
  n : Int
  t : Tree
def row_ref22_choice (x : ref22_choice) : List PV := [bv x.some, iv x.n, iv x.t.Sym, .sl none 2 (List.map row_Tree x.t.Kids)]
theorem row_ref22_choice_eq (x : ref22_choice) : row_ref22_choice x = [bv x.some, iv x.n, iv x.t.Sym, .sl none 2 (List.map row_Tree x.t.Kids)] := rfl
attribute [go_sem] row_ref22_choice_eq
structure ref22_cut where
  some : Bool
  nodes : Int
  l : List (List Int)
def row_ref22_cut (x : ref22_cut) : List PV := [bv x.some, iv x.nodes, .sl none 1 (List.map (rowL 1 rowI) x.l)]
theorem row_ref22_cut_eq (x : ref22_cut) : row_ref22_cut x = [bv x.some, iv x.nodes, .sl none 1 (List.map (rowL 1 rowI) x.l)] := rfl
attribute [go_sem] row_ref22_cut_eq
structure repair_Weights where
  Relabel : Int
  Remove : Int
  Insert : Int
def row_repair_Weights (x : repair_Weights) : List PV := [iv x.Relabel, iv x.Remove, iv x.Insert]
theorem row_repair_Weights_eq (x : repair_Weights) : row_repair_Weights x = [iv x.Relabel, iv x.Remove, iv x.Insert] := rfl
attribute [go_sem] row_repair_Weights_eq
structure ref22_Weights where
  Relabel : Int
  Remove : Int
  Insert : Int
def row_ref22_Weights (x : ref22_Weights) : List PV := [iv x.Relabel, iv x.Remove, iv x.Insert]
theorem row_ref22_Weights_eq (x : ref22_Weights) : row_ref22_Weights x = [iv x.Relabel, iv x.Remove, iv x.Insert] := rfl
attribute [go_sem] row_ref22_Weights_eq
def ref01_count : Nat → Tree → Int → Option Int
  | 0, _, _ => none
  | n + 1, a0, a1 =>
    rangeL a0.Kids 1 (fun k1 i1 x1 (s1 : Int) n1 =>
      if s1 ≤ a1 then
        (ref01_count n x1 (w64 (a1 - s1))).bind fun v1 =>
        n1 (w64 (s1 + v1))
      else
        n1 s1) fun s1 =>
    some s1
theorem spec60 : ∀ (n : Nat), (∀ (a0 : Tree) (a1 : Int) (r : Int), ref01_count n a0 a1 = some r →
    call Try.prog T H (.fn 60) [.p (.agg [iv a0.Sym, .sl none 2 (List.map row_Tree a0.Kids)]), .p (iv a1)] [] = some (.ret (.p (iv r)), [])) := by
  intro n
  induction n with
  | zero => intro a0 a1 r h; cases h
  | succ n ih =>
    intro a0 a1 r h
    refine Sat.fn fun Q hQ => ?_
    rw [ref01_count] at h
    rw [call60]
    conv => arg 1; arg 7; unfold S22.c60 Try.f60; simp only [Option.getD_some]
    simp only [go_sem]
    refine run_rangeL (c := L60_0) (live := [1, 5, 9, 10, 11]) (by simp only [go_sem]) (M := fun i1 (s1 : Int) => [(1, .p (iv a1)), (5, .p (iv s1)), (9, .p (.sl none 2 (List.map row_Tree a0.Kids))), (10, .p (iv (a0.Kids.length : Int))), (11, .p (iv (i1 : Int)))]) (Z := fun i1 (s1 : Int) => [.cells [.p (iv a0.Sym), .p (.sl none 2 (List.map row_Tree a0.Kids))]]) (N := fun (s1 : Int) => ⟨[(5, .p (iv s1))], [.cells [.p (iv a0.Sym), .p (.sl none 2 (List.map row_Tree a0.Kids))]], [], none, false⟩) h rfl rfl (fun _ _ => rfl) ?_ ?_ ?_
    · intro s1 h
      try dsimp only at h ⊢
      simp only [go_sem]
      injection h with h; subst h
      exact Sat.ok hQ
    · intro K1 s1 hb1 he1
      try dsimp only
      conv => arg 1; arg 7; unfold L60_0 loopAt S22.c60 Try.f60; simp only [loopIn, Option.getD_some, if_true]
      simp only [go_sem, he1]
      exact hb1
    · intro K1 k1 i1 x1 s1 n1 hR1 hE1 hb1 hx1 hi1 hw1 ih1 h
      try dsimp only at h ⊢
      conv => arg 1; arg 7; unfold L60_0 loopAt S22.c60 Try.f60; simp only [loopIn, Option.getD_some, if_true]
      by_cases c1 : s1 ≤ a1
      · have h := iteT h c1
        obtain ⟨v1, e_v1, h⟩ := ob h
        have e_v1c : call Try.prog T H (.fn 60) [.p (.agg [iv x1.Sym, .sl none 2 (List.map row_Tree x1.Kids)]), .p (iv (w64 (a1 - s1)))] [] = some (.ret (.p (iv v1)), []) := ih x1 (w64 (a1 - s1)) v1 e_v1
        simp only [go_sem, hx1, hi1, hw1, c1, e_v1c, hR1, hE1]
        exact ih1 (w64 (s1 + v1)) h
      · have h := iteF h c1
        simp only [go_sem, hx1, hi1, hw1, c1, hR1, hE1]
        exact ih1 s1 h

def ref01_Few (n : Nat) (a0 : Tree) (a1 : Int) : Option Bool :=
  (ref01_count n a0 a1).bind fun v1 =>
  some (decide (v1 ≤ a1))
theorem spec27 (n : Nat) (a0 : Tree) (a1 : Int) (r : Bool) (h : ref01_Few n a0 a1 = some r) :
    call Try.prog T H (.fn 27) [.p (.agg [iv a0.Sym, .sl none 2 (List.map row_Tree a0.Kids)]), .p (iv a1)] [] = some (.ret (.p (bv r)), []) := by
  refine Sat.fn fun Q hQ => ?_
  unfold ref01_Few at h
  rw [call27]
  conv => arg 1; arg 7; unfold S22.c27 Try.f27; simp only [Option.getD_some]
  obtain ⟨v1, e_v1, h⟩ := ob h
  have e_v1c : call Try.prog T H (.fn 60) [.p (.agg [iv a0.Sym, .sl none 2 (List.map row_Tree a0.Kids)]), .p (iv a1)] [] = some (.ret (.p (iv v1)), []) := spec60 n a0 a1 v1 e_v1
  simp only [go_sem, e_v1c]
  injection h with h; subst h
  exact Sat.ok hQ

def law22_few (n : Nat) (a0 : Alphabet) (a1 : Automaton) (a2 : List Tree) : Option Bool :=
  rangeL a2 () (fun k1 i1 x1 (s1 : Unit) n1 =>
    (ref01_Few n x1 80).bind fun v1 =>
    if v1 = true then
      n1 ()
    else
      some false) fun s1 =>
  rangeL a1.Rules () (fun k2 i2 x2 (s2 : Unit) n2 =>
    if 30 < (x2.From.length : Int) then
      some false
    else
      n2 ()) fun s2 =>
  if (a0.Ranks.length : Int) ≤ 60 then
    if a1.States ≤ 40 then
      if (a1.Rules.length : Int) ≤ 400 then
        some (decide ((a1.Final.length : Int) ≤ 400))
      else
        some false
    else
      if 300 < a1.States then
        if (a1.Rules.length : Int) ≤ 400 then
          some (decide ((a1.Final.length : Int) ≤ 400))
        else
          some false
      else
        some false
  else
    some false
theorem spec8 (n : Nat) (a0 : Alphabet) (a1 : Automaton) (a2 : List Tree) (r : Bool) (h : law22_few n a0 a1 a2 = some r) :
    call Try.prog T H (.fn 8) [.p (.agg [.sl none 1 (List.map rowI a0.Ranks)]), .p (.agg [iv a1.States, .sl none 1 (List.map rowI a1.Final), .sl none 3 (List.map row_Rule a1.Rules)]), .p (.sl none 2 (List.map row_Tree a2))] [] = some (.ret (.p (bv r)), []) := by
  refine Sat.fn fun Q hQ => ?_
  unfold law22_few at h
  rw [call8]
  conv => arg 1; arg 7; unfold S22.c8 Try.f8; simp only [Option.getD_some]
  simp only [go_sem]
  refine run_rangeL (c := L8_0) (live := [3, 4, 11, 12, 13]) (by simp only [go_sem]) (M := fun i1 (s1 : Unit) => [(3, .ptr 0 0), (4, .ptr 1 0), (11, .p (.sl none 2 (List.map row_Tree a2))), (12, .p (iv (a2.length : Int))), (13, .p (iv (i1 : Int)))]) (Z := fun i1 (s1 : Unit) => [.cells [.p (.sl none 1 (List.map rowI a0.Ranks))], .cells [.p (iv a1.States), .p (.sl none 1 (List.map rowI a1.Final)), .p (.sl none 3 (List.map row_Rule a1.Rules))]]) (N := fun (s1 : Unit) => ⟨[(3, .ptr 0 0), (4, .ptr 1 0)], [.cells [.p (.sl none 1 (List.map rowI a0.Ranks))], .cells [.p (iv a1.States), .p (.sl none 1 (List.map rowI a1.Final)), .p (.sl none 3 (List.map row_Rule a1.Rules))]], [], none, false⟩) h rfl rfl (fun _ _ => rfl) ?_ ?_ ?_
  · intro s1 h
    try dsimp only at h ⊢
    simp only [go_sem]
    refine run_rangeL (c := L8_2) (live := [3, 4, 22, 23, 24]) (by simp only [go_sem]) (M := fun i2 (s2 : Unit) => [(3, .ptr 0 0), (4, .ptr 1 0), (22, .p (.sl none 3 (List.map row_Rule a1.Rules))), (23, .p (iv (a1.Rules.length : Int))), (24, .p (iv (i2 : Int)))]) (Z := fun i2 (s2 : Unit) => [.cells [.p (.sl none 1 (List.map rowI a0.Ranks))], .cells [.p (iv a1.States), .p (.sl none 1 (List.map rowI a1.Final)), .p (.sl none 3 (List.map row_Rule a1.Rules))]]) (N := fun (s2 : Unit) => ⟨[(3, .ptr 0 0), (4, .ptr 1 0)], [.cells [.p (.sl none 1 (List.map rowI a0.Ranks))], .cells [.p (iv a1.States), .p (.sl none 1 (List.map rowI a1.Final)), .p (.sl none 3 (List.map row_Rule a1.Rules))]], [], none, false⟩) h rfl rfl (fun _ _ => rfl) ?_ ?_ ?_
    · intro s2 h
      try dsimp only at h ⊢
      by_cases c1 : (a0.Ranks.length : Int) ≤ 60
      · have h := iteT h c1
        by_cases c2 : a1.States ≤ 40
        · have h := iteT h c2
          by_cases c3 : (a1.Rules.length : Int) ≤ 400
          · have h := iteT h c3
            simp only [go_sem, c1, c2, c3]
            injection h with h; subst h
            exact Sat.ok hQ
          · have h := iteF h c3
            simp only [go_sem, c1, c2, c3]
            injection h with h; subst h
            exact Sat.ok hQ
        · have h := iteF h c2
          by_cases c4 : 300 < a1.States
          · have h := iteT h c4
            by_cases c5 : (a1.Rules.length : Int) ≤ 400
            · have h := iteT h c5
              simp only [go_sem, c1, c2, c4, c5]
              injection h with h; subst h
              exact Sat.ok hQ
            · have h := iteF h c5
              simp only [go_sem, c1, c2, c4, c5]
              injection h with h; subst h
              exact Sat.ok hQ
          · have h := iteF h c4
            simp only [go_sem, c1, c2, c4]
            injection h with h; subst h
            exact Sat.ok hQ
      · have h := iteF h c1
        simp only [go_sem, c1]
        injection h with h; subst h
        exact Sat.ok hQ
    · intro K2 s2 hb2 he2
      try dsimp only
      conv => arg 1; arg 7; unfold L8_2 loopAt S22.c8 Try.f8; simp only [loopIn, Option.getD_some, if_true]
      simp only [go_sem, he2]
      exact hb2
    · intro K2 k2 i2 x2 s2 n2 hR2 hE2 hb2 hx2 hi2 hw2 ih2 h
      try dsimp only at h ⊢
      conv => arg 1; arg 7; unfold L8_2 loopAt S22.c8 Try.f8; simp only [loopIn, Option.getD_some, if_true]
      by_cases c6 : 30 < (x2.From.length : Int)
      · have h := iteT h c6
        simp only [go_sem, hx2, hi2, hw2, c6, hR2, hE2]
        injection h with h; subst h
        exact Sat.ok hQ
      · have h := iteF h c6
        simp only [go_sem, hx2, hi2, hw2, c6, hR2, hE2]
        exact ih2 () h
  · intro K1 s1 hb1 he1
    try dsimp only
    conv => arg 1; arg 7; unfold L8_0 loopAt S22.c8 Try.f8; simp only [loopIn, Option.getD_some, if_true]
    simp only [go_sem, he1]
    exact hb1
  · intro K1 k1 i1 x1 s1 n1 hR1 hE1 hb1 hx1 hi1 hw1 ih1 h
    try dsimp only at h ⊢
    conv => arg 1; arg 7; unfold L8_0 loopAt S22.c8 Try.f8; simp only [loopIn, Option.getD_some, if_true]
    obtain ⟨v1, e_v1, h⟩ := ob h
    have e_v1c : call Try.prog T H (.fn 27) [.p (.agg [iv x1.Sym, .sl none 2 (List.map row_Tree x1.Kids)]), .p (iv 80)] [] = some (.ret (.p (bv v1)), []) := spec27 n x1 80 v1 e_v1
    by_cases c7 : v1 = true
    · have h := iteT h c7
      simp only [go_sem, hx1, hi1, hw1, e_v1c, c7, hR1, hE1]
      exact ih1 () h
    · have h := iteF h c7
      have c7 := eq_false_of_ne_true c7
      simp only [go_sem, hx1, hi1, hw1, e_v1c, c7, hR1, hE1]
      injection h with h; subst h
      exact Sat.ok hQ

def tree_ValidAlphabet_1 (a0 : Int) : Option Bool :=
  if a0 < 0 then
    some true
  else
    some (decide (3 < a0))
theorem spec90 (a0 : Int) (r : Bool) (h : tree_ValidAlphabet_1 a0 = some r) :
    call Try.prog T H (.fn 90) [.p (iv a0)] [] = some (.ret (.p (bv r)), []) := by
  refine Sat.fn fun Q hQ => ?_
  unfold tree_ValidAlphabet_1 at h
  rw [call90]
  conv => arg 1; arg 7; unfold S22.c90 Try.f90; simp only [Option.getD_some]
  by_cases c1 : a0 < 0
  · have h := iteT h c1
    simp only [go_sem, c1]
    injection h with h; subst h
    exact Sat.ok hQ
  · have h := iteF h c1
    simp only [go_sem, c1]
    injection h with h; subst h
    exact Sat.ok hQ

def tree_ValidAlphabet (a0 : Alphabet) : Option Bool :=
  if (a0.Ranks.length : Int) ≤ 12 then
    jn (fun (u1 : Int) =>
      some (!(decide (0 ≤ u1)))) fun j1 =>
    rangeL a0.Ranks () (fun k1 i1 x1 (s1 : Unit) n1 =>
      (tree_ValidAlphabet_1 x1).bind fun v1 =>
      if v1 = true then
        j1 (i1 : Int)
      else
        n1 ()) fun s1 =>
    j1 (-1)
  else
    some false
theorem spec61 (a0 : Alphabet) (r : Bool) (h : tree_ValidAlphabet a0 = some r) :
    call Try.prog T H (.fn 61) [.p (.agg [.sl none 1 (List.map rowI a0.Ranks)])] [] = some (.ret (.p (bv r)), []) := by
  refine Sat.fn fun Q hQ => ?_
  unfold tree_ValidAlphabet at h
  rw [call61]
  conv => arg 1; arg 7; unfold S22.c61 Try.f61; simp only [Option.getD_some]
  by_cases c1 : (a0.Ranks.length : Int) ≤ 12
  · have h := iteT h c1
    simp only [go_sem, c1]
    refine Sat.callc ?_
    rw [call50]
    conv => arg 1; arg 7; unfold S22.c50 Try.f50; simp only [Option.getD_some]
    simp only [go_sem]
    refine Sat.callj (V := fun (u1 : Int) => .p (iv u1)) (Z := fun (u1 : Int) => [.cells [.p (.sl none 1 (List.map rowI a0.Ranks))]]) h ?_ ?_
    · intro u1 h
      try dsimp only at h ⊢
      simp only [go_sem]
      refine Sat.ok ?_
      dsimp only
      simp only [go_sem]
      injection h with h; subst h
      exact Sat.ok hQ
    · intro j1 h
      rw [call80]
      conv => arg 1; arg 7; unfold S22.c80 Try.f80; simp only [Option.getD_some]
      simp only [go_sem]
      refine run_rangeL (c := L80_0) (live := [0, 1, 7, 8]) (by simp only [go_sem]) (M := fun i1 (s1 : Unit) => [(0, .p (.sl none 1 (List.map rowI a0.Ranks))), (1, .p (.fn 90)), (7, .p (iv (a0.Ranks.length : Int))), (8, .p (iv (i1 : Int)))]) (Z := fun i1 (s1 : Unit) => [.cells [.p (.sl none 1 (List.map rowI a0.Ranks))]]) (N := fun (s1 : Unit) => ⟨[], [.cells [.p (.sl none 1 (List.map rowI a0.Ranks))]], [], none, false⟩) h rfl rfl (fun _ _ => rfl) ?_ ?_ ?_
      · intro s1 h
        try dsimp only at h ⊢
        simp only [go_sem]
        exact Sat.ok ⟨(-1), rfl, h⟩
      · intro K1 s1 hb1 he1
        try dsimp only
        conv => arg 1; arg 7; unfold L80_0 loopAt S22.c80 Try.f80; simp only [loopIn, Option.getD_some, if_true]
        simp only [go_sem, he1]
        exact hb1
      · intro K1 k1 i1 x1 s1 n1 hR1 hE1 hb1 hx1 hi1 hw1 ih1 h
        try dsimp only at h ⊢
        conv => arg 1; arg 7; unfold L80_0 loopAt S22.c80 Try.f80; simp only [loopIn, Option.getD_some, if_true]
        obtain ⟨v1, e_v1, h⟩ := ob h
        have e_v1c : call Try.prog T H (.fn 90) [.p (iv x1)] [] = some (.ret (.p (bv v1)), []) := spec90 x1 v1 e_v1
        by_cases c2 : v1 = true
        · have h := iteT h c2
          simp only [go_sem, hx1, hi1, hw1, e_v1c, c2, hR1, hE1]
          exact Sat.ok ⟨(i1 : Int), rfl, h⟩
        · have h := iteF h c2
          have c2 := eq_false_of_ne_true c2
          simp only [go_sem, hx1, hi1, hw1, e_v1c, c2, hR1, hE1]
          exact ih1 () h
  · have h := iteF h c1
    simp only [go_sem, c1]
    injection h with h; subst h
    exact Sat.ok hQ

def auto_Valid (a0 : Alphabet) (a1 : Automaton) : Option Bool :=
  (tree_ValidAlphabet a0).bind fun v1 =>
  if v1 = true then
    if a1.States < 0 then
      some false
    else
      if 300 < a1.States then
        some false
      else
        if 20000 < (a1.Rules.length : Int) then
          some false
        else
          rangeL a1.Final () (fun k1 i1 x1 (s1 : Unit) n1 =>
            jn (fun (u3 : Bool) =>
              if u3 = true then
                if 0 < (i1 : Int) then
                  (idx a1.Final (w64 ((i1 : Int) - 1))).bind fun v3 =>
                  if x1 ≤ v3 then
                    some false
                  else
                    n1 ()
                else
                  n1 ()
              else
                some false) fun j3 =>
            if 0 ≤ x1 then
              j3 (decide (x1 < a1.States))
            else
              j3 false) fun s1 =>
          rangeL a1.Rules () (fun k3 i3 x3 (s3 : Unit) n3 =>
            if x3.Sym < 0 then
              some false
            else
              if (a0.Ranks.length : Int) ≤ x3.Sym then
                some false
              else
                (idx a0.Ranks x3.Sym).bind fun v2 =>
                if (x3.From.length : Int) = v2 then
                  jn (fun (u1 : Bool) =>
                    if u1 = true then
                      rangeL x3.From () (fun k4 i4 x4 (s4 : Unit) n4 =>
                        jn (fun (u2 : Bool) =>
                          if u2 = true then
                            n4 ()
                          else
                            some false) fun j2 =>
                        if 0 ≤ x4 then
                          j2 (decide (x4 < a1.States))
                        else
                          j2 false) fun s4 =>
                      n3 ()
                    else
                      some false) fun j1 =>
                  if 0 ≤ x3.To then
                    j1 (decide (x3.To < a1.States))
                  else
                    j1 false
                else
                  some false) fun s3 =>
          some true
  else
    some false
theorem spec28 (a0 : Alphabet) (a1 : Automaton) (r : Bool) (h : auto_Valid a0 a1 = some r) :
    call Try.prog T H (.fn 28) [.p (.agg [.sl none 1 (List.map rowI a0.Ranks)]), .p (.agg [iv a1.States, .sl none 1 (List.map rowI a1.Final), .sl none 3 (List.map row_Rule a1.Rules)])] [] = some (.ret (.p (bv r)), []) := by
  refine Sat.fn fun Q hQ => ?_
  unfold auto_Valid at h
  rw [call28]
  conv => arg 1; arg 7; unfold S22.c28 Try.f28; simp only [Option.getD_some]
  obtain ⟨v1, e_v1, h⟩ := ob h
  have e_v1c : call Try.prog T H (.fn 61) [.p (.agg [.sl none 1 (List.map rowI a0.Ranks)])] [] = some (.ret (.p (bv v1)), []) := spec61 a0 v1 e_v1
  by_cases c1 : v1 = true
  · have h := iteT h c1
    by_cases c2 : a1.States < 0
    · have h := iteT h c2
      simp only [go_sem, e_v1c, c1, c2]
      injection h with h; subst h
      exact Sat.ok hQ
    · have h := iteF h c2
      by_cases c3 : 300 < a1.States
      · have h := iteT h c3
        simp only [go_sem, e_v1c, c1, c2, c3]
        injection h with h; subst h
        exact Sat.ok hQ
      · have h := iteF h c3
        by_cases c4 : 20000 < (a1.Rules.length : Int)
        · have h := iteT h c4
          simp only [go_sem, e_v1c, c1, c2, c3, c4]
          injection h with h; subst h
          exact Sat.ok hQ
        · have h := iteF h c4
          simp only [go_sem, e_v1c, c1, c2, c3, c4]
          refine run_rangeL (c := L28_0) (live := [2, 3, 5, 33, 34, 35]) (by simp only [go_sem]) (M := fun i1 (s1 : Unit) => [(2, .ptr 0 0), (3, .ptr 1 0), (5, .fn 62 [.ptr 1 0]), (33, .p (.sl none 1 (List.map rowI a1.Final))), (34, .p (iv (a1.Final.length : Int))), (35, .p (iv (i1 : Int)))]) (Z := fun i1 (s1 : Unit) => [.cells [.p (.sl none 1 (List.map rowI a0.Ranks))], .cells [.p (iv a1.States), .p (.sl none 1 (List.map rowI a1.Final)), .p (.sl none 3 (List.map row_Rule a1.Rules))]]) (N := fun (s1 : Unit) => ⟨[(2, .ptr 0 0), (3, .ptr 1 0), (5, .fn 62 [.ptr 1 0])], [.cells [.p (.sl none 1 (List.map rowI a0.Ranks))], .cells [.p (iv a1.States), .p (.sl none 1 (List.map rowI a1.Final)), .p (.sl none 3 (List.map row_Rule a1.Rules))]], [], none, false⟩) h rfl rfl (fun _ _ => rfl) ?_ ?_ ?_
          · intro s1 h
            try dsimp only at h ⊢
            simp only [go_sem]
            refine run_rangeL (c := L28_2) (live := [2, 5, 60, 61, 62]) (by simp only [go_sem]) (M := fun i3 (s3 : Unit) => [(2, .ptr 0 0), (5, .fn 62 [.ptr 1 0]), (60, .p (.sl none 3 (List.map row_Rule a1.Rules))), (61, .p (iv (a1.Rules.length : Int))), (62, .p (iv (i3 : Int)))]) (Z := fun i3 (s3 : Unit) => [.cells [.p (.sl none 1 (List.map rowI a0.Ranks))], .cells [.p (iv a1.States), .p (.sl none 1 (List.map rowI a1.Final)), .p (.sl none 3 (List.map row_Rule a1.Rules))]]) (N := fun (s3 : Unit) => ⟨[], [.cells [.p (.sl none 1 (List.map rowI a0.Ranks))], .cells [.p (iv a1.States), .p (.sl none 1 (List.map rowI a1.Final)), .p (.sl none 3 (List.map row_Rule a1.Rules))]], [], none, false⟩) h rfl rfl (fun _ _ => rfl) ?_ ?_ ?_
            · intro s3 h
              try dsimp only at h ⊢
              simp only [go_sem]
              injection h with h; subst h
              exact Sat.ok hQ
            · intro K3 s3 hb3 he3
              try dsimp only
              conv => arg 1; arg 7; unfold L28_2 loopAt S22.c28 Try.f28; simp only [loopIn, Option.getD_some, if_true]
              simp only [go_sem, he3]
              exact hb3
            · intro K3 k3 i3 x3 s3 n3 hR3 hE3 hb3 hx3 hi3 hw3 ih3 h
              try dsimp only at h ⊢
              conv => arg 1; arg 7; unfold L28_2 loopAt S22.c28 Try.f28; simp only [loopIn, Option.getD_some, if_true]
              by_cases c5 : x3.Sym < 0
              · have h := iteT h c5
                simp only [go_sem, hx3, hi3, hw3, c5, hR3, hE3]
                injection h with h; subst h
                exact Sat.ok hQ
              · have h := iteF h c5
                by_cases c6 : (a0.Ranks.length : Int) ≤ x3.Sym
                · have h := iteT h c6
                  simp only [go_sem, hx3, hi3, hw3, c5, c6, hR3, hE3]
                  injection h with h; subst h
                  exact Sat.ok hQ
                · have h := iteF h c6
                  obtain ⟨v2, e_v2, h⟩ := ob h
                  obtain ⟨e_v2a, e_v2b⟩ := idx_some e_v2
                  by_cases c7 : (x3.From.length : Int) = v2
                  · have h := iteT h c7
                    have c7b : ((x3.From.length : Int) != v2) = false := bneF c7
                    simp only [go_sem, hx3, hi3, hw3, c5, c6, e_v2a, e_v2b, c7b, hR3, hE3]
                    refine Sat.callj (V := fun (u1 : Bool) => .p (bv u1)) (Z := fun (u1 : Bool) => [.cells [.p (.sl none 1 (List.map rowI a0.Ranks))], .cells [.p (iv a1.States), .p (.sl none 1 (List.map rowI a1.Final)), .p (.sl none 3 (List.map row_Rule a1.Rules))], .cells [.p (iv x3.Sym), .p (.sl none 1 (List.map rowI x3.From)), .p (iv x3.To)]]) h ?_ ?_
                    · intro u1 h
                      try dsimp only at h ⊢
                      by_cases c8 : u1 = true
                      · have h := iteT h c8
                        simp only [go_sem, c8, hw3, hR3, hE3]
                        refine run_rangeL (c := L28_4) (live := [2, 5, 60, 61, 62, 97, 98, 99]) (by simp only [go_sem]) (M := fun i4 (s4 : Unit) => [(2, .ptr 0 0), (5, .fn 62 [.ptr 1 0]), (60, .p (.sl none 3 (List.map row_Rule a1.Rules))), (61, .p (iv (a1.Rules.length : Int))), (62, .p (iv (i3 : Int))), (97, .p (.sl none 1 (List.map rowI x3.From))), (98, .p (iv (x3.From.length : Int))), (99, .p (iv (i4 : Int)))]) (Z := fun i4 (s4 : Unit) => [.cells [.p (.sl none 1 (List.map rowI a0.Ranks))], .cells [.p (iv a1.States), .p (.sl none 1 (List.map rowI a1.Final)), .p (.sl none 3 (List.map row_Rule a1.Rules))], .cells [.p (iv x3.Sym), .p (.sl none 1 (List.map rowI x3.From)), .p (iv x3.To)]]) (N := fun (s4 : Unit) => ⟨[(2, .ptr 0 0), (5, .fn 62 [.ptr 1 0]), (60, .p (.sl none 3 (List.map row_Rule a1.Rules))), (61, .p (iv (a1.Rules.length : Int))), (62, .p (iv (i3 : Int)))], [.cells [.p (.sl none 1 (List.map rowI a0.Ranks))], .cells [.p (iv a1.States), .p (.sl none 1 (List.map rowI a1.Final)), .p (.sl none 3 (List.map row_Rule a1.Rules))], .cells [.p (iv x3.Sym), .p (.sl none 1 (List.map rowI x3.From)), .p (iv x3.To)]], [], none, false⟩) h rfl rfl (fun _ _ => rfl) ?_ ?_ ?_
                        · intro s4 h
                          try dsimp only at h ⊢
                          simp only [go_sem, hw3, hR3, hE3]
                          exact ih3 () h
                        · intro K4 s4 hb4 he4
                          try dsimp only
                          conv => arg 1; arg 7; unfold L28_4 loopAt S22.c28 Try.f28; simp only [loopIn, Option.getD_some, if_true]
                          simp only [go_sem, he4]
                          exact hb4
                        · intro K4 k4 i4 x4 s4 n4 hR4 hE4 hb4 hx4 hi4 hw4 ih4 h
                          try dsimp only at h ⊢
                          conv => arg 1; arg 7; unfold L28_4 loopAt S22.c28 Try.f28; simp only [loopIn, Option.getD_some, if_true]
                          simp only [go_sem, hx4, hi4, hw4, hw3, hR3, hE3, hR4, hE4]
                          refine Sat.callj (V := fun (u2 : Bool) => .p (bv u2)) (Z := fun (u2 : Bool) => [.cells [.p (.sl none 1 (List.map rowI a0.Ranks))], .cells [.p (iv a1.States), .p (.sl none 1 (List.map rowI a1.Final)), .p (.sl none 3 (List.map row_Rule a1.Rules))], .cells [.p (iv x3.Sym), .p (.sl none 1 (List.map rowI x3.From)), .p (iv x3.To)]]) h ?_ ?_
                          · intro u2 h
                            try dsimp only at h ⊢
                            by_cases c9 : u2 = true
                            · have h := iteT h c9
                              simp only [go_sem, c9, hw3, hR3, hE3, hw4, hR4, hE4]
                              exact ih4 () h
                            · have h := iteF h c9
                              have c9 := eq_false_of_ne_true c9
                              simp only [go_sem, c9, hw3, hR3, hE3, hw4, hR4, hE4]
                              injection h with h; subst h
                              exact Sat.ok hQ
                          · intro j2 h
                            rw [call62]
                            conv => arg 1; arg 7; unfold S22.c62 Try.f62; simp only [Option.getD_some]
                            by_cases c10 : 0 ≤ x4
                            · have h := iteT h c10
                              simp only [go_sem, c10]
                              exact Sat.ok ⟨(decide (x4 < a1.States)), rfl, h⟩
                            · have h := iteF h c10
                              simp only [go_sem, c10]
                              exact Sat.ok ⟨false, rfl, h⟩
                      · have h := iteF h c8
                        have c8 := eq_false_of_ne_true c8
                        simp only [go_sem, c8, hw3, hR3, hE3]
                        injection h with h; subst h
                        exact Sat.ok hQ
                    · intro j1 h
                      rw [call62]
                      conv => arg 1; arg 7; unfold S22.c62 Try.f62; simp only [Option.getD_some]
                      by_cases c11 : 0 ≤ x3.To
                      · have h := iteT h c11
                        simp only [go_sem, c11]
                        exact Sat.ok ⟨(decide (x3.To < a1.States)), rfl, h⟩
                      · have h := iteF h c11
                        simp only [go_sem, c11]
                        exact Sat.ok ⟨false, rfl, h⟩
                  · have h := iteF h c7
                    have c7b : ((x3.From.length : Int) != v2) = true := bneT c7
                    simp only [go_sem, hx3, hi3, hw3, c5, c6, e_v2a, e_v2b, c7b, hR3, hE3]
                    injection h with h; subst h
                    exact Sat.ok hQ
          · intro K1 s1 hb1 he1
            try dsimp only
            conv => arg 1; arg 7; unfold L28_0 loopAt S22.c28 Try.f28; simp only [loopIn, Option.getD_some, if_true]
            simp only [go_sem, he1]
            exact hb1
          · intro K1 k1 i1 x1 s1 n1 hR1 hE1 hb1 hx1 hi1 hw1 ih1 h
            try dsimp only at h ⊢
            conv => arg 1; arg 7; unfold L28_0 loopAt S22.c28 Try.f28; simp only [loopIn, Option.getD_some, if_true]
            simp only [go_sem, hx1, hi1, hw1, hR1, hE1]
            refine Sat.callj (V := fun (u3 : Bool) => .p (bv u3)) (Z := fun (u3 : Bool) => [.cells [.p (.sl none 1 (List.map rowI a0.Ranks))], .cells [.p (iv a1.States), .p (.sl none 1 (List.map rowI a1.Final)), .p (.sl none 3 (List.map row_Rule a1.Rules))]]) h ?_ ?_
            · intro u3 h
              try dsimp only at h ⊢
              by_cases c12 : u3 = true
              · have h := iteT h c12
                by_cases c13 : 0 < (i1 : Int)
                · have h := iteT h c13
                  obtain ⟨v3, e_v3, h⟩ := ob h
                  obtain ⟨e_v3a, e_v3b⟩ := idx_some e_v3
                  by_cases c14 : x1 ≤ v3
                  · have h := iteT h c14
                    simp only [go_sem, c12, c13, e_v3a, e_v3b, c14, hw1, hR1, hE1]
                    injection h with h; subst h
                    exact Sat.ok hQ
                  · have h := iteF h c14
                    simp only [go_sem, c12, c13, e_v3a, e_v3b, c14, hw1, hR1, hE1]
                    exact ih1 () h
                · have h := iteF h c13
                  simp only [go_sem, c12, c13, hw1, hR1, hE1]
                  exact ih1 () h
              · have h := iteF h c12
                have c12 := eq_false_of_ne_true c12
                simp only [go_sem, c12, hw1, hR1, hE1]
                injection h with h; subst h
                exact Sat.ok hQ
            · intro j3 h
              rw [call62]
              conv => arg 1; arg 7; unfold S22.c62 Try.f62; simp only [Option.getD_some]
              by_cases c15 : 0 ≤ x1
              · have h := iteT h c15
                simp only [go_sem, c15]
                exact Sat.ok ⟨(decide (x1 < a1.States)), rfl, h⟩
              · have h := iteF h c15
                simp only [go_sem, c15]
                exact Sat.ok ⟨false, rfl, h⟩
  · have h := iteF h c1
    have c1 := eq_false_of_ne_true c1
    simp only [go_sem, e_v1c, c1]
    injection h with h; subst h
    exact Sat.ok hQ

def tree_formed : Nat → Alphabet → Tree → Int → Option (Bool × Int)
  | 0, _, _, _ => none
  | n + 1, a0, a1, a2 =>
    if (w64 (a2 - 1)) < 0 then
      some (false, w64 (a2 - 1))
    else
      if a1.Sym < 0 then
        some (false, w64 (a2 - 1))
      else
        if (a0.Ranks.length : Int) ≤ a1.Sym then
          some (false, w64 (a2 - 1))
        else
          (idx a0.Ranks a1.Sym).bind fun v1 =>
          if (a1.Kids.length : Int) = v1 then
            rangeL a1.Kids (w64 (a2 - 1)) (fun k1 i1 x1 (s1 : Int) n1 =>
              (tree_formed n a0 x1 s1).bind fun v2 =>
              if v2.1 = true then
                n1 v2.2
              else
                some (false, v2.2)) fun s1 =>
            some (true, s1)
          else
            some (false, w64 (a2 - 1))
theorem spec63 : ∀ (n : Nat), (∀ (σ : List AObj) (p2 : Nat) (hp2 : p2 < σ.length) (a0 : Alphabet) (a1 : Tree) (a2 : Int) (r : Bool × Int), tree_formed n a0 a1 a2 = some r →
    call Try.prog T H (.fn 63) [.p (.agg [.sl none 1 (List.map rowI a0.Ranks)]), .p (.agg [iv a1.Sym, .sl none 2 (List.map row_Tree a1.Kids)]), .ptr p2 0] (List.set σ p2 (.cells [.p (iv a2)])) = some (.ret (.p (bv r.1)), (List.set σ p2 (.cells [.p (iv r.2)])))) := by
  intro n
  induction n with
  | zero => intro σ p2 hp2 a0 a1 a2 r h; cases h
  | succ n ih =>
    intro σ p2 hp2 a0 a1 a2 r h
    refine Sat.fn fun Q hQ => ?_
    rw [tree_formed] at h
    rw [call63]
    conv => arg 1; arg 7; unfold S22.c63 Try.f63; simp only [Option.getD_some]
    by_cases c1 : (w64 (a2 - 1)) < 0
    · have h := iteT h c1
      simp only [go_sem, c1, hp2, fun k => Nat.lt_add_right k hp2, Nat.not_le_of_lt hp2, fun k => Nat.not_le_of_lt (Nat.lt_add_right k hp2)]
      injection h with h; subst h
      exact Sat.ok hQ
    · have h := iteF h c1
      by_cases c2 : a1.Sym < 0
      · have h := iteT h c2
        simp only [go_sem, c1, c2, hp2, fun k => Nat.lt_add_right k hp2, Nat.not_le_of_lt hp2, fun k => Nat.not_le_of_lt (Nat.lt_add_right k hp2)]
        injection h with h; subst h
        exact Sat.ok hQ
      · have h := iteF h c2
        by_cases c3 : (a0.Ranks.length : Int) ≤ a1.Sym
        · have h := iteT h c3
          simp only [go_sem, c1, c2, c3, hp2, fun k => Nat.lt_add_right k hp2, Nat.not_le_of_lt hp2, fun k => Nat.not_le_of_lt (Nat.lt_add_right k hp2)]
          injection h with h; subst h
          exact Sat.ok hQ
        · have h := iteF h c3
          obtain ⟨v1, e_v1, h⟩ := ob h
          obtain ⟨e_v1a, e_v1b⟩ := idx_some e_v1
          by_cases c4 : (a1.Kids.length : Int) = v1
          · have h := iteT h c4
            have c4b : ((a1.Kids.length : Int) != v1) = false := bneF c4
            simp only [go_sem, c1, c2, c3, e_v1a, e_v1b, c4b, hp2, fun k => Nat.lt_add_right k hp2, Nat.not_le_of_lt hp2, fun k => Nat.not_le_of_lt (Nat.lt_add_right k hp2)]
            refine run_rangeL (c := L63_0) (live := [2, 3, 44, 45, 46]) (by simp only [go_sem]) (M := fun i1 (s1 : Int) => [(2, .ptr p2 0), (3, .ptr σ.length 0), (44, .p (.sl none 2 (List.map row_Tree a1.Kids))), (45, .p (iv (a1.Kids.length : Int))), (46, .p (iv (i1 : Int)))]) (Z := fun i1 (s1 : Int) => ((List.set σ p2 (.cells [.p (iv s1)])) ++ [.cells [.p (.sl none 1 (List.map rowI a0.Ranks))], .cells [.p (iv a1.Sym), .p (.sl none 2 (List.map row_Tree a1.Kids))]])) (N := fun (s1 : Int) => ⟨[], ((List.set σ p2 (.cells [.p (iv s1)])) ++ [.cells [.p (.sl none 1 (List.map rowI a0.Ranks))], .cells [.p (iv a1.Sym), .p (.sl none 2 (List.map row_Tree a1.Kids))]]), [], none, false⟩) h rfl rfl (fun _ _ => rfl) ?_ ?_ ?_
            · intro s1 h
              try dsimp only at h ⊢
              simp only [go_sem, hp2, fun k => Nat.lt_add_right k hp2, Nat.not_le_of_lt hp2, fun k => Nat.not_le_of_lt (Nat.lt_add_right k hp2)]
              injection h with h; subst h
              exact Sat.ok hQ
            · intro K1 s1 hb1 he1
              try dsimp only
              conv => arg 1; arg 7; unfold L63_0 loopAt S22.c63 Try.f63; simp only [loopIn, Option.getD_some, if_true]
              simp only [go_sem, he1, hp2, fun k => Nat.lt_add_right k hp2, Nat.not_le_of_lt hp2, fun k => Nat.not_le_of_lt (Nat.lt_add_right k hp2)]
              exact hb1
            · intro K1 k1 i1 x1 s1 n1 hR1 hE1 hb1 hx1 hi1 hw1 ih1 h
              try dsimp only at h ⊢
              conv => arg 1; arg 7; unfold L63_0 loopAt S22.c63 Try.f63; simp only [loopIn, Option.getD_some, if_true]
              obtain ⟨v2, e_v2, h⟩ := ob h
              have e_v2c : call Try.prog T H (.fn 63) [.p (.agg [.sl none 1 (List.map rowI a0.Ranks)]), .p (.agg [iv x1.Sym, .sl none 2 (List.map row_Tree x1.Kids)]), .ptr p2 0] ((List.set σ p2 (.cells [.p (iv s1)])) ++ [.cells [.p (.sl none 1 (List.map rowI a0.Ranks))], .cells [.p (iv a1.Sym), .p (.sl none 2 (List.map row_Tree a1.Kids))], .cells [.p (iv x1.Sym), .p (.sl none 2 (List.map row_Tree x1.Kids))]]) = some (.ret (.p (bv v2.1)), ((List.set σ p2 (.cells [.p (iv v2.2)])) ++ [.cells [.p (.sl none 1 (List.map rowI a0.Ranks))], .cells [.p (iv a1.Sym), .p (.sl none 2 (List.map row_Tree a1.Kids))], .cells [.p (iv x1.Sym), .p (.sl none 2 (List.map row_Tree x1.Kids))]])) := by have q := ih ((List.set σ p2 (.cells [.p (iv s1)])) ++ [.cells [.p (.sl none 1 (List.map rowI a0.Ranks))], .cells [.p (iv a1.Sym), .p (.sl none 2 (List.map row_Tree a1.Kids))], .cells [.p (iv x1.Sym), .p (.sl none 2 (List.map row_Tree x1.Kids))]]) p2 (by simp only [List.length_append, List.length_set, List.length_cons, List.length_nil]; omega) a0 x1 s1 v2 e_v2; first | (simp only [go_sem, hp2, fun k => Nat.lt_add_right k hp2, Nat.not_le_of_lt hp2, fun k => Nat.not_le_of_lt (Nat.lt_add_right k hp2)] at q ⊢; exact q) | exact q
              by_cases c5 : v2.1 = true
              · have h := iteT h c5
                simp only [go_sem, hx1, hi1, hw1, e_v2c, c5, hR1, hE1, hp2, fun k => Nat.lt_add_right k hp2, Nat.not_le_of_lt hp2, fun k => Nat.not_le_of_lt (Nat.lt_add_right k hp2)]
                exact ih1 v2.2 h
              · have h := iteF h c5
                have c5 := eq_false_of_ne_true c5
                simp only [go_sem, hx1, hi1, hw1, e_v2c, c5, hR1, hE1, hp2, fun k => Nat.lt_add_right k hp2, Nat.not_le_of_lt hp2, fun k => Nat.not_le_of_lt (Nat.lt_add_right k hp2)]
                injection h with h; subst h
                exact Sat.ok hQ
          · have h := iteF h c4
            have c4b : ((a1.Kids.length : Int) != v1) = true := bneT c4
            simp only [go_sem, c1, c2, c3, e_v1a, e_v1b, c4b, hp2, fun k => Nat.lt_add_right k hp2, Nat.not_le_of_lt hp2, fun k => Nat.not_le_of_lt (Nat.lt_add_right k hp2)]
            injection h with h; subst h
            exact Sat.ok hQ

def tree_Valid (n : Nat) (a0 : Alphabet) (a1 : Tree) : Option Bool :=
  (tree_ValidAlphabet a0).bind fun v1 =>
  if v1 = true then
    (tree_formed n a0 a1 300).bind fun v2 =>
    some v2.1
  else
    some false
theorem spec29 (n : Nat) (a0 : Alphabet) (a1 : Tree) (r : Bool) (h : tree_Valid n a0 a1 = some r) :
    call Try.prog T H (.fn 29) [.p (.agg [.sl none 1 (List.map rowI a0.Ranks)]), .p (.agg [iv a1.Sym, .sl none 2 (List.map row_Tree a1.Kids)])] [] = some (.ret (.p (bv r)), []) := by
  refine Sat.fn fun Q hQ => ?_
  unfold tree_Valid at h
  rw [call29]
  conv => arg 1; arg 7; unfold S22.c29 Try.f29; simp only [Option.getD_some]
  obtain ⟨v1, e_v1, h⟩ := ob h
  have e_v1c : call Try.prog T H (.fn 61) [.p (.agg [.sl none 1 (List.map rowI a0.Ranks)])] [] = some (.ret (.p (bv v1)), []) := spec61 a0 v1 e_v1
  by_cases c1 : v1 = true
  · have h := iteT h c1
    obtain ⟨v2, e_v2, h⟩ := ob h
    have e_v2c : call Try.prog T H (.fn 63) [.p (.agg [.sl none 1 (List.map rowI a0.Ranks)]), .p (.agg [iv a1.Sym, .sl none 2 (List.map row_Tree a1.Kids)]), .ptr 2 0] [.cells [.p (.sl none 1 (List.map rowI a0.Ranks))], .cells [.p (iv a1.Sym), .p (.sl none 2 (List.map row_Tree a1.Kids))], .cells [.p (iv 300)]] = some (.ret (.p (bv v2.1)), [.cells [.p (.sl none 1 (List.map rowI a0.Ranks))], .cells [.p (iv a1.Sym), .p (.sl none 2 (List.map row_Tree a1.Kids))], .cells [.p (iv v2.2)]]) := by have q := spec63 n [.cells [.p (.sl none 1 (List.map rowI a0.Ranks))], .cells [.p (iv a1.Sym), .p (.sl none 2 (List.map row_Tree a1.Kids))], .cells [.p (iv 300)]] 2 (by simp only [List.length_append, List.length_set, List.length_cons, List.length_nil]; omega) a0 a1 300 v2 e_v2; first | (simp only [go_sem] at q ⊢; exact q) | exact q
    simp only [go_sem, e_v1c, c1, e_v2c]
    injection h with h; subst h
    exact Sat.ok hQ
  · have h := iteF h c1
    have c1 := eq_false_of_ne_true c1
    simp only [go_sem, e_v1c, c1]
    injection h with h; subst h
    exact Sat.ok hQ

def repair_relabeled (a0 : Rule) (a1 : Tree) (a2 : List (List repair_labeled)) : Option (repair_labeled × Bool) :=
  if (a0.From.length : Int) = (a2.length : Int) then
    if a0.Sym = a1.Sym then
      rangeL a0.From (0, ([] : List Tree)) (fun k1 i1 x1 (s1 : Int × (List Tree)) n1 =>
        (a2[i1]?).bind fun v1 =>
        (idx v1 x1).bind fun v2 =>
        if v2.many < 0 then
          some ((repair_labeled.mk 0 (Tree.mk 0 ([] : List Tree))), false)
        else
          (app 32 s1.2 [v2.tree]).bind fun v3 =>
          n1 (w64 (s1.1 + v2.many), v3)) fun s1 =>
      some ((repair_labeled.mk s1.1 (Tree.mk a0.Sym s1.2)), true)
    else
      rangeL a0.From (1, ([] : List Tree)) (fun k2 i2 x2 (s2 : Int × (List Tree)) n2 =>
        (a2[i2]?).bind fun v4 =>
        (idx v4 x2).bind fun v5 =>
        if v5.many < 0 then
          some ((repair_labeled.mk 0 (Tree.mk 0 ([] : List Tree))), false)
        else
          (app 32 s2.2 [v5.tree]).bind fun v6 =>
          n2 (w64 (s2.1 + v5.many), v6)) fun s2 =>
      some ((repair_labeled.mk s2.1 (Tree.mk a0.Sym s2.2)), true)
  else
    some ((repair_labeled.mk 0 (Tree.mk 0 ([] : List Tree))), false)
theorem spec31 (a0 : Rule) (a1 : Tree) (a2 : List (List repair_labeled)) (r : repair_labeled × Bool) (h : repair_relabeled a0 a1 a2 = some r) :
    call Try.prog T H (.fn 31) [.p (.agg [iv a0.Sym, .sl none 1 (List.map rowI a0.From), iv a0.To]), .p (.agg [iv a1.Sym, .sl none 2 (List.map row_Tree a1.Kids)]), .p (.sl none 1 (List.map (rowL 3 row_repair_labeled) a2))] [] = some (.ret (.p (.tup [.agg [iv r.1.many, iv r.1.tree.Sym, .sl none 2 (List.map row_Tree r.1.tree.Kids)], bv r.2])), []) := by
  refine Sat.fn fun Q hQ => ?_
  unfold repair_relabeled at h
  rw [call31]
  conv => arg 1; arg 7; unfold S22.c31 Try.f31; simp only [Option.getD_some]
  by_cases c1 : (a0.From.length : Int) = (a2.length : Int)
  · have h := iteT h c1
    have c1b : ((a0.From.length : Int) != (a2.length : Int)) = false := bneF c1
    by_cases c2 : a0.Sym = a1.Sym
    · have h := iteT h c2
      have c2b : (a0.Sym != a1.Sym) = false := bneF c2
      simp only [go_sem, c1b, c2b]
      refine run_rangeL (c := L31_0) (live := [2, 6, 8, 30, 31, 32]) (by simp only [go_sem]) (M := fun i1 (s1 : Int × (List Tree)) => [(2, .p (.sl none 1 (List.map (rowL 3 row_repair_labeled) a2))), (6, .ptr 2 0), (8, .ptr 3 0), (30, .p (.sl none 1 (List.map rowI a0.From))), (31, .p (iv (a0.From.length : Int))), (32, .p (iv (i1 : Int)))]) (Z := fun i1 (s1 : Int × (List Tree)) => [.cells [.p (iv a0.Sym), .p (.sl none 1 (List.map rowI a0.From)), .p (iv a0.To)], .cells [.p (iv a1.Sym), .p (.sl none 2 (List.map row_Tree a1.Kids))], .cells [.p (iv 0), .p (iv 0), .p (.sl none 2 [])], .cells [.p (iv s1.1), .p (iv a0.Sym), .own 2 (List.map row_Tree s1.2)]]) (N := fun (s1 : Int × (List Tree)) => ⟨[(6, .ptr 2 0), (8, .ptr 3 0)], [.cells [.p (iv a0.Sym), .p (.sl none 1 (List.map rowI a0.From)), .p (iv a0.To)], .cells [.p (iv a1.Sym), .p (.sl none 2 (List.map row_Tree a1.Kids))], .cells [.p (iv 0), .p (iv 0), .p (.sl none 2 [])], .cells [.p (iv s1.1), .p (iv a0.Sym), .own 2 (List.map row_Tree s1.2)]], [], none, false⟩) h rfl rfl (fun _ _ => rfl) ?_ ?_ ?_
      · intro s1 h
        try dsimp only at h ⊢
        simp only [go_sem]
        injection h with h; subst h
        exact Sat.ok hQ
      · intro K1 s1 hb1 he1
        try dsimp only
        conv => arg 1; arg 7; unfold L31_0 loopAt S22.c31 Try.f31; simp only [loopIn, Option.getD_some, if_true]
        simp only [go_sem, he1]
        exact hb1
      · intro K1 k1 i1 x1 s1 n1 hR1 hE1 hb1 hx1 hi1 hw1 ih1 h
        try dsimp only at h ⊢
        conv => arg 1; arg 7; unfold L31_0 loopAt S22.c31 Try.f31; simp only [loopIn, Option.getD_some, if_true]
        obtain ⟨v1, e_v1, h⟩ := ob h
        obtain ⟨v2, e_v2, h⟩ := ob h
        obtain ⟨e_v2a, e_v2b⟩ := idx_some e_v2
        by_cases c3 : v2.many < 0
        · have h := iteT h c3
          simp only [go_sem, hx1, hi1, hw1, e_v1, e_v2a, e_v2b, c3, hR1, hE1]
          injection h with h; subst h
          exact Sat.ok hQ
        · have h := iteF h c3
          obtain ⟨v3, e_v3, h⟩ := ob h
          have e_v3a : boundOk (s1.2.length + 1) 32 = true := bnd_of (by have := (app_some e_v3).1; simpa using this) (by decide)
          have e_v3b : (List.map row_Tree s1.2) ++ [[iv v2.tree.Sym, .sl none 2 (List.map row_Tree v2.tree.Kids)]] = List.map row_Tree v3 := by rw [(app_some e_v3).2]; simp [row_Tree_eq]
          simp only [go_sem, hx1, hi1, hw1, e_v1, e_v2a, e_v2b, c3, e_v3a, e_v3b, hR1, hE1]
          exact ih1 (w64 (s1.1 + v2.many), v3) h
    · have h := iteF h c2
      have c2b : (a0.Sym != a1.Sym) = true := bneT c2
      simp only [go_sem, c1b, c2b]
      refine run_rangeL (c := L31_0) (live := [2, 6, 8, 30, 31, 32]) (by simp only [go_sem]) (M := fun i2 (s2 : Int × (List Tree)) => [(2, .p (.sl none 1 (List.map (rowL 3 row_repair_labeled) a2))), (6, .ptr 2 0), (8, .ptr 3 0), (30, .p (.sl none 1 (List.map rowI a0.From))), (31, .p (iv (a0.From.length : Int))), (32, .p (iv (i2 : Int)))]) (Z := fun i2 (s2 : Int × (List Tree)) => [.cells [.p (iv a0.Sym), .p (.sl none 1 (List.map rowI a0.From)), .p (iv a0.To)], .cells [.p (iv a1.Sym), .p (.sl none 2 (List.map row_Tree a1.Kids))], .cells [.p (iv 0), .p (iv 0), .p (.sl none 2 [])], .cells [.p (iv s2.1), .p (iv a0.Sym), .own 2 (List.map row_Tree s2.2)]]) (N := fun (s2 : Int × (List Tree)) => ⟨[(6, .ptr 2 0), (8, .ptr 3 0)], [.cells [.p (iv a0.Sym), .p (.sl none 1 (List.map rowI a0.From)), .p (iv a0.To)], .cells [.p (iv a1.Sym), .p (.sl none 2 (List.map row_Tree a1.Kids))], .cells [.p (iv 0), .p (iv 0), .p (.sl none 2 [])], .cells [.p (iv s2.1), .p (iv a0.Sym), .own 2 (List.map row_Tree s2.2)]], [], none, false⟩) h rfl rfl (fun _ _ => rfl) ?_ ?_ ?_
      · intro s2 h
        try dsimp only at h ⊢
        simp only [go_sem]
        injection h with h; subst h
        exact Sat.ok hQ
      · intro K2 s2 hb2 he2
        try dsimp only
        conv => arg 1; arg 7; unfold L31_0 loopAt S22.c31 Try.f31; simp only [loopIn, Option.getD_some, if_true]
        simp only [go_sem, he2]
        exact hb2
      · intro K2 k2 i2 x2 s2 n2 hR2 hE2 hb2 hx2 hi2 hw2 ih2 h
        try dsimp only at h ⊢
        conv => arg 1; arg 7; unfold L31_0 loopAt S22.c31 Try.f31; simp only [loopIn, Option.getD_some, if_true]
        obtain ⟨v4, e_v4, h⟩ := ob h
        obtain ⟨v5, e_v5, h⟩ := ob h
        obtain ⟨e_v5a, e_v5b⟩ := idx_some e_v5
        by_cases c4 : v5.many < 0
        · have h := iteT h c4
          simp only [go_sem, hx2, hi2, hw2, e_v4, e_v5a, e_v5b, c4, hR2, hE2]
          injection h with h; subst h
          exact Sat.ok hQ
        · have h := iteF h c4
          obtain ⟨v6, e_v6, h⟩ := ob h
          have e_v6a : boundOk (s2.2.length + 1) 32 = true := bnd_of (by have := (app_some e_v6).1; simpa using this) (by decide)
          have e_v6b : (List.map row_Tree s2.2) ++ [[iv v5.tree.Sym, .sl none 2 (List.map row_Tree v5.tree.Kids)]] = List.map row_Tree v6 := by rw [(app_some e_v6).2]; simp [row_Tree_eq]
          simp only [go_sem, hx2, hi2, hw2, e_v4, e_v5a, e_v5b, c4, e_v6a, e_v6b, hR2, hE2]
          exact ih2 (w64 (s2.1 + v5.many), v6) h
  · have h := iteF h c1
    have c1b : ((a0.From.length : Int) != (a2.length : Int)) = true := bneT c1
    simp only [go_sem, c1b]
    injection h with h; subst h
    exact Sat.ok hQ

def repair_relabeled_xxq (a0 : Rule) (a1 : Tree) (a2 : List (List repair_labeled)) (l2 : Nat) (o2 : Nat) : Option (repair_labeled × Bool) :=
  if (a0.From.length : Int) = (l2 : Int) then
    if a0.Sym = a1.Sym then
      rangeL a0.From (0, ([] : List Tree)) (fun k1 i1 x1 (s1 : Int × (List Tree)) n1 =>
        (idxS o2 l2 a2 (i1 : Int)).bind fun v1 =>
        (idx v1 x1).bind fun v2 =>
        if v2.many < 0 then
          some ((repair_labeled.mk 0 (Tree.mk 0 ([] : List Tree))), false)
        else
          (app 32 s1.2 [v2.tree]).bind fun v3 =>
          n1 (w64 (s1.1 + v2.many), v3)) fun s1 =>
      some ((repair_labeled.mk s1.1 (Tree.mk a0.Sym s1.2)), true)
    else
      rangeL a0.From (1, ([] : List Tree)) (fun k2 i2 x2 (s2 : Int × (List Tree)) n2 =>
        (idxS o2 l2 a2 (i2 : Int)).bind fun v4 =>
        (idx v4 x2).bind fun v5 =>
        if v5.many < 0 then
          some ((repair_labeled.mk 0 (Tree.mk 0 ([] : List Tree))), false)
        else
          (app 32 s2.2 [v5.tree]).bind fun v6 =>
          n2 (w64 (s2.1 + v5.many), v6)) fun s2 =>
      some ((repair_labeled.mk s2.1 (Tree.mk a0.Sym s2.2)), true)
  else
    some ((repair_labeled.mk 0 (Tree.mk 0 ([] : List Tree))), false)
theorem spec31_xxq (g2 : Nat) (a0 : Rule) (a1 : Tree) (a2 : List (List repair_labeled)) (l2 : Nat) (o2 : Nat) (r : repair_labeled × Bool) (h : repair_relabeled_xxq a0 a1 a2 l2 o2 = some r) :
    call Try.prog T H (.fn 31) [.p (.agg [iv a0.Sym, .sl none 1 (List.map rowI a0.From), iv a0.To]), .p (.agg [iv a1.Sym, .sl none 2 (List.map row_Tree a1.Kids)]), .ms 0 g2 1 o2 l2] [.arr g2 1 (List.map (rowA (rowL 3 row_repair_labeled)) a2)] = some (.ret (.p (.tup [.agg [iv r.1.many, iv r.1.tree.Sym, .sl none 2 (List.map row_Tree r.1.tree.Kids)], bv r.2])), [.arr g2 1 (List.map (rowA (rowL 3 row_repair_labeled)) a2)]) := by
  refine Sat.fn fun Q hQ => ?_
  unfold repair_relabeled_xxq at h
  rw [call31]
  conv => arg 1; arg 7; unfold S22.c31 Try.f31; simp only [Option.getD_some]
  by_cases c1 : (a0.From.length : Int) = (l2 : Int)
  · have h := iteT h c1
    have c1b : ((a0.From.length : Int) != (l2 : Int)) = false := bneF c1
    by_cases c2 : a0.Sym = a1.Sym
    · have h := iteT h c2
      have c2b : (a0.Sym != a1.Sym) = false := bneF c2
      simp only [go_sem, c1b, c2b]
      refine run_rangeL (c := L31_0) (live := [2, 6, 8, 30, 31, 32]) (by simp only [go_sem]) (M := fun i1 (s1 : Int × (List Tree)) => [(2, .ms 0 g2 1 o2 l2), (6, .ptr 3 0), (8, .ptr 4 0), (30, .p (.sl none 1 (List.map rowI a0.From))), (31, .p (iv (a0.From.length : Int))), (32, .p (iv (i1 : Int)))]) (Z := fun i1 (s1 : Int × (List Tree)) => [.arr g2 1 (List.map (rowA (rowL 3 row_repair_labeled)) a2), .cells [.p (iv a0.Sym), .p (.sl none 1 (List.map rowI a0.From)), .p (iv a0.To)], .cells [.p (iv a1.Sym), .p (.sl none 2 (List.map row_Tree a1.Kids))], .cells [.p (iv 0), .p (iv 0), .p (.sl none 2 [])], .cells [.p (iv s1.1), .p (iv a0.Sym), .own 2 (List.map row_Tree s1.2)]]) (N := fun (s1 : Int × (List Tree)) => ⟨[(6, .ptr 3 0), (8, .ptr 4 0)], [.arr g2 1 (List.map (rowA (rowL 3 row_repair_labeled)) a2), .cells [.p (iv a0.Sym), .p (.sl none 1 (List.map rowI a0.From)), .p (iv a0.To)], .cells [.p (iv a1.Sym), .p (.sl none 2 (List.map row_Tree a1.Kids))], .cells [.p (iv 0), .p (iv 0), .p (.sl none 2 [])], .cells [.p (iv s1.1), .p (iv a0.Sym), .own 2 (List.map row_Tree s1.2)]], [], none, false⟩) h rfl rfl (fun _ _ => rfl) ?_ ?_ ?_
      · intro s1 h
        try dsimp only at h ⊢
        simp only [go_sem]
        injection h with h; subst h
        exact Sat.ok hQ
      · intro K1 s1 hb1 he1
        try dsimp only
        conv => arg 1; arg 7; unfold L31_0 loopAt S22.c31 Try.f31; simp only [loopIn, Option.getD_some, if_true]
        simp only [go_sem, he1]
        exact hb1
      · intro K1 k1 i1 x1 s1 n1 hR1 hE1 hb1 hx1 hi1 hw1 ih1 h
        try dsimp only at h ⊢
        conv => arg 1; arg 7; unfold L31_0 loopAt S22.c31 Try.f31; simp only [loopIn, Option.getD_some, if_true]
        obtain ⟨v1, e_v1, h⟩ := ob h
        obtain ⟨e_v1a, e_v1b, e_v1d⟩ := idxS_some e_v1
        simp only [Int.toNat_natCast] at e_v1b
        simp only [Int.toNat_natCast] at e_v1d
        obtain ⟨v2, e_v2, h⟩ := ob h
        obtain ⟨e_v2a, e_v2b⟩ := idx_some e_v2
        by_cases c3 : v2.many < 0
        · have h := iteT h c3
          simp only [go_sem, hx1, hi1, hw1, e_v1b, e_v1d, e_v2a, e_v2b, c3, hR1, hE1]
          injection h with h; subst h
          exact Sat.ok hQ
        · have h := iteF h c3
          obtain ⟨v3, e_v3, h⟩ := ob h
          have e_v3a : boundOk (s1.2.length + 1) 32 = true := bnd_of (by have := (app_some e_v3).1; simpa using this) (by decide)
          have e_v3b : (List.map row_Tree s1.2) ++ [[iv v2.tree.Sym, .sl none 2 (List.map row_Tree v2.tree.Kids)]] = List.map row_Tree v3 := by rw [(app_some e_v3).2]; simp [row_Tree_eq]
          simp only [go_sem, hx1, hi1, hw1, e_v1b, e_v1d, e_v2a, e_v2b, c3, e_v3a, e_v3b, hR1, hE1]
          exact ih1 (w64 (s1.1 + v2.many), v3) h
    · have h := iteF h c2
      have c2b : (a0.Sym != a1.Sym) = true := bneT c2
      simp only [go_sem, c1b, c2b]
      refine run_rangeL (c := L31_0) (live := [2, 6, 8, 30, 31, 32]) (by simp only [go_sem]) (M := fun i2 (s2 : Int × (List Tree)) => [(2, .ms 0 g2 1 o2 l2), (6, .ptr 3 0), (8, .ptr 4 0), (30, .p (.sl none 1 (List.map rowI a0.From))), (31, .p (iv (a0.From.length : Int))), (32, .p (iv (i2 : Int)))]) (Z := fun i2 (s2 : Int × (List Tree)) => [.arr g2 1 (List.map (rowA (rowL 3 row_repair_labeled)) a2), .cells [.p (iv a0.Sym), .p (.sl none 1 (List.map rowI a0.From)), .p (iv a0.To)], .cells [.p (iv a1.Sym), .p (.sl none 2 (List.map row_Tree a1.Kids))], .cells [.p (iv 0), .p (iv 0), .p (.sl none 2 [])], .cells [.p (iv s2.1), .p (iv a0.Sym), .own 2 (List.map row_Tree s2.2)]]) (N := fun (s2 : Int × (List Tree)) => ⟨[(6, .ptr 3 0), (8, .ptr 4 0)], [.arr g2 1 (List.map (rowA (rowL 3 row_repair_labeled)) a2), .cells [.p (iv a0.Sym), .p (.sl none 1 (List.map rowI a0.From)), .p (iv a0.To)], .cells [.p (iv a1.Sym), .p (.sl none 2 (List.map row_Tree a1.Kids))], .cells [.p (iv 0), .p (iv 0), .p (.sl none 2 [])], .cells [.p (iv s2.1), .p (iv a0.Sym), .own 2 (List.map row_Tree s2.2)]], [], none, false⟩) h rfl rfl (fun _ _ => rfl) ?_ ?_ ?_
      · intro s2 h
        try dsimp only at h ⊢
        simp only [go_sem]
        injection h with h; subst h
        exact Sat.ok hQ
      · intro K2 s2 hb2 he2
        try dsimp only
        conv => arg 1; arg 7; unfold L31_0 loopAt S22.c31 Try.f31; simp only [loopIn, Option.getD_some, if_true]
        simp only [go_sem, he2]
        exact hb2
      · intro K2 k2 i2 x2 s2 n2 hR2 hE2 hb2 hx2 hi2 hw2 ih2 h
        try dsimp only at h ⊢
        conv => arg 1; arg 7; unfold L31_0 loopAt S22.c31 Try.f31; simp only [loopIn, Option.getD_some, if_true]
        obtain ⟨v4, e_v4, h⟩ := ob h
        obtain ⟨e_v4a, e_v4b, e_v4d⟩ := idxS_some e_v4
        simp only [Int.toNat_natCast] at e_v4b
        simp only [Int.toNat_natCast] at e_v4d
        obtain ⟨v5, e_v5, h⟩ := ob h
        obtain ⟨e_v5a, e_v5b⟩ := idx_some e_v5
        by_cases c4 : v5.many < 0
        · have h := iteT h c4
          simp only [go_sem, hx2, hi2, hw2, e_v4b, e_v4d, e_v5a, e_v5b, c4, hR2, hE2]
          injection h with h; subst h
          exact Sat.ok hQ
        · have h := iteF h c4
          obtain ⟨v6, e_v6, h⟩ := ob h
          have e_v6a : boundOk (s2.2.length + 1) 32 = true := bnd_of (by have := (app_some e_v6).1; simpa using this) (by decide)
          have e_v6b : (List.map row_Tree s2.2) ++ [[iv v5.tree.Sym, .sl none 2 (List.map row_Tree v5.tree.Kids)]] = List.map row_Tree v6 := by rw [(app_some e_v6).2]; simp [row_Tree_eq]
          simp only [go_sem, hx2, hi2, hw2, e_v4b, e_v4d, e_v5a, e_v5b, c4, e_v6a, e_v6b, hR2, hE2]
          exact ih2 (w64 (s2.1 + v5.many), v6) h
  · have h := iteF h c1
    have c1b : ((a0.From.length : Int) != (l2 : Int)) = true := bneT c1
    simp only [go_sem, c1b]
    injection h with h; subst h
    exact Sat.ok hQ

def cmp_isNaN_int (a0 : Int) : Option Bool :=
  some (a0 != a0)
theorem spec103 (a0 : Int) (r : Bool) (h : cmp_isNaN_int a0 = some r) :
    call Try.prog T H (.fn 103) [.p (iv a0)] [] = some (.ret (.p (bv r)), []) := by
  refine Sat.fn fun Q hQ => ?_
  unfold cmp_isNaN_int at h
  rw [call103]
  conv => arg 1; arg 7; unfold S22.c103 Try.f103; simp only [Option.getD_some]
  simp only [go_sem]
  injection h with h; subst h
  exact Sat.ok hQ

def cmp_Compare_int (a0 : Int) (a1 : Int) : Option Int :=
  (cmp_isNaN_int a0).bind fun v1 =>
  (cmp_isNaN_int a1).bind fun v2 =>
  if v1 = true then
    if v2 = true then
      some 0
    else
      some (-1)
  else
    if v2 = true then
      some 1
    else
      if a0 < a1 then
        some (-1)
      else
        if a1 < a0 then
          some 1
        else
          some 0
theorem spec95 (a0 : Int) (a1 : Int) (r : Int) (h : cmp_Compare_int a0 a1 = some r) :
    call Try.prog T H (.fn 95) [.p (iv a0), .p (iv a1)] [] = some (.ret (.p (iv r)), []) := by
  refine Sat.fn fun Q hQ => ?_
  unfold cmp_Compare_int at h
  rw [call95]
  conv => arg 1; arg 7; unfold S22.c95 Try.f95; simp only [Option.getD_some]
  obtain ⟨v1, e_v1, h⟩ := ob h
  have e_v1c : call Try.prog T H (.fn 103) [.p (iv a0)] [] = some (.ret (.p (bv v1)), []) := spec103 a0 v1 e_v1
  obtain ⟨v2, e_v2, h⟩ := ob h
  have e_v2c : call Try.prog T H (.fn 103) [.p (iv a1)] [] = some (.ret (.p (bv v2)), []) := spec103 a1 v2 e_v2
  by_cases c1 : v1 = true
  · have h := iteT h c1
    by_cases c2 : v2 = true
    · have h := iteT h c2
      simp only [go_sem, e_v1c, e_v2c, c1, c2]
      injection h with h; subst h
      exact Sat.ok hQ
    · have h := iteF h c2
      have c2 := eq_false_of_ne_true c2
      simp only [go_sem, e_v1c, e_v2c, c1, c2]
      injection h with h; subst h
      exact Sat.ok hQ
  · have h := iteF h c1
    have c1 := eq_false_of_ne_true c1
    by_cases c3 : v2 = true
    · have h := iteT h c3
      simp only [go_sem, e_v1c, e_v2c, c1, c3]
      injection h with h; subst h
      exact Sat.ok hQ
    · have h := iteF h c3
      have c3 := eq_false_of_ne_true c3
      by_cases c4 : a0 < a1
      · have h := iteT h c4
        simp only [go_sem, e_v1c, e_v2c, c1, c3, c4]
        injection h with h; subst h
        exact Sat.ok hQ
      · have h := iteF h c4
        by_cases c5 : a1 < a0
        · have h := iteT h c5
          simp only [go_sem, e_v1c, e_v2c, c1, c3, c4, c5]
          injection h with h; subst h
          exact Sat.ok hQ
        · have h := iteF h c5
          simp only [go_sem, e_v1c, e_v2c, c1, c3, c4, c5]
          injection h with h; subst h
          exact Sat.ok hQ

def cmp_Or_int (a0 : List Int) : Option Int :=
  rangeL a0 () (fun k1 i1 x1 (s1 : Unit) n1 =>
    if x1 = 0 then
      n1 ()
    else
      some x1) fun s1 =>
  some 0
theorem spec101 (a0 : List Int) (r : Int) (h : cmp_Or_int a0 = some r) :
    call Try.prog T H (.fn 101) [.p (.sl none 1 (List.map rowI a0))] [] = some (.ret (.p (iv r)), []) := by
  refine Sat.fn fun Q hQ => ?_
  unfold cmp_Or_int at h
  rw [call101]
  conv => arg 1; arg 7; unfold S22.c101 Try.f101; simp only [Option.getD_some]
  simp only [go_sem]
  refine run_rangeL (c := L101_0) (live := [3, 6, 7, 8]) (by simp only [go_sem]) (M := fun i1 (s1 : Unit) => [(3, .p (iv 0)), (6, .p (.sl none 1 (List.map rowI a0))), (7, .p (iv (a0.length : Int))), (8, .p (iv (i1 : Int)))]) (Z := fun i1 (s1 : Unit) => []) (N := fun (s1 : Unit) => ⟨[(3, .p (iv 0))], [], [], none, false⟩) h rfl rfl (fun _ _ => rfl) ?_ ?_ ?_
  · intro s1 h
    try dsimp only at h ⊢
    simp only [go_sem]
    injection h with h; subst h
    exact Sat.ok hQ
  · intro K1 s1 hb1 he1
    try dsimp only
    conv => arg 1; arg 7; unfold L101_0 loopAt S22.c101 Try.f101; simp only [loopIn, Option.getD_some, if_true]
    simp only [go_sem, he1]
    exact hb1
  · intro K1 k1 i1 x1 s1 n1 hR1 hE1 hb1 hx1 hi1 hw1 ih1 h
    try dsimp only at h ⊢
    conv => arg 1; arg 7; unfold L101_0 loopAt S22.c101 Try.f101; simp only [loopIn, Option.getD_some, if_true]
    by_cases c1 : x1 = 0
    · have h := iteT h c1
      have c1b : (x1 != 0) = false := bneF c1
      simp only [go_sem, hx1, hi1, hw1, c1b, hR1, hE1]
      exact ih1 () h
    · have h := iteF h c1
      have c1b : (x1 != 0) = true := bneT c1
      simp only [go_sem, hx1, hi1, hw1, c1b, hR1, hE1]
      injection h with h; subst h
      exact Sat.ok hQ

def tree_compare : Nat → tree_sized → tree_sized → Option Int
  | 0, _, _ => none
  | n + 1, a0, a1 =>
    (cmp_Compare_int a0.size a1.size).bind fun v1 =>
    (cmp_Compare_int a0.sym a1.sym).bind fun v2 =>
    (cmp_Or_int [v1, v2]).bind fun v3 =>
    if v3 = 0 then
      jn (fun (u1 : Int) =>
        some u1) fun j1 =>
      rangeL a0.kids () (fun k1 i1 x1 (s1 : Unit) n1 =>
        if (a1.kids.length : Int) ≤ (i1 : Int) then
          j1 1
        else
          (a1.kids[i1]?).bind fun v4 =>
          (tree_compare n x1 v4).bind fun v5 =>
          if v5 = 0 then
            n1 ()
          else
            j1 v5) fun s1 =>
      if (a0.kids.length : Int) < (a1.kids.length : Int) then
        j1 (-1)
      else
        j1 0
    else
      some v3
theorem spec91 : ∀ (n : Nat), (∀ (a0 : tree_sized) (a1 : tree_sized) (r : Int), tree_compare n a0 a1 = some r →
    call Try.prog T H (.fn 91) [.p (.agg [iv a0.sym, iv a0.size, .sl none 3 (List.map row_tree_sized a0.kids)]), .p (.agg [iv a1.sym, iv a1.size, .sl none 3 (List.map row_tree_sized a1.kids)])] [] = some (.ret (.p (iv r)), [])) := by
  intro n
  induction n with
  | zero => intro a0 a1 r h; cases h
  | succ n ih =>
    intro a0 a1 r h
    refine Sat.fn fun Q hQ => ?_
    rw [tree_compare] at h
    rw [call91]
    conv => arg 1; arg 7; unfold S22.c91 Try.f91; simp only [Option.getD_some]
    obtain ⟨v1, e_v1, h⟩ := ob h
    have e_v1c : call Try.prog T H (.fn 95) [.p (iv a0.size), .p (iv a1.size)] [] = some (.ret (.p (iv v1)), []) := spec95 a0.size a1.size v1 e_v1
    obtain ⟨v2, e_v2, h⟩ := ob h
    have e_v2c : call Try.prog T H (.fn 95) [.p (iv a0.sym), .p (iv a1.sym)] [] = some (.ret (.p (iv v2)), []) := spec95 a0.sym a1.sym v2 e_v2
    obtain ⟨v3, e_v3, h⟩ := ob h
    have e_v3c : call Try.prog T H (.fn 101) [.p (.sl none 1 [[iv v1], [iv v2]])] [] = some (.ret (.p (iv v3)), []) := by have q := spec101 [v1, v2] v3 e_v3; simp only [List.map_cons, List.map_nil, rowI] at q ⊢; exact q
    by_cases c1 : v3 = 0
    · have h := iteT h c1
      have c1b : (v3 != 0) = false := bneF c1
      simp only [go_sem, e_v1c, e_v2c, e_v3c, c1b]
      refine Sat.callj (V := fun (u1 : Int) => .p (iv u1)) (Z := fun (u1 : Int) => [.cells [.p (iv a0.sym), .p (iv a0.size), .p (.sl none 3 (List.map row_tree_sized a0.kids))], .cells [.p (iv a1.sym), .p (iv a1.size), .p (.sl none 3 (List.map row_tree_sized a1.kids))]]) h ?_ ?_
      · intro u1 h
        try dsimp only at h ⊢
        simp only [go_sem]
        injection h with h; subst h
        exact Sat.ok hQ
      · intro j1 h
        rw [call102]
        conv => arg 1; arg 7; unfold S22.c102 Try.f102; simp only [Option.getD_some]
        simp only [go_sem]
        refine run_rangeL (c := L102_0) (live := [0, 1, 2, 11, 12, 13]) (by simp only [go_sem]) (M := fun i1 (s1 : Unit) => [(0, .p (.sl none 3 (List.map row_tree_sized a0.kids))), (1, .p (.sl none 3 (List.map row_tree_sized a1.kids))), (2, .p (.fn 91)), (11, .p (.sl none 3 (List.map row_tree_sized a0.kids))), (12, .p (iv (a0.kids.length : Int))), (13, .p (iv (i1 : Int)))]) (Z := fun i1 (s1 : Unit) => [.cells [.p (iv a0.sym), .p (iv a0.size), .p (.sl none 3 (List.map row_tree_sized a0.kids))], .cells [.p (iv a1.sym), .p (iv a1.size), .p (.sl none 3 (List.map row_tree_sized a1.kids))]]) (N := fun (s1 : Unit) => ⟨[(0, .p (.sl none 3 (List.map row_tree_sized a0.kids))), (1, .p (.sl none 3 (List.map row_tree_sized a1.kids)))], [.cells [.p (iv a0.sym), .p (iv a0.size), .p (.sl none 3 (List.map row_tree_sized a0.kids))], .cells [.p (iv a1.sym), .p (iv a1.size), .p (.sl none 3 (List.map row_tree_sized a1.kids))]], [], none, false⟩) h rfl rfl (fun _ _ => rfl) ?_ ?_ ?_
        · intro s1 h
          try dsimp only at h ⊢
          by_cases c2 : (a0.kids.length : Int) < (a1.kids.length : Int)
          · have h := iteT h c2
            simp only [go_sem, c2]
            exact Sat.ok ⟨(-1), rfl, h⟩
          · have h := iteF h c2
            simp only [go_sem, c2]
            exact Sat.ok ⟨0, rfl, h⟩
        · intro K1 s1 hb1 he1
          try dsimp only
          conv => arg 1; arg 7; unfold L102_0 loopAt S22.c102 Try.f102; simp only [loopIn, Option.getD_some, if_true]
          simp only [go_sem, he1]
          exact hb1
        · intro K1 k1 i1 x1 s1 n1 hR1 hE1 hb1 hx1 hi1 hw1 ih1 h
          try dsimp only at h ⊢
          conv => arg 1; arg 7; unfold L102_0 loopAt S22.c102 Try.f102; simp only [loopIn, Option.getD_some, if_true]
          by_cases c3 : (a1.kids.length : Int) ≤ (i1 : Int)
          · have h := iteT h c3
            simp only [go_sem, hx1, hi1, hw1, c3, hR1, hE1]
            exact Sat.ok ⟨1, rfl, h⟩
          · have h := iteF h c3
            obtain ⟨v4, e_v4, h⟩ := ob h
            obtain ⟨v5, e_v5, h⟩ := ob h
            have e_v5c : call Try.prog T H (.fn 91) [.p (.agg [iv x1.sym, iv x1.size, .sl none 3 (List.map row_tree_sized x1.kids)]), .p (.agg [iv v4.sym, iv v4.size, .sl none 3 (List.map row_tree_sized v4.kids)])] [] = some (.ret (.p (iv v5)), []) := ih x1 v4 v5 e_v5
            by_cases c4 : v5 = 0
            · have h := iteT h c4
              have c4b : (v5 != 0) = false := bneF c4
              simp only [go_sem, hx1, hi1, hw1, c3, e_v4, e_v5c, c4b, hR1, hE1]
              exact ih1 () h
            · have h := iteF h c4
              have c4b : (v5 != 0) = true := bneT c4
              simp only [go_sem, hx1, hi1, hw1, c3, e_v4, e_v5c, c4b, hR1, hE1]
              exact Sat.ok ⟨v5, rfl, h⟩
    · have h := iteF h c1
      have c1b : (v3 != 0) = true := bneT c1
      simp only [go_sem, e_v1c, e_v2c, e_v3c, c1b]
      injection h with h; subst h
      exact Sat.ok hQ

def tree_measure : Nat → Tree → Option tree_sized
  | 0, _ => none
  | n + 1, a0 =>
    rangeL a0.Kids (1, ([] : List tree_sized)) (fun k1 i1 x1 (s1 : Int × (List tree_sized)) n1 =>
      (tree_measure n x1).bind fun v1 =>
      (app 40 s1.2 [v1]).bind fun v2 =>
      n1 (w64 (s1.1 + v1.size), v2)) fun s1 =>
    some (tree_sized.mk a0.Sym s1.1 s1.2)
theorem spec92 : ∀ (n : Nat), (∀ (a0 : Tree) (r : tree_sized), tree_measure n a0 = some r →
    call Try.prog T H (.fn 92) [.p (.agg [iv a0.Sym, .sl none 2 (List.map row_Tree a0.Kids)])] [] = some (.ret (.p (.agg [iv r.sym, iv r.size, .sl none 3 (List.map row_tree_sized r.kids)])), [])) := by
  intro n
  induction n with
  | zero => intro a0 r h; cases h
  | succ n ih =>
    intro a0 r h
    refine Sat.fn fun Q hQ => ?_
    rw [tree_measure] at h
    rw [call92]
    conv => arg 1; arg 7; unfold S22.c92 Try.f92; simp only [Option.getD_some]
    simp only [go_sem]
    refine run_rangeL (c := L92_0) (live := [2, 3, 11, 12, 13]) (by simp only [go_sem]) (M := fun i1 (s1 : Int × (List tree_sized)) => [(2, .ptr 1 0), (3, .ptr 2 0), (11, .p (.sl none 2 (List.map row_Tree a0.Kids))), (12, .p (iv (a0.Kids.length : Int))), (13, .p (iv (i1 : Int)))]) (Z := fun i1 (s1 : Int × (List tree_sized)) => [.cells [.p (iv a0.Sym), .p (.sl none 2 (List.map row_Tree a0.Kids))], .cells [.p (iv 0), .p (iv 0), .own 3 []], .cells [.p (iv a0.Sym), .p (iv s1.1), .own 3 (List.map row_tree_sized s1.2)]]) (N := fun (s1 : Int × (List tree_sized)) => ⟨[(2, .ptr 1 0), (3, .ptr 2 0)], [.cells [.p (iv a0.Sym), .p (.sl none 2 (List.map row_Tree a0.Kids))], .cells [.p (iv 0), .p (iv 0), .own 3 []], .cells [.p (iv a0.Sym), .p (iv s1.1), .own 3 (List.map row_tree_sized s1.2)]], [], none, false⟩) h rfl rfl (fun _ _ => rfl) ?_ ?_ ?_
    · intro s1 h
      try dsimp only at h ⊢
      simp only [go_sem]
      injection h with h; subst h
      exact Sat.ok hQ
    · intro K1 s1 hb1 he1
      try dsimp only
      conv => arg 1; arg 7; unfold L92_0 loopAt S22.c92 Try.f92; simp only [loopIn, Option.getD_some, if_true]
      simp only [go_sem, he1]
      exact hb1
    · intro K1 k1 i1 x1 s1 n1 hR1 hE1 hb1 hx1 hi1 hw1 ih1 h
      try dsimp only at h ⊢
      conv => arg 1; arg 7; unfold L92_0 loopAt S22.c92 Try.f92; simp only [loopIn, Option.getD_some, if_true]
      obtain ⟨v1, e_v1, h⟩ := ob h
      have e_v1c : call Try.prog T H (.fn 92) [.p (.agg [iv x1.Sym, .sl none 2 (List.map row_Tree x1.Kids)])] [] = some (.ret (.p (.agg [iv v1.sym, iv v1.size, .sl none 3 (List.map row_tree_sized v1.kids)])), []) := ih x1 v1 e_v1
      obtain ⟨v2, e_v2, h⟩ := ob h
      have e_v2a : boundOk (s1.2.length + 1) 40 = true := bnd_of (by have := (app_some e_v2).1; simpa using this) (by decide)
      have e_v2b : (List.map row_tree_sized s1.2) ++ [[iv v1.sym, iv v1.size, .sl none 3 (List.map row_tree_sized v1.kids)]] = List.map row_tree_sized v2 := by rw [(app_some e_v2).2]; simp [row_tree_sized_eq]
      simp only [go_sem, hx1, hi1, hw1, e_v1c, e_v2a, e_v2b, hR1, hE1]
      exact ih1 (w64 (s1.1 + v1.size), v2) h

def tree_Compare (n : Nat) (a0 : Tree) (a1 : Tree) : Option Int :=
  (tree_measure n a0).bind fun v1 =>
  (tree_measure n a1).bind fun v2 =>
  (tree_compare n v1 v2).bind fun v3 =>
  some v3
theorem spec66 (n : Nat) (a0 : Tree) (a1 : Tree) (r : Int) (h : tree_Compare n a0 a1 = some r) :
    call Try.prog T H (.fn 66) [.p (.agg [iv a0.Sym, .sl none 2 (List.map row_Tree a0.Kids)]), .p (.agg [iv a1.Sym, .sl none 2 (List.map row_Tree a1.Kids)])] [] = some (.ret (.p (iv r)), []) := by
  refine Sat.fn fun Q hQ => ?_
  unfold tree_Compare at h
  rw [call66]
  conv => arg 1; arg 7; unfold S22.c66 Try.f66; simp only [Option.getD_some]
  obtain ⟨v1, e_v1, h⟩ := ob h
  have e_v1c : call Try.prog T H (.fn 92) [.p (.agg [iv a0.Sym, .sl none 2 (List.map row_Tree a0.Kids)])] [] = some (.ret (.p (.agg [iv v1.sym, iv v1.size, .sl none 3 (List.map row_tree_sized v1.kids)])), []) := spec92 n a0 v1 e_v1
  obtain ⟨v2, e_v2, h⟩ := ob h
  have e_v2c : call Try.prog T H (.fn 92) [.p (.agg [iv a1.Sym, .sl none 2 (List.map row_Tree a1.Kids)])] [] = some (.ret (.p (.agg [iv v2.sym, iv v2.size, .sl none 3 (List.map row_tree_sized v2.kids)])), []) := spec92 n a1 v2 e_v2
  obtain ⟨v3, e_v3, h⟩ := ob h
  have e_v3c : call Try.prog T H (.fn 91) [.p (.agg [iv v1.sym, iv v1.size, .sl none 3 (List.map row_tree_sized v1.kids)]), .p (.agg [iv v2.sym, iv v2.size, .sl none 3 (List.map row_tree_sized v2.kids)])] [] = some (.ret (.p (iv v3)), []) := spec91 n v1 v2 v3 e_v3
  simp only [go_sem, e_v1c, e_v2c, e_v3c]
  injection h with h; subst h
  exact Sat.ok hQ

def repair_before (n : Nat) (a0 : repair_labeled) (a1 : repair_labeled) : Option Bool :=
  if a1.many < 0 then
    some true
  else
    if a0.many < a1.many then
      some true
    else
      if a0.many = a1.many then
        (tree_Compare n a0.tree a1.tree).bind fun v1 =>
        some (decide (v1 < 0))
      else
        some false
theorem spec32 (n : Nat) (a0 : repair_labeled) (a1 : repair_labeled) (r : Bool) (h : repair_before n a0 a1 = some r) :
    call Try.prog T H (.fn 32) [.p (.agg [iv a0.many, iv a0.tree.Sym, .sl none 2 (List.map row_Tree a0.tree.Kids)]), .p (.agg [iv a1.many, iv a1.tree.Sym, .sl none 2 (List.map row_Tree a1.tree.Kids)])] [] = some (.ret (.p (bv r)), []) := by
  refine Sat.fn fun Q hQ => ?_
  unfold repair_before at h
  rw [call32]
  conv => arg 1; arg 7; unfold S22.c32 Try.f32; simp only [Option.getD_some]
  by_cases c1 : a1.many < 0
  · have h := iteT h c1
    simp only [go_sem, c1]
    injection h with h; subst h
    exact Sat.ok hQ
  · have h := iteF h c1
    by_cases c2 : a0.many < a1.many
    · have h := iteT h c2
      simp only [go_sem, c1, c2]
      injection h with h; subst h
      exact Sat.ok hQ
    · have h := iteF h c2
      by_cases c3 : a0.many = a1.many
      · have h := iteT h c3
        have c3b : (a0.many == a1.many) = true := beqT c3
        obtain ⟨v1, e_v1, h⟩ := ob h
        have e_v1c : call Try.prog T H (.fn 66) [.p (.agg [iv a0.tree.Sym, .sl none 2 (List.map row_Tree a0.tree.Kids)]), .p (.agg [iv a1.tree.Sym, .sl none 2 (List.map row_Tree a1.tree.Kids)])] [] = some (.ret (.p (iv v1)), []) := spec66 n a0.tree a1.tree v1 e_v1
        simp only [go_sem, c1, c2, c3b, e_v1c]
        injection h with h; subst h
        exact Sat.ok hQ
      · have h := iteF h c3
        have c3b : (a0.many == a1.many) = false := beqF c3
        simp only [go_sem, c1, c2, c3b]
        injection h with h; subst h
        exact Sat.ok hQ

def repair_copied : Nat → Tree → Option Tree
  | 0, _ => none
  | n + 1, a0 =>
    rangeL a0.Kids ([] : List Tree) (fun k1 i1 x1 (s1 : (List Tree)) n1 =>
      (repair_copied n x1).bind fun v1 =>
      (app 32 s1 [v1]).bind fun v2 =>
      n1 v2) fun s1 =>
    some (Tree.mk a0.Sym s1)
theorem spec33 : ∀ (n : Nat), (∀ (a0 : Tree) (r : Tree), repair_copied n a0 = some r →
    call Try.prog T H (.fn 33) [.p (.agg [iv a0.Sym, .sl none 2 (List.map row_Tree a0.Kids)])] [] = some (.ret (.p (.agg [iv r.Sym, .sl none 2 (List.map row_Tree r.Kids)])), [])) := by
  intro n
  induction n with
  | zero => intro a0 r h; cases h
  | succ n ih =>
    intro a0 r h
    refine Sat.fn fun Q hQ => ?_
    rw [repair_copied] at h
    rw [call33]
    conv => arg 1; arg 7; unfold S22.c33 Try.f33; simp only [Option.getD_some]
    simp only [go_sem]
    refine run_rangeL (c := L33_0) (live := [2, 3, 10, 11, 12]) (by simp only [go_sem]) (M := fun i1 (s1 : (List Tree)) => [(2, .ptr 1 0), (3, .ptr 2 0), (10, .p (.sl none 2 (List.map row_Tree a0.Kids))), (11, .p (iv (a0.Kids.length : Int))), (12, .p (iv (i1 : Int)))]) (Z := fun i1 (s1 : (List Tree)) => [.cells [.p (iv a0.Sym), .p (.sl none 2 (List.map row_Tree a0.Kids))], .cells [.p (iv 0), .own 2 []], .cells [.p (iv a0.Sym), .own 2 (List.map row_Tree s1)]]) (N := fun (s1 : (List Tree)) => ⟨[(2, .ptr 1 0), (3, .ptr 2 0)], [.cells [.p (iv a0.Sym), .p (.sl none 2 (List.map row_Tree a0.Kids))], .cells [.p (iv 0), .own 2 []], .cells [.p (iv a0.Sym), .own 2 (List.map row_Tree s1)]], [], none, false⟩) h rfl rfl (fun _ _ => rfl) ?_ ?_ ?_
    · intro s1 h
      try dsimp only at h ⊢
      simp only [go_sem]
      injection h with h; subst h
      exact Sat.ok hQ
    · intro K1 s1 hb1 he1
      try dsimp only
      conv => arg 1; arg 7; unfold L33_0 loopAt S22.c33 Try.f33; simp only [loopIn, Option.getD_some, if_true]
      simp only [go_sem, he1]
      exact hb1
    · intro K1 k1 i1 x1 s1 n1 hR1 hE1 hb1 hx1 hi1 hw1 ih1 h
      try dsimp only at h ⊢
      conv => arg 1; arg 7; unfold L33_0 loopAt S22.c33 Try.f33; simp only [loopIn, Option.getD_some, if_true]
      obtain ⟨v1, e_v1, h⟩ := ob h
      have e_v1c : call Try.prog T H (.fn 33) [.p (.agg [iv x1.Sym, .sl none 2 (List.map row_Tree x1.Kids)])] [] = some (.ret (.p (.agg [iv v1.Sym, .sl none 2 (List.map row_Tree v1.Kids)])), []) := ih x1 v1 e_v1
      obtain ⟨v2, e_v2, h⟩ := ob h
      have e_v2a : boundOk (s1.length + 1) 32 = true := bnd_of (by have := (app_some e_v2).1; simpa using this) (by decide)
      have e_v2b : (List.map row_Tree s1) ++ [[iv v1.Sym, .sl none 2 (List.map row_Tree v1.Kids)]] = List.map row_Tree v2 := by rw [(app_some e_v2).2]; simp [row_Tree_eq]
      simp only [go_sem, hx1, hi1, hw1, e_v1c, e_v2a, e_v2b, hR1, hE1]
      exact ih1 v2 h

def ref01_Same : Nat → Tree → Tree → Option Bool
  | 0, _, _ => none
  | n + 1, a0, a1 =>
    if a0.Sym = a1.Sym then
      if (a0.Kids.length : Int) = (a1.Kids.length : Int) then
        rangeL a0.Kids () (fun k1 i1 x1 (s1 : Unit) n1 =>
          (a1.Kids[i1]?).bind fun v1 =>
          (ref01_Same n x1 v1).bind fun v2 =>
          if v2 = true then
            n1 ()
          else
            some false) fun s1 =>
        some true
      else
        some false
    else
      some false
theorem spec12 : ∀ (n : Nat), (∀ (a0 : Tree) (a1 : Tree) (r : Bool), ref01_Same n a0 a1 = some r →
    call Try.prog T H (.fn 12) [.p (.agg [iv a0.Sym, .sl none 2 (List.map row_Tree a0.Kids)]), .p (.agg [iv a1.Sym, .sl none 2 (List.map row_Tree a1.Kids)])] [] = some (.ret (.p (bv r)), [])) := by
  intro n
  induction n with
  | zero => intro a0 a1 r h; cases h
  | succ n ih =>
    intro a0 a1 r h
    refine Sat.fn fun Q hQ => ?_
    rw [ref01_Same] at h
    rw [call12]
    conv => arg 1; arg 7; unfold S22.c12 Try.f12; simp only [Option.getD_some]
    by_cases c1 : a0.Sym = a1.Sym
    · have h := iteT h c1
      have c1b : (a0.Sym != a1.Sym) = false := bneF c1
      by_cases c2 : (a0.Kids.length : Int) = (a1.Kids.length : Int)
      · have h := iteT h c2
        have c2b : ((a0.Kids.length : Int) != (a1.Kids.length : Int)) = false := bneF c2
        simp only [go_sem, c1b, c2b]
        refine run_rangeL (c := L12_0) (live := [2, 3, 22, 23]) (by simp only [go_sem]) (M := fun i1 (s1 : Unit) => [(2, .ptr 0 0), (3, .ptr 1 0), (22, .p (iv (a0.Kids.length : Int))), (23, .p (iv (i1 : Int)))]) (Z := fun i1 (s1 : Unit) => [.cells [.p (iv a0.Sym), .p (.sl none 2 (List.map row_Tree a0.Kids))], .cells [.p (iv a1.Sym), .p (.sl none 2 (List.map row_Tree a1.Kids))]]) (N := fun (s1 : Unit) => ⟨[], [.cells [.p (iv a0.Sym), .p (.sl none 2 (List.map row_Tree a0.Kids))], .cells [.p (iv a1.Sym), .p (.sl none 2 (List.map row_Tree a1.Kids))]], [], none, false⟩) h rfl rfl (fun _ _ => rfl) ?_ ?_ ?_
        · intro s1 h
          try dsimp only at h ⊢
          simp only [go_sem]
          injection h with h; subst h
          exact Sat.ok hQ
        · intro K1 s1 hb1 he1
          try dsimp only
          conv => arg 1; arg 7; unfold L12_0 loopAt S22.c12 Try.f12; simp only [loopIn, Option.getD_some, if_true]
          simp only [go_sem, he1]
          exact hb1
        · intro K1 k1 i1 x1 s1 n1 hR1 hE1 hb1 hx1 hi1 hw1 ih1 h
          try dsimp only at h ⊢
          conv => arg 1; arg 7; unfold L12_0 loopAt S22.c12 Try.f12; simp only [loopIn, Option.getD_some, if_true]
          obtain ⟨v1, e_v1, h⟩ := ob h
          obtain ⟨v2, e_v2, h⟩ := ob h
          have e_v2c : call Try.prog T H (.fn 12) [.p (.agg [iv x1.Sym, .sl none 2 (List.map row_Tree x1.Kids)]), .p (.agg [iv v1.Sym, .sl none 2 (List.map row_Tree v1.Kids)])] [] = some (.ret (.p (bv v2)), []) := ih x1 v1 v2 e_v2
          by_cases c3 : v2 = true
          · have h := iteT h c3
            simp only [go_sem, hx1, hi1, hw1, e_v1, e_v2c, c3, hR1, hE1]
            exact ih1 () h
          · have h := iteF h c3
            have c3 := eq_false_of_ne_true c3
            simp only [go_sem, hx1, hi1, hw1, e_v1, e_v2c, c3, hR1, hE1]
            injection h with h; subst h
            exact Sat.ok hQ
      · have h := iteF h c2
        have c2b : ((a0.Kids.length : Int) != (a1.Kids.length : Int)) = true := bneT c2
        simp only [go_sem, c1b, c2b]
        injection h with h; subst h
        exact Sat.ok hQ
    · have h := iteF h c1
      have c1b : (a0.Sym != a1.Sym) = true := bneT c1
      simp only [go_sem, c1b]
      injection h with h; subst h
      exact Sat.ok hQ

def empty_plus (a0 : Int) (a1 : Int) : Option Int :=
  if 4611686018427387904 ≤ a0 then
    some 4611686018427387904
  else
    if 4611686018427387904 ≤ a1 then
      some 4611686018427387904
    else
      some (minI (w64 (a0 + a1)) 4611686018427387904)
theorem spec94 (a0 : Int) (a1 : Int) (r : Int) (h : empty_plus a0 a1 = some r) :
    call Try.prog T H (.fn 94) [.p (iv a0), .p (iv a1)] [] = some (.ret (.p (iv r)), []) := by
  refine Sat.fn fun Q hQ => ?_
  unfold empty_plus at h
  rw [call94]
  conv => arg 1; arg 7; unfold S22.c94 Try.f94; simp only [Option.getD_some]
  by_cases c1 : 4611686018427387904 ≤ a0
  · have h := iteT h c1
    simp only [go_sem, c1]
    injection h with h; subst h
    exact Sat.ok hQ
  · have h := iteF h c1
    by_cases c2 : 4611686018427387904 ≤ a1
    · have h := iteT h c2
      simp only [go_sem, c1, c2]
      injection h with h; subst h
      exact Sat.ok hQ
    · have h := iteF h c2
      simp only [go_sem, c1, c2]
      injection h with h; subst h
      exact Sat.ok hQ

def empty_sizes (a0 : Automaton) : Option (List Int) :=
  (mkz 8 a0.States a0.States 0).bind fun v1 =>
  rangeI a0.States v1 (fun k9 i9 (s9 : (List Int)) n9 =>
    rangeL a0.Rules (false, s9) (fun k12 i12 x12 (s12 : Bool × (List Int)) n12 =>
      rangeL x12.From 1 (fun k13 i13 x13 (s13 : Int) n13 =>
        (idxM ((a0.States).toNat) s12.2 x13).bind fun v4 =>
        if v4 = 0 then
          n12 (s12.1, s12.2)
        else
          (empty_plus s13 v4).bind fun v5 =>
          n13 v5) fun s13 =>
      (idxM ((a0.States).toNat) s12.2 x12.To).bind fun v3 =>
      if v3 = 0 then
        n12 (true, (List.set s12.2 ((x12.To).toNat) s13))
      else
        if s13 < v3 then
          n12 (true, (List.set s12.2 ((x12.To).toNat) s13))
        else
          n12 (s12.1, s12.2)) fun s12 =>
    if s12.1 = true then
      n9 s12.2
    else
      k9 s12.2) fun s9 =>
  (tkM ((a0.States).toNat) s9).bind fun v2 =>
  some v2
theorem spec69 (a0 : Automaton) (r : List Int) (h : empty_sizes a0 = some r) :
    call Try.prog T H (.fn 69) [.p (.agg [iv a0.States, .sl none 1 (List.map rowI a0.Final), .sl none 3 (List.map row_Rule a0.Rules)])] [] = some (.ret (.p (.sl none 1 (List.map rowI r))), []) := by
  refine Sat.fn fun Q hQ => ?_
  unfold empty_sizes at h
  rw [call69]
  conv => arg 1; arg 7; unfold S22.c69 Try.f69; simp only [Option.getD_some]
  obtain ⟨v1, e_v1, h⟩ := ob h
  obtain ⟨e_v11, e_v12, e_v13, e_v14⟩ := mkz_some e_v1
  have e_v1b : boundOk (a0.States).toNat 8 = true := bnd_of e_v13 (by decide)
  have e_v1r : List.replicate (a0.States).toNat [AV.p (iv 0)] = List.map (rowA rowI) v1 := by rw [e_v14]; exact rep_map (by first | rfl | simp only [go_sem, List.map_nil])
  simp only [go_sem, e_v11, e_v12, e_v1b, e_v1r]
  refine run_rangeI (c := L69_0) (live := [1, 3, 14, 15]) (by simp only [go_sem]) (M := fun i9 (s9 : (List Int)) => [(1, .ptr 0 0), (3, .ms 1 0 1 0 ((a0.States).toNat)), (14, .p (iv a0.States)), (15, .p (iv (i9 : Int)))]) (Z := fun i9 (s9 : (List Int)) => [.cells [.p (iv a0.States), .p (.sl none 1 (List.map rowI a0.Final)), .p (.sl none 3 (List.map row_Rule a0.Rules))], .arr 0 1 (List.map (rowA rowI) s9)]) (N := fun (s9 : (List Int)) => ⟨[(3, .ms 1 0 1 0 ((a0.States).toNat))], [.cells [.p (iv a0.States), .p (.sl none 1 (List.map rowI a0.Final)), .p (.sl none 3 (List.map row_Rule a0.Rules))], .arr 0 1 (List.map (rowA rowI) s9)], [], none, false⟩) h rfl rfl (fun _ _ => rfl) ?_ ?_ ?_
  · intro s9 h
    try dsimp only at h ⊢
    obtain ⟨v2, e_v2, h⟩ := ob h
    have e_v2a := (tkM_some e_v2).1
    have e_v2b := (tkM_some e_v2).2
    simp only [go_sem, e_v2a, e_v2b]
    injection h with h; subst h
    exact Sat.ok hQ
  · intro K9 i9 s9 hb9 he9
    try dsimp only
    conv => arg 1; arg 7; unfold L69_0 loopAt S22.c69 Try.f69; simp only [loopIn, Option.getD_some, if_true]
    simp only [go_sem, he9]
    exact hb9
  · intro K9 k9 i9 s9 n9 hR9 hE9 hb9 hi9 hw9 ih9 h
    try dsimp only at h ⊢
    conv => arg 1; arg 7; unfold L69_0 loopAt S22.c69 Try.f69; simp only [loopIn, Option.getD_some, if_true]
    simp only [go_sem, hi9, hw9, hR9, hE9]
    refine run_rangeL (c := L69_2) (live := [1, 3, 4, 14, 15, 18, 19, 20]) (by simp only [go_sem]) (M := fun i12 (s12 : Bool × (List Int)) => [(1, .ptr 0 0), (3, .ms 1 0 1 0 ((a0.States).toNat)), (4, .p (bv s12.1)), (14, .p (iv a0.States)), (15, .p (iv (i9 : Int))), (18, .p (.sl none 3 (List.map row_Rule a0.Rules))), (19, .p (iv (a0.Rules.length : Int))), (20, .p (iv (i12 : Int)))]) (Z := fun i12 (s12 : Bool × (List Int)) => [.cells [.p (iv a0.States), .p (.sl none 1 (List.map rowI a0.Final)), .p (.sl none 3 (List.map row_Rule a0.Rules))], .arr 0 1 (List.map (rowA rowI) s12.2)]) (N := fun (s12 : Bool × (List Int)) => ⟨[(1, .ptr 0 0), (3, .ms 1 0 1 0 ((a0.States).toNat)), (4, .p (bv s12.1)), (14, .p (iv a0.States)), (15, .p (iv (i9 : Int)))], [.cells [.p (iv a0.States), .p (.sl none 1 (List.map rowI a0.Final)), .p (.sl none 3 (List.map row_Rule a0.Rules))], .arr 0 1 (List.map (rowA rowI) s12.2)], [], none, false⟩) h rfl rfl (fun _ _ => rfl) ?_ ?_ ?_
    · intro s12 h
      try dsimp only at h ⊢
      by_cases c1 : s12.1 = true
      · have h := iteT h c1
        simp only [go_sem, c1, hw9, hR9, hE9]
        exact ih9 s12.2 h
      · have h := iteF h c1
        have c1 := eq_false_of_ne_true c1
        simp only [go_sem, c1, hw9, hR9, hE9]
        exact hb9 s12.2 h
    · intro K12 s12 hb12 he12
      try dsimp only
      conv => arg 1; arg 7; unfold L69_2 loopAt S22.c69 Try.f69; simp only [loopIn, Option.getD_some, if_true]
      simp only [go_sem, he12]
      exact hb12
    · intro K12 k12 i12 x12 s12 n12 hR12 hE12 hb12 hx12 hi12 hw12 ih12 h
      try dsimp only at h ⊢
      conv => arg 1; arg 7; unfold L69_2 loopAt S22.c69 Try.f69; simp only [loopIn, Option.getD_some, if_true]
      simp only [go_sem, hx12, hi12, hw12, hw9, hR9, hE9, hR12, hE12]
      refine run_rangeL (c := L69_4) (live := [1, 3, 4, 6, 7, 14, 15, 18, 19, 20, 25, 26, 27]) (by simp only [go_sem]) (M := fun i13 (s13 : Int) => [(1, .ptr 0 0), (3, .ms 1 0 1 0 ((a0.States).toNat)), (4, .p (bv s12.1)), (6, .ptr 2 0), (7, .p (iv s13)), (14, .p (iv a0.States)), (15, .p (iv (i9 : Int))), (18, .p (.sl none 3 (List.map row_Rule a0.Rules))), (19, .p (iv (a0.Rules.length : Int))), (20, .p (iv (i12 : Int))), (25, .p (.sl none 1 (List.map rowI x12.From))), (26, .p (iv (x12.From.length : Int))), (27, .p (iv (i13 : Int)))]) (Z := fun i13 (s13 : Int) => [.cells [.p (iv a0.States), .p (.sl none 1 (List.map rowI a0.Final)), .p (.sl none 3 (List.map row_Rule a0.Rules))], .arr 0 1 (List.map (rowA rowI) s12.2), .cells [.p (iv x12.Sym), .p (.sl none 1 (List.map rowI x12.From)), .p (iv x12.To)]]) (N := fun (s13 : Int) => ⟨[(1, .ptr 0 0), (3, .ms 1 0 1 0 ((a0.States).toNat)), (4, .p (bv s12.1)), (6, .ptr 2 0), (7, .p (iv s13)), (14, .p (iv a0.States)), (15, .p (iv (i9 : Int))), (18, .p (.sl none 3 (List.map row_Rule a0.Rules))), (19, .p (iv (a0.Rules.length : Int))), (20, .p (iv (i12 : Int)))], [.cells [.p (iv a0.States), .p (.sl none 1 (List.map rowI a0.Final)), .p (.sl none 3 (List.map row_Rule a0.Rules))], .arr 0 1 (List.map (rowA rowI) s12.2), .cells [.p (iv x12.Sym), .p (.sl none 1 (List.map rowI x12.From)), .p (iv x12.To)]], [], none, false⟩) h rfl rfl (fun _ _ => rfl) ?_ ?_ ?_
      · intro s13 h
        try dsimp only at h ⊢
        obtain ⟨v3, e_v3, h⟩ := ob h
        obtain ⟨e_v3a, e_v3b, e_v3d⟩ := idxM_some e_v3
        by_cases c2 : v3 = 0
        · have h := iteT h c2
          have c2b : (v3 == 0) = true := beqT c2
          have e_y1 : List.set (List.map (rowA rowI) s12.2) ((x12.To).toNat) [.p (iv s13)] = List.map (rowA rowI) (List.set s12.2 ((x12.To).toNat) s13) := map_set' (by first | rfl | simp only [go_sem, List.map_cons, List.map_nil])
          simp only [go_sem, e_v3a, e_v3b, e_v3d, c2b, e_y1, hw9, hR9, hE9, hw12, hR12, hE12]
          exact ih12 (true, (List.set s12.2 ((x12.To).toNat) s13)) h
        · have h := iteF h c2
          have c2b : (v3 == 0) = false := beqF c2
          by_cases c3 : s13 < v3
          · have h := iteT h c3
            have e_y2 : List.set (List.map (rowA rowI) s12.2) ((x12.To).toNat) [.p (iv s13)] = List.map (rowA rowI) (List.set s12.2 ((x12.To).toNat) s13) := map_set' (by first | rfl | simp only [go_sem, List.map_cons, List.map_nil])
            simp only [go_sem, e_v3a, e_v3b, e_v3d, c2b, c3, e_y2, hw9, hR9, hE9, hw12, hR12, hE12]
            exact ih12 (true, (List.set s12.2 ((x12.To).toNat) s13)) h
          · have h := iteF h c3
            simp only [go_sem, e_v3a, e_v3b, e_v3d, c2b, c3, hw9, hR9, hE9, hw12, hR12, hE12]
            exact ih12 (s12.1, s12.2) h
      · intro K13 s13 hb13 he13
        try dsimp only
        conv => arg 1; arg 7; unfold L69_4 loopAt S22.c69 Try.f69; simp only [loopIn, Option.getD_some, if_true]
        simp only [go_sem, he13]
        exact hb13
      · intro K13 k13 i13 x13 s13 n13 hR13 hE13 hb13 hx13 hi13 hw13 ih13 h
        try dsimp only at h ⊢
        conv => arg 1; arg 7; unfold L69_4 loopAt S22.c69 Try.f69; simp only [loopIn, Option.getD_some, if_true]
        obtain ⟨v4, e_v4, h⟩ := ob h
        obtain ⟨e_v4a, e_v4b, e_v4d⟩ := idxM_some e_v4
        by_cases c4 : v4 = 0
        · have h := iteT h c4
          have c4b : (v4 == 0) = true := beqT c4
          simp only [go_sem, hx13, hi13, hw13, e_v4a, e_v4b, e_v4d, c4b, hw9, hR9, hE9, hw12, hR12, hE12, hR13, hE13]
          exact ih12 (s12.1, s12.2) h
        · have h := iteF h c4
          have c4b : (v4 == 0) = false := beqF c4
          obtain ⟨v5, e_v5, h⟩ := ob h
          have e_v5c : call Try.prog T H (.fn 94) [.p (iv s13), .p (iv v4)] [] = some (.ret (.p (iv v5)), []) := spec94 s13 v4 v5 e_v5
          simp only [go_sem, hx13, hi13, hw13, e_v4a, e_v4b, e_v4d, c4b, e_v5c, hw9, hR9, hE9, hw12, hR12, hE12, hR13, hE13]
          exact ih13 v5 h

def empty_Sizes (a0 : Alphabet) (a1 : Automaton) : Option ((List Int) × Int) :=
  (auto_Valid a0 a1).bind fun v1 =>
  if v1 = true then
    (empty_sizes a1).bind fun v2 =>
    some (v2, 0)
  else
    some (([] : List Int), 1)
theorem spec37 (a0 : Alphabet) (a1 : Automaton) (r : (List Int) × Int) (h : empty_Sizes a0 a1 = some r) :
    call Try.prog T H (.fn 37) [.p (.agg [.sl none 1 (List.map rowI a0.Ranks)]), .p (.agg [iv a1.States, .sl none 1 (List.map rowI a1.Final), .sl none 3 (List.map row_Rule a1.Rules)])] [] = some (.ret (.p (.tup [.sl none 1 (List.map rowI r.1), iv r.2])), []) := by
  refine Sat.fn fun Q hQ => ?_
  unfold empty_Sizes at h
  rw [call37]
  conv => arg 1; arg 7; unfold S22.c37 Try.f37; simp only [Option.getD_some]
  obtain ⟨v1, e_v1, h⟩ := ob h
  have e_v1c : call Try.prog T H (.fn 28) [.p (.agg [.sl none 1 (List.map rowI a0.Ranks)]), .p (.agg [iv a1.States, .sl none 1 (List.map rowI a1.Final), .sl none 3 (List.map row_Rule a1.Rules)])] [] = some (.ret (.p (bv v1)), []) := spec28 a0 a1 v1 e_v1
  by_cases c1 : v1 = true
  · have h := iteT h c1
    obtain ⟨v2, e_v2, h⟩ := ob h
    have e_v2c : call Try.prog T H (.fn 69) [.p (.agg [iv a1.States, .sl none 1 (List.map rowI a1.Final), .sl none 3 (List.map row_Rule a1.Rules)])] [] = some (.ret (.p (.sl none 1 (List.map rowI v2))), []) := spec69 a1 v2 e_v2
    simp only [go_sem, e_v1c, c1, e_v2c]
    injection h with h; subst h
    exact Sat.ok hQ
  · have h := iteF h c1
    have c1 := eq_false_of_ne_true c1
    simp only [go_sem, e_v1c, c1]
    injection h with h; subst h
    exact Sat.ok hQ

def tree_Size : Nat → Tree → Option Int
  | 0, _ => none
  | n + 1, a0 =>
    rangeL a0.Kids 1 (fun k1 i1 x1 (s1 : Int) n1 =>
      (tree_Size n x1).bind fun v1 =>
      n1 (w64 (s1 + v1))) fun s1 =>
    some s1
theorem spec38 : ∀ (n : Nat), (∀ (a0 : Tree) (r : Int), tree_Size n a0 = some r →
    call Try.prog T H (.fn 38) [.p (.agg [iv a0.Sym, .sl none 2 (List.map row_Tree a0.Kids)])] [] = some (.ret (.p (iv r)), [])) := by
  intro n
  induction n with
  | zero => intro a0 r h; cases h
  | succ n ih =>
    intro a0 r h
    refine Sat.fn fun Q hQ => ?_
    rw [tree_Size] at h
    rw [call38]
    conv => arg 1; arg 7; unfold S22.c38 Try.f38; simp only [Option.getD_some]
    simp only [go_sem]
    refine run_rangeL (c := L38_0) (live := [3, 7, 8, 9]) (by simp only [go_sem]) (M := fun i1 (s1 : Int) => [(3, .p (iv s1)), (7, .p (.sl none 2 (List.map row_Tree a0.Kids))), (8, .p (iv (a0.Kids.length : Int))), (9, .p (iv (i1 : Int)))]) (Z := fun i1 (s1 : Int) => [.cells [.p (iv a0.Sym), .p (.sl none 2 (List.map row_Tree a0.Kids))]]) (N := fun (s1 : Int) => ⟨[(3, .p (iv s1))], [.cells [.p (iv a0.Sym), .p (.sl none 2 (List.map row_Tree a0.Kids))]], [], none, false⟩) h rfl rfl (fun _ _ => rfl) ?_ ?_ ?_
    · intro s1 h
      try dsimp only at h ⊢
      simp only [go_sem]
      injection h with h; subst h
      exact Sat.ok hQ
    · intro K1 s1 hb1 he1
      try dsimp only
      conv => arg 1; arg 7; unfold L38_0 loopAt S22.c38 Try.f38; simp only [loopIn, Option.getD_some, if_true]
      simp only [go_sem, he1]
      exact hb1
    · intro K1 k1 i1 x1 s1 n1 hR1 hE1 hb1 hx1 hi1 hw1 ih1 h
      try dsimp only at h ⊢
      conv => arg 1; arg 7; unfold L38_0 loopAt S22.c38 Try.f38; simp only [loopIn, Option.getD_some, if_true]
      obtain ⟨v1, e_v1, h⟩ := ob h
      have e_v1c : call Try.prog T H (.fn 38) [.p (.agg [iv x1.Sym, .sl none 2 (List.map row_Tree x1.Kids)])] [] = some (.ret (.p (iv v1)), []) := ih x1 v1 e_v1
      simp only [go_sem, hx1, hi1, hw1, e_v1c, hR1, hE1]
      exact ih1 (w64 (s1 + v1)) h

def repair_within (a0 : Rule) (a1 : Tree) (a2 : List (List repair_holes)) : Option (repair_holes × Bool) :=
  if a0.Sym = a1.Sym then
    rangeL a0.From (0, ([] : List (List Int))) (fun k3 i3 x3 (s3 : Int × (List (List Int))) n3 =>
      (a2[i3]?).bind fun v1 =>
      (idx v1 x3).bind fun v2 =>
      if v2.ok = true then
        rangeL v2.list s3.2 (fun k4 i4 x4 (s4 : (List (List Int))) n4 =>
          (app 8 [(i3 : Int)] x4).bind fun v3 =>
          (app 24 s4 [v3]).bind fun v4 =>
          n4 v4) fun s4 =>
        n3 (w64 (s3.1 + v2.gone), s4)
      else
        some ((repair_holes.mk false 0 ([] : List (List Int))), false)) fun s3 =>
    some ((repair_holes.mk true s3.1 s3.2), true)
  else
    some ((repair_holes.mk false 0 ([] : List (List Int))), false)
theorem spec39 (a0 : Rule) (a1 : Tree) (a2 : List (List repair_holes)) (r : repair_holes × Bool) (h : repair_within a0 a1 a2 = some r) :
    call Try.prog T H (.fn 39) [.p (.agg [iv a0.Sym, .sl none 1 (List.map rowI a0.From), iv a0.To]), .p (.agg [iv a1.Sym, .sl none 2 (List.map row_Tree a1.Kids)]), .p (.sl none 1 (List.map (rowL 3 row_repair_holes) a2))] [] = some (.ret (.p (.tup [.agg [bv r.1.ok, iv r.1.gone, .sl none 1 (List.map (rowL 1 rowI) r.1.list)], bv r.2])), []) := by
  refine Sat.fn fun Q hQ => ?_
  unfold repair_within at h
  rw [call39]
  conv => arg 1; arg 7; unfold S22.c39 Try.f39; simp only [Option.getD_some]
  by_cases c1 : a0.Sym = a1.Sym
  · have h := iteT h c1
    have c1b : (a0.Sym != a1.Sym) = false := bneF c1
    simp only [go_sem, c1b]
    refine run_rangeL (c := L39_0) (live := [2, 6, 8, 22, 23, 24]) (by simp only [go_sem]) (M := fun i3 (s3 : Int × (List (List Int))) => [(2, .p (.sl none 1 (List.map (rowL 3 row_repair_holes) a2))), (6, .ptr 2 0), (8, .ptr 3 0), (22, .p (.sl none 1 (List.map rowI a0.From))), (23, .p (iv (a0.From.length : Int))), (24, .p (iv (i3 : Int)))]) (Z := fun i3 (s3 : Int × (List (List Int))) => [.cells [.p (iv a0.Sym), .p (.sl none 1 (List.map rowI a0.From)), .p (iv a0.To)], .cells [.p (iv a1.Sym), .p (.sl none 2 (List.map row_Tree a1.Kids))], .cells [.p (bv false), .p (iv 0), .p (.sl none 1 [])], .cells [.p (bv true), .p (iv s3.1), .own 1 (List.map (rowL 1 rowI) s3.2)]]) (N := fun (s3 : Int × (List (List Int))) => ⟨[(6, .ptr 2 0), (8, .ptr 3 0)], [.cells [.p (iv a0.Sym), .p (.sl none 1 (List.map rowI a0.From)), .p (iv a0.To)], .cells [.p (iv a1.Sym), .p (.sl none 2 (List.map row_Tree a1.Kids))], .cells [.p (bv false), .p (iv 0), .p (.sl none 1 [])], .cells [.p (bv true), .p (iv s3.1), .own 1 (List.map (rowL 1 rowI) s3.2)]], [], none, false⟩) h rfl rfl (fun _ _ => rfl) ?_ ?_ ?_
    · intro s3 h
      try dsimp only at h ⊢
      simp only [go_sem]
      injection h with h; subst h
      exact Sat.ok hQ
    · intro K3 s3 hb3 he3
      try dsimp only
      conv => arg 1; arg 7; unfold L39_0 loopAt S22.c39 Try.f39; simp only [loopIn, Option.getD_some, if_true]
      simp only [go_sem, he3]
      exact hb3
    · intro K3 k3 i3 x3 s3 n3 hR3 hE3 hb3 hx3 hi3 hw3 ih3 h
      try dsimp only at h ⊢
      conv => arg 1; arg 7; unfold L39_0 loopAt S22.c39 Try.f39; simp only [loopIn, Option.getD_some, if_true]
      obtain ⟨v1, e_v1, h⟩ := ob h
      obtain ⟨v2, e_v2, h⟩ := ob h
      obtain ⟨e_v2a, e_v2b⟩ := idx_some e_v2
      by_cases c2 : v2.ok = true
      · have h := iteT h c2
        simp only [go_sem, hx3, hi3, hw3, e_v1, e_v2a, e_v2b, c2, hR3, hE3]
        refine run_rangeL (c := L39_2) (live := [2, 6, 8, 9, 22, 23, 24, 58, 59, 60]) (by simp only [go_sem]) (M := fun i4 (s4 : (List (List Int))) => [(2, .p (.sl none 1 (List.map (rowL 3 row_repair_holes) a2))), (6, .ptr 2 0), (8, .ptr 3 0), (9, .p (iv (i3 : Int))), (22, .p (.sl none 1 (List.map rowI a0.From))), (23, .p (iv (a0.From.length : Int))), (24, .p (iv (i3 : Int))), (58, .p (.sl none 1 (List.map (rowL 1 rowI) v2.list))), (59, .p (iv (v2.list.length : Int))), (60, .p (iv (i4 : Int)))]) (Z := fun i4 (s4 : (List (List Int))) => [.cells [.p (iv a0.Sym), .p (.sl none 1 (List.map rowI a0.From)), .p (iv a0.To)], .cells [.p (iv a1.Sym), .p (.sl none 2 (List.map row_Tree a1.Kids))], .cells [.p (bv false), .p (iv 0), .p (.sl none 1 [])], .cells [.p (bv true), .p (iv (w64 (s3.1 + v2.gone))), .own 1 (List.map (rowL 1 rowI) s4)]]) (N := fun (s4 : (List (List Int))) => ⟨[(2, .p (.sl none 1 (List.map (rowL 3 row_repair_holes) a2))), (6, .ptr 2 0), (8, .ptr 3 0), (22, .p (.sl none 1 (List.map rowI a0.From))), (23, .p (iv (a0.From.length : Int))), (24, .p (iv (i3 : Int)))], [.cells [.p (iv a0.Sym), .p (.sl none 1 (List.map rowI a0.From)), .p (iv a0.To)], .cells [.p (iv a1.Sym), .p (.sl none 2 (List.map row_Tree a1.Kids))], .cells [.p (bv false), .p (iv 0), .p (.sl none 1 [])], .cells [.p (bv true), .p (iv (w64 (s3.1 + v2.gone))), .own 1 (List.map (rowL 1 rowI) s4)]], [], none, false⟩) h rfl rfl (fun _ _ => rfl) ?_ ?_ ?_
        · intro s4 h
          try dsimp only at h ⊢
          simp only [go_sem, hw3, hR3, hE3]
          exact ih3 (w64 (s3.1 + v2.gone), s4) h
        · intro K4 s4 hb4 he4
          try dsimp only
          conv => arg 1; arg 7; unfold L39_2 loopAt S22.c39 Try.f39; simp only [loopIn, Option.getD_some, if_true]
          simp only [go_sem, he4]
          exact hb4
        · intro K4 k4 i4 x4 s4 n4 hR4 hE4 hb4 hx4 hi4 hw4 ih4 h
          try dsimp only at h ⊢
          conv => arg 1; arg 7; unfold L39_2 loopAt S22.c39 Try.f39; simp only [loopIn, Option.getD_some, if_true]
          obtain ⟨v3, e_v3, h⟩ := ob h
          have e_v3a : boundOk (1 + x4.length) 8 = true := bnd_of (by have := (app_some e_v3).1; simpa using this) (by decide)
          have e_v3b : [[iv (i3 : Int)]] ++ (List.map rowI x4) = List.map rowI v3 := by rw [(app_some e_v3).2]; simp [rowI]
          obtain ⟨v4, e_v4, h⟩ := ob h
          have e_v4a : boundOk (s4.length + 1) 24 = true := bnd_of (by have := (app_some e_v4).1; simpa using this) (by decide)
          have e_v4b : (List.map (rowL 1 rowI) s4) ++ [[.sl none 1 (List.map rowI v3)]] = List.map (rowL 1 rowI) v4 := by rw [(app_some e_v4).2]; simp [rowI, rowL]
          simp only [go_sem, hx4, hi4, hw4, e_v3a, e_v3b, e_v4a, e_v4b, hw3, hR3, hE3, hR4, hE4]
          exact ih4 v4 h
      · have h := iteF h c2
        have c2 := eq_false_of_ne_true c2
        simp only [go_sem, hx3, hi3, hw3, e_v1, e_v2a, e_v2b, c2, hR3, hE3]
        injection h with h; subst h
        exact Sat.ok hQ
  · have h := iteF h c1
    have c1b : (a0.Sym != a1.Sym) = true := bneT c1
    simp only [go_sem, c1b]
    injection h with h; subst h
    exact Sat.ok hQ

def repair_within_xxq (a0 : Rule) (a1 : Tree) (a2 : List (List repair_holes)) (l2 : Nat) (o2 : Nat) : Option (repair_holes × Bool) :=
  if a0.Sym = a1.Sym then
    rangeL a0.From (0, ([] : List (List Int))) (fun k3 i3 x3 (s3 : Int × (List (List Int))) n3 =>
      (idxS o2 l2 a2 (i3 : Int)).bind fun v1 =>
      (idx v1 x3).bind fun v2 =>
      if v2.ok = true then
        rangeL v2.list s3.2 (fun k4 i4 x4 (s4 : (List (List Int))) n4 =>
          (app 8 [(i3 : Int)] x4).bind fun v3 =>
          (app 24 s4 [v3]).bind fun v4 =>
          n4 v4) fun s4 =>
        n3 (w64 (s3.1 + v2.gone), s4)
      else
        some ((repair_holes.mk false 0 ([] : List (List Int))), false)) fun s3 =>
    some ((repair_holes.mk true s3.1 s3.2), true)
  else
    some ((repair_holes.mk false 0 ([] : List (List Int))), false)
theorem spec39_xxq (g2 : Nat) (a0 : Rule) (a1 : Tree) (a2 : List (List repair_holes)) (l2 : Nat) (o2 : Nat) (r : repair_holes × Bool) (h : repair_within_xxq a0 a1 a2 l2 o2 = some r) :
    call Try.prog T H (.fn 39) [.p (.agg [iv a0.Sym, .sl none 1 (List.map rowI a0.From), iv a0.To]), .p (.agg [iv a1.Sym, .sl none 2 (List.map row_Tree a1.Kids)]), .ms 0 g2 1 o2 l2] [.arr g2 1 (List.map (rowA (rowL 3 row_repair_holes)) a2)] = some (.ret (.p (.tup [.agg [bv r.1.ok, iv r.1.gone, .sl none 1 (List.map (rowL 1 rowI) r.1.list)], bv r.2])), [.arr g2 1 (List.map (rowA (rowL 3 row_repair_holes)) a2)]) := by
  refine Sat.fn fun Q hQ => ?_
  unfold repair_within_xxq at h
  rw [call39]
  conv => arg 1; arg 7; unfold S22.c39 Try.f39; simp only [Option.getD_some]
  by_cases c1 : a0.Sym = a1.Sym
  · have h := iteT h c1
    have c1b : (a0.Sym != a1.Sym) = false := bneF c1
    simp only [go_sem, c1b]
    refine run_rangeL (c := L39_0) (live := [2, 6, 8, 22, 23, 24]) (by simp only [go_sem]) (M := fun i3 (s3 : Int × (List (List Int))) => [(2, .ms 0 g2 1 o2 l2), (6, .ptr 3 0), (8, .ptr 4 0), (22, .p (.sl none 1 (List.map rowI a0.From))), (23, .p (iv (a0.From.length : Int))), (24, .p (iv (i3 : Int)))]) (Z := fun i3 (s3 : Int × (List (List Int))) => [.arr g2 1 (List.map (rowA (rowL 3 row_repair_holes)) a2), .cells [.p (iv a0.Sym), .p (.sl none 1 (List.map rowI a0.From)), .p (iv a0.To)], .cells [.p (iv a1.Sym), .p (.sl none 2 (List.map row_Tree a1.Kids))], .cells [.p (bv false), .p (iv 0), .p (.sl none 1 [])], .cells [.p (bv true), .p (iv s3.1), .own 1 (List.map (rowL 1 rowI) s3.2)]]) (N := fun (s3 : Int × (List (List Int))) => ⟨[(6, .ptr 3 0), (8, .ptr 4 0)], [.arr g2 1 (List.map (rowA (rowL 3 row_repair_holes)) a2), .cells [.p (iv a0.Sym), .p (.sl none 1 (List.map rowI a0.From)), .p (iv a0.To)], .cells [.p (iv a1.Sym), .p (.sl none 2 (List.map row_Tree a1.Kids))], .cells [.p (bv false), .p (iv 0), .p (.sl none 1 [])], .cells [.p (bv true), .p (iv s3.1), .own 1 (List.map (rowL 1 rowI) s3.2)]], [], none, false⟩) h rfl rfl (fun _ _ => rfl) ?_ ?_ ?_
    · intro s3 h
      try dsimp only at h ⊢
      simp only [go_sem]
      injection h with h; subst h
      exact Sat.ok hQ
    · intro K3 s3 hb3 he3
      try dsimp only
      conv => arg 1; arg 7; unfold L39_0 loopAt S22.c39 Try.f39; simp only [loopIn, Option.getD_some, if_true]
      simp only [go_sem, he3]
      exact hb3
    · intro K3 k3 i3 x3 s3 n3 hR3 hE3 hb3 hx3 hi3 hw3 ih3 h
      try dsimp only at h ⊢
      conv => arg 1; arg 7; unfold L39_0 loopAt S22.c39 Try.f39; simp only [loopIn, Option.getD_some, if_true]
      obtain ⟨v1, e_v1, h⟩ := ob h
      obtain ⟨e_v1a, e_v1b, e_v1d⟩ := idxS_some e_v1
      simp only [Int.toNat_natCast] at e_v1b
      simp only [Int.toNat_natCast] at e_v1d
      obtain ⟨v2, e_v2, h⟩ := ob h
      obtain ⟨e_v2a, e_v2b⟩ := idx_some e_v2
      by_cases c2 : v2.ok = true
      · have h := iteT h c2
        simp only [go_sem, hx3, hi3, hw3, e_v1b, e_v1d, e_v2a, e_v2b, c2, hR3, hE3]
        refine run_rangeL (c := L39_2) (live := [2, 6, 8, 9, 22, 23, 24, 58, 59, 60]) (by simp only [go_sem]) (M := fun i4 (s4 : (List (List Int))) => [(2, .ms 0 g2 1 o2 l2), (6, .ptr 3 0), (8, .ptr 4 0), (9, .p (iv (i3 : Int))), (22, .p (.sl none 1 (List.map rowI a0.From))), (23, .p (iv (a0.From.length : Int))), (24, .p (iv (i3 : Int))), (58, .p (.sl none 1 (List.map (rowL 1 rowI) v2.list))), (59, .p (iv (v2.list.length : Int))), (60, .p (iv (i4 : Int)))]) (Z := fun i4 (s4 : (List (List Int))) => [.arr g2 1 (List.map (rowA (rowL 3 row_repair_holes)) a2), .cells [.p (iv a0.Sym), .p (.sl none 1 (List.map rowI a0.From)), .p (iv a0.To)], .cells [.p (iv a1.Sym), .p (.sl none 2 (List.map row_Tree a1.Kids))], .cells [.p (bv false), .p (iv 0), .p (.sl none 1 [])], .cells [.p (bv true), .p (iv (w64 (s3.1 + v2.gone))), .own 1 (List.map (rowL 1 rowI) s4)]]) (N := fun (s4 : (List (List Int))) => ⟨[(2, .ms 0 g2 1 o2 l2), (6, .ptr 3 0), (8, .ptr 4 0), (22, .p (.sl none 1 (List.map rowI a0.From))), (23, .p (iv (a0.From.length : Int))), (24, .p (iv (i3 : Int)))], [.arr g2 1 (List.map (rowA (rowL 3 row_repair_holes)) a2), .cells [.p (iv a0.Sym), .p (.sl none 1 (List.map rowI a0.From)), .p (iv a0.To)], .cells [.p (iv a1.Sym), .p (.sl none 2 (List.map row_Tree a1.Kids))], .cells [.p (bv false), .p (iv 0), .p (.sl none 1 [])], .cells [.p (bv true), .p (iv (w64 (s3.1 + v2.gone))), .own 1 (List.map (rowL 1 rowI) s4)]], [], none, false⟩) h rfl rfl (fun _ _ => rfl) ?_ ?_ ?_
        · intro s4 h
          try dsimp only at h ⊢
          simp only [go_sem, hw3, hR3, hE3]
          exact ih3 (w64 (s3.1 + v2.gone), s4) h
        · intro K4 s4 hb4 he4
          try dsimp only
          conv => arg 1; arg 7; unfold L39_2 loopAt S22.c39 Try.f39; simp only [loopIn, Option.getD_some, if_true]
          simp only [go_sem, he4]
          exact hb4
        · intro K4 k4 i4 x4 s4 n4 hR4 hE4 hb4 hx4 hi4 hw4 ih4 h
          try dsimp only at h ⊢
          conv => arg 1; arg 7; unfold L39_2 loopAt S22.c39 Try.f39; simp only [loopIn, Option.getD_some, if_true]
          obtain ⟨v3, e_v3, h⟩ := ob h
          have e_v3a : boundOk (1 + x4.length) 8 = true := bnd_of (by have := (app_some e_v3).1; simpa using this) (by decide)
          have e_v3b : [[iv (i3 : Int)]] ++ (List.map rowI x4) = List.map rowI v3 := by rw [(app_some e_v3).2]; simp [rowI]
          obtain ⟨v4, e_v4, h⟩ := ob h
          have e_v4a : boundOk (s4.length + 1) 24 = true := bnd_of (by have := (app_some e_v4).1; simpa using this) (by decide)
          have e_v4b : (List.map (rowL 1 rowI) s4) ++ [[.sl none 1 (List.map rowI v3)]] = List.map (rowL 1 rowI) v4 := by rw [(app_some e_v4).2]; simp [rowI, rowL]
          simp only [go_sem, hx4, hi4, hw4, e_v3a, e_v3b, e_v4a, e_v4b, hw3, hR3, hE3, hR4, hE4]
          exact ih4 v4 h
      · have h := iteF h c2
        have c2 := eq_false_of_ne_true c2
        simp only [go_sem, hx3, hi3, hw3, e_v1b, e_v1d, e_v2a, e_v2b, c2, hR3, hE3]
        injection h with h; subst h
        exact Sat.ok hQ
  · have h := iteF h c1
    have c1b : (a0.Sym != a1.Sym) = true := bneT c1
    simp only [go_sem, c1b]
    injection h with h; subst h
    exact Sat.ok hQ

def slices_Compare_Lint_int (a0 : List Int) (a1 : List Int) : Option Int :=
  rangeL a0 () (fun k1 i1 x1 (s1 : Unit) n1 =>
    if (a1.length : Int) ≤ (i1 : Int) then
      some 1
    else
      (a1[i1]?).bind fun v1 =>
      (cmp_Compare_int x1 v1).bind fun v2 =>
      if v2 = 0 then
        n1 ()
      else
        some v2) fun s1 =>
  if (a0.length : Int) < (a1.length : Int) then
    some (-1)
  else
    some 0
theorem spec72 (a0 : List Int) (a1 : List Int) (r : Int) (h : slices_Compare_Lint_int a0 a1 = some r) :
    call Try.prog T H (.fn 72) [.p (.sl none 1 (List.map rowI a0)), .p (.sl none 1 (List.map rowI a1))] [] = some (.ret (.p (iv r)), []) := by
  refine Sat.fn fun Q hQ => ?_
  unfold slices_Compare_Lint_int at h
  rw [call72]
  conv => arg 1; arg 7; unfold S22.c72 Try.f72; simp only [Option.getD_some]
  simp only [go_sem]
  refine run_rangeL (c := L72_0) (live := [0, 1, 9, 10, 11]) (by simp only [go_sem]) (M := fun i1 (s1 : Unit) => [(0, .p (.sl none 1 (List.map rowI a0))), (1, .p (.sl none 1 (List.map rowI a1))), (9, .p (.sl none 1 (List.map rowI a0))), (10, .p (iv (a0.length : Int))), (11, .p (iv (i1 : Int)))]) (Z := fun i1 (s1 : Unit) => []) (N := fun (s1 : Unit) => ⟨[(0, .p (.sl none 1 (List.map rowI a0))), (1, .p (.sl none 1 (List.map rowI a1)))], [], [], none, false⟩) h rfl rfl (fun _ _ => rfl) ?_ ?_ ?_
  · intro s1 h
    try dsimp only at h ⊢
    by_cases c1 : (a0.length : Int) < (a1.length : Int)
    · have h := iteT h c1
      simp only [go_sem, c1]
      injection h with h; subst h
      exact Sat.ok hQ
    · have h := iteF h c1
      simp only [go_sem, c1]
      injection h with h; subst h
      exact Sat.ok hQ
  · intro K1 s1 hb1 he1
    try dsimp only
    conv => arg 1; arg 7; unfold L72_0 loopAt S22.c72 Try.f72; simp only [loopIn, Option.getD_some, if_true]
    simp only [go_sem, he1]
    exact hb1
  · intro K1 k1 i1 x1 s1 n1 hR1 hE1 hb1 hx1 hi1 hw1 ih1 h
    try dsimp only at h ⊢
    conv => arg 1; arg 7; unfold L72_0 loopAt S22.c72 Try.f72; simp only [loopIn, Option.getD_some, if_true]
    by_cases c2 : (a1.length : Int) ≤ (i1 : Int)
    · have h := iteT h c2
      simp only [go_sem, hx1, hi1, hw1, c2, hR1, hE1]
      injection h with h; subst h
      exact Sat.ok hQ
    · have h := iteF h c2
      obtain ⟨v1, e_v1, h⟩ := ob h
      obtain ⟨v2, e_v2, h⟩ := ob h
      have e_v2c : call Try.prog T H (.fn 95) [.p (iv x1), .p (iv v1)] [] = some (.ret (.p (iv v2)), []) := spec95 x1 v1 v2 e_v2
      by_cases c3 : v2 = 0
      · have h := iteT h c3
        have c3b : (v2 != 0) = false := bneF c3
        simp only [go_sem, hx1, hi1, hw1, c2, e_v1, e_v2c, c3b, hR1, hE1]
        exact ih1 () h
      · have h := iteF h c3
        have c3b : (v2 != 0) = true := bneT c3
        simp only [go_sem, hx1, hi1, hw1, c2, e_v1, e_v2c, c3b, hR1, hE1]
        injection h with h; subst h
        exact Sat.ok hQ

def repair_fewer_1 (a0 : List Int) (a1 : List Int) : Option Int :=
  (slices_Compare_Lint_int a0 a1).bind fun v1 =>
  some v1
theorem spec71 (a0 : List Int) (a1 : List Int) (r : Int) (h : repair_fewer_1 a0 a1 = some r) :
    call Try.prog T H (.fn 71) [.p (.sl none 1 (List.map rowI a0)), .p (.sl none 1 (List.map rowI a1))] [] = some (.ret (.p (iv r)), []) := by
  refine Sat.fn fun Q hQ => ?_
  unfold repair_fewer_1 at h
  rw [call71]
  conv => arg 1; arg 7; unfold S22.c71 Try.f71; simp only [Option.getD_some]
  obtain ⟨v1, e_v1, h⟩ := ob h
  have e_v1c : call Try.prog T H (.fn 72) [.p (.sl none 1 (List.map rowI a0)), .p (.sl none 1 (List.map rowI a1))] [] = some (.ret (.p (iv v1)), []) := spec72 a0 a1 v1 e_v1
  simp only [go_sem, e_v1c]
  injection h with h; subst h
  exact Sat.ok hQ

def repair_fewer (a0 : repair_holes) (a1 : repair_holes) : Option Bool :=
  if a1.ok = true then
    if a0.gone = a1.gone then
      if (a0.list.length : Int) = (a1.list.length : Int) then
        jn (fun (u1 : Int) =>
          some (decide (u1 < 0))) fun j1 =>
        rangeL a0.list () (fun k1 i1 x1 (s1 : Unit) n1 =>
          if (a1.list.length : Int) ≤ (i1 : Int) then
            j1 1
          else
            (a1.list[i1]?).bind fun v1 =>
            (repair_fewer_1 x1 v1).bind fun v2 =>
            if v2 = 0 then
              n1 ()
            else
              j1 v2) fun s1 =>
        if (a0.list.length : Int) < (a1.list.length : Int) then
          j1 (-1)
        else
          j1 0
      else
        some (decide ((a0.list.length : Int) < (a1.list.length : Int)))
    else
      some (decide (a0.gone < a1.gone))
  else
    some true
theorem spec40 (a0 : repair_holes) (a1 : repair_holes) (r : Bool) (h : repair_fewer a0 a1 = some r) :
    call Try.prog T H (.fn 40) [.p (.agg [bv a0.ok, iv a0.gone, .sl none 1 (List.map (rowL 1 rowI) a0.list)]), .p (.agg [bv a1.ok, iv a1.gone, .sl none 1 (List.map (rowL 1 rowI) a1.list)])] [] = some (.ret (.p (bv r)), []) := by
  refine Sat.fn fun Q hQ => ?_
  unfold repair_fewer at h
  rw [call40]
  conv => arg 1; arg 7; unfold S22.c40 Try.f40; simp only [Option.getD_some]
  by_cases c1 : a1.ok = true
  · have h := iteT h c1
    by_cases c2 : a0.gone = a1.gone
    · have h := iteT h c2
      have c2b : (a0.gone != a1.gone) = false := bneF c2
      by_cases c3 : (a0.list.length : Int) = (a1.list.length : Int)
      · have h := iteT h c3
        have c3b : ((a0.list.length : Int) != (a1.list.length : Int)) = false := bneF c3
        simp only [go_sem, c1, c2b, c3b]
        refine Sat.callj (V := fun (u1 : Int) => .p (iv u1)) (Z := fun (u1 : Int) => [.cells [.p (bv a0.ok), .p (iv a0.gone), .p (.sl none 1 (List.map (rowL 1 rowI) a0.list))], .cells [.p (bv true), .p (iv a1.gone), .p (.sl none 1 (List.map (rowL 1 rowI) a1.list))]]) h ?_ ?_
        · intro u1 h
          try dsimp only at h ⊢
          simp only [go_sem]
          injection h with h; subst h
          exact Sat.ok hQ
        · intro j1 h
          rw [call70]
          conv => arg 1; arg 7; unfold S22.c70 Try.f70; simp only [Option.getD_some]
          simp only [go_sem]
          refine run_rangeL (c := L70_0) (live := [0, 1, 2, 11, 12, 13]) (by simp only [go_sem]) (M := fun i1 (s1 : Unit) => [(0, .p (.sl none 1 (List.map (rowL 1 rowI) a0.list))), (1, .p (.sl none 1 (List.map (rowL 1 rowI) a1.list))), (2, .p (.fn 71)), (11, .p (.sl none 1 (List.map (rowL 1 rowI) a0.list))), (12, .p (iv (a0.list.length : Int))), (13, .p (iv (i1 : Int)))]) (Z := fun i1 (s1 : Unit) => [.cells [.p (bv a0.ok), .p (iv a0.gone), .p (.sl none 1 (List.map (rowL 1 rowI) a0.list))], .cells [.p (bv true), .p (iv a1.gone), .p (.sl none 1 (List.map (rowL 1 rowI) a1.list))]]) (N := fun (s1 : Unit) => ⟨[(0, .p (.sl none 1 (List.map (rowL 1 rowI) a0.list))), (1, .p (.sl none 1 (List.map (rowL 1 rowI) a1.list)))], [.cells [.p (bv a0.ok), .p (iv a0.gone), .p (.sl none 1 (List.map (rowL 1 rowI) a0.list))], .cells [.p (bv true), .p (iv a1.gone), .p (.sl none 1 (List.map (rowL 1 rowI) a1.list))]], [], none, false⟩) h rfl rfl (fun _ _ => rfl) ?_ ?_ ?_
          · intro s1 h
            try dsimp only at h ⊢
            by_cases c4 : (a0.list.length : Int) < (a1.list.length : Int)
            · have h := iteT h c4
              simp only [go_sem, c4]
              exact Sat.ok ⟨(-1), rfl, h⟩
            · have h := iteF h c4
              simp only [go_sem, c4]
              exact Sat.ok ⟨0, rfl, h⟩
          · intro K1 s1 hb1 he1
            try dsimp only
            conv => arg 1; arg 7; unfold L70_0 loopAt S22.c70 Try.f70; simp only [loopIn, Option.getD_some, if_true]
            simp only [go_sem, he1]
            exact hb1
          · intro K1 k1 i1 x1 s1 n1 hR1 hE1 hb1 hx1 hi1 hw1 ih1 h
            try dsimp only at h ⊢
            conv => arg 1; arg 7; unfold L70_0 loopAt S22.c70 Try.f70; simp only [loopIn, Option.getD_some, if_true]
            by_cases c5 : (a1.list.length : Int) ≤ (i1 : Int)
            · have h := iteT h c5
              simp only [go_sem, hx1, hi1, hw1, c5, hR1, hE1]
              exact Sat.ok ⟨1, rfl, h⟩
            · have h := iteF h c5
              obtain ⟨v1, e_v1, h⟩ := ob h
              obtain ⟨v2, e_v2, h⟩ := ob h
              have e_v2c : call Try.prog T H (.fn 71) [.p (.sl none 1 (List.map rowI x1)), .p (.sl none 1 (List.map rowI v1))] [] = some (.ret (.p (iv v2)), []) := spec71 x1 v1 v2 e_v2
              by_cases c6 : v2 = 0
              · have h := iteT h c6
                have c6b : (v2 != 0) = false := bneF c6
                simp only [go_sem, hx1, hi1, hw1, c5, e_v1, e_v2c, c6b, hR1, hE1]
                exact ih1 () h
              · have h := iteF h c6
                have c6b : (v2 != 0) = true := bneT c6
                simp only [go_sem, hx1, hi1, hw1, c5, e_v1, e_v2c, c6b, hR1, hE1]
                exact Sat.ok ⟨v2, rfl, h⟩
      · have h := iteF h c3
        have c3b : ((a0.list.length : Int) != (a1.list.length : Int)) = true := bneT c3
        simp only [go_sem, c1, c2b, c3b]
        injection h with h; subst h
        exact Sat.ok hQ
    · have h := iteF h c2
      have c2b : (a0.gone != a1.gone) = true := bneT c2
      simp only [go_sem, c1, c2b]
      injection h with h; subst h
      exact Sat.ok hQ
  · have h := iteF h c1
    have c1 := eq_false_of_ne_true c1
    simp only [go_sem, c1]
    injection h with h; subst h
    exact Sat.ok hQ

def ref01_List (a0 : List Int) (a1 : List Int) : Option Bool :=
  if (a0.length : Int) = (a1.length : Int) then
    rangeL a0 () (fun k1 i1 x1 (s1 : Unit) n1 =>
      (a1[i1]?).bind fun v1 =>
      if x1 = v1 then
        n1 ()
      else
        some false) fun s1 =>
    some true
  else
    some false
theorem spec44 (a0 : List Int) (a1 : List Int) (r : Bool) (h : ref01_List a0 a1 = some r) :
    call Try.prog T H (.fn 44) [.p (.sl none 1 (List.map rowI a0)), .p (.sl none 1 (List.map rowI a1))] [] = some (.ret (.p (bv r)), []) := by
  refine Sat.fn fun Q hQ => ?_
  unfold ref01_List at h
  rw [call44]
  conv => arg 1; arg 7; unfold S22.c44 Try.f44; simp only [Option.getD_some]
  by_cases c1 : (a0.length : Int) = (a1.length : Int)
  · have h := iteT h c1
    have c1b : ((a0.length : Int) != (a1.length : Int)) = false := bneF c1
    simp only [go_sem, c1b]
    refine run_rangeL (c := L44_0) (live := [0, 1, 12, 13]) (by simp only [go_sem]) (M := fun i1 (s1 : Unit) => [(0, .p (.sl none 1 (List.map rowI a0))), (1, .p (.sl none 1 (List.map rowI a1))), (12, .p (iv (a0.length : Int))), (13, .p (iv (i1 : Int)))]) (Z := fun i1 (s1 : Unit) => []) (N := fun (s1 : Unit) => ⟨[], [], [], none, false⟩) h rfl rfl (fun _ _ => rfl) ?_ ?_ ?_
    · intro s1 h
      try dsimp only at h ⊢
      simp only [go_sem]
      injection h with h; subst h
      exact Sat.ok hQ
    · intro K1 s1 hb1 he1
      try dsimp only
      conv => arg 1; arg 7; unfold L44_0 loopAt S22.c44 Try.f44; simp only [loopIn, Option.getD_some, if_true]
      simp only [go_sem, he1]
      exact hb1
    · intro K1 k1 i1 x1 s1 n1 hR1 hE1 hb1 hx1 hi1 hw1 ih1 h
      try dsimp only at h ⊢
      conv => arg 1; arg 7; unfold L44_0 loopAt S22.c44 Try.f44; simp only [loopIn, Option.getD_some, if_true]
      obtain ⟨v1, e_v1, h⟩ := ob h
      by_cases c2 : x1 = v1
      · have h := iteT h c2
        have c2b : (x1 != v1) = false := bneF c2
        simp only [go_sem, hx1, hi1, hw1, e_v1, c2b, hR1, hE1]
        exact ih1 () h
      · have h := iteF h c2
        have c2b : (x1 != v1) = true := bneT c2
        simp only [go_sem, hx1, hi1, hw1, e_v1, c2b, hR1, hE1]
        injection h with h; subst h
        exact Sat.ok hQ
  · have h := iteF h c1
    have c1b : ((a0.length : Int) != (a1.length : Int)) = true := bneT c1
    simp only [go_sem, c1b]
    injection h with h; subst h
    exact Sat.ok hQ

def ref01_SameLists (a0 : List (List Int)) (a1 : List (List Int)) : Option Bool :=
  if (a0.length : Int) = (a1.length : Int) then
    rangeL a0 () (fun k1 i1 x1 (s1 : Unit) n1 =>
      (a1[i1]?).bind fun v1 =>
      (ref01_List x1 v1).bind fun v2 =>
      if v2 = true then
        n1 ()
      else
        some false) fun s1 =>
    some true
  else
    some false
theorem spec15 (a0 : List (List Int)) (a1 : List (List Int)) (r : Bool) (h : ref01_SameLists a0 a1 = some r) :
    call Try.prog T H (.fn 15) [.p (.sl none 1 (List.map (rowL 1 rowI) a0)), .p (.sl none 1 (List.map (rowL 1 rowI) a1))] [] = some (.ret (.p (bv r)), []) := by
  refine Sat.fn fun Q hQ => ?_
  unfold ref01_SameLists at h
  rw [call15]
  conv => arg 1; arg 7; unfold S22.c15 Try.f15; simp only [Option.getD_some]
  by_cases c1 : (a0.length : Int) = (a1.length : Int)
  · have h := iteT h c1
    have c1b : ((a0.length : Int) != (a1.length : Int)) = false := bneF c1
    simp only [go_sem, c1b]
    refine run_rangeL (c := L15_0) (live := [0, 1, 12, 13]) (by simp only [go_sem]) (M := fun i1 (s1 : Unit) => [(0, .p (.sl none 1 (List.map (rowL 1 rowI) a0))), (1, .p (.sl none 1 (List.map (rowL 1 rowI) a1))), (12, .p (iv (a0.length : Int))), (13, .p (iv (i1 : Int)))]) (Z := fun i1 (s1 : Unit) => []) (N := fun (s1 : Unit) => ⟨[], [], [], none, false⟩) h rfl rfl (fun _ _ => rfl) ?_ ?_ ?_
    · intro s1 h
      try dsimp only at h ⊢
      simp only [go_sem]
      injection h with h; subst h
      exact Sat.ok hQ
    · intro K1 s1 hb1 he1
      try dsimp only
      conv => arg 1; arg 7; unfold L15_0 loopAt S22.c15 Try.f15; simp only [loopIn, Option.getD_some, if_true]
      simp only [go_sem, he1]
      exact hb1
    · intro K1 k1 i1 x1 s1 n1 hR1 hE1 hb1 hx1 hi1 hw1 ih1 h
      try dsimp only at h ⊢
      conv => arg 1; arg 7; unfold L15_0 loopAt S22.c15 Try.f15; simp only [loopIn, Option.getD_some, if_true]
      obtain ⟨v1, e_v1, h⟩ := ob h
      obtain ⟨v2, e_v2, h⟩ := ob h
      have e_v2c : call Try.prog T H (.fn 44) [.p (.sl none 1 (List.map rowI x1)), .p (.sl none 1 (List.map rowI v1))] [] = some (.ret (.p (bv v2)), []) := spec44 x1 v1 v2 e_v2
      by_cases c2 : v2 = true
      · have h := iteT h c2
        simp only [go_sem, hx1, hi1, hw1, e_v1, e_v2c, c2, hR1, hE1]
        exact ih1 () h
      · have h := iteF h c2
        have c2 := eq_false_of_ne_true c2
        simp only [go_sem, hx1, hi1, hw1, e_v1, e_v2c, c2, hR1, hE1]
        injection h with h; subst h
        exact Sat.ok hQ
  · have h := iteF h c1
    have c1b : ((a0.length : Int) != (a1.length : Int)) = true := bneT c1
    simp only [go_sem, c1b]
    injection h with h; subst h
    exact Sat.ok hQ

def ref01_ValidAlphabet (a0 : Alphabet) : Option Bool :=
  if 12 < (a0.Ranks.length : Int) then
    some false
  else
    rangeL a0.Ranks () (fun k1 i1 x1 (s1 : Unit) n1 =>
      if x1 < 0 then
        some false
      else
        if 3 < x1 then
          some false
        else
          n1 ()) fun s1 =>
    some true
theorem spec56 (a0 : Alphabet) (r : Bool) (h : ref01_ValidAlphabet a0 = some r) :
    call Try.prog T H (.fn 56) [.p (.agg [.sl none 1 (List.map rowI a0.Ranks)])] [] = some (.ret (.p (bv r)), []) := by
  refine Sat.fn fun Q hQ => ?_
  unfold ref01_ValidAlphabet at h
  rw [call56]
  conv => arg 1; arg 7; unfold S22.c56 Try.f56; simp only [Option.getD_some]
  by_cases c1 : 12 < (a0.Ranks.length : Int)
  · have h := iteT h c1
    simp only [go_sem, c1]
    injection h with h; subst h
    exact Sat.ok hQ
  · have h := iteF h c1
    simp only [go_sem, c1]
    refine run_rangeL (c := L56_0) (live := [10, 11, 12]) (by simp only [go_sem]) (M := fun i1 (s1 : Unit) => [(10, .p (.sl none 1 (List.map rowI a0.Ranks))), (11, .p (iv (a0.Ranks.length : Int))), (12, .p (iv (i1 : Int)))]) (Z := fun i1 (s1 : Unit) => [.cells [.p (.sl none 1 (List.map rowI a0.Ranks))]]) (N := fun (s1 : Unit) => ⟨[], [.cells [.p (.sl none 1 (List.map rowI a0.Ranks))]], [], none, false⟩) h rfl rfl (fun _ _ => rfl) ?_ ?_ ?_
    · intro s1 h
      try dsimp only at h ⊢
      simp only [go_sem]
      injection h with h; subst h
      exact Sat.ok hQ
    · intro K1 s1 hb1 he1
      try dsimp only
      conv => arg 1; arg 7; unfold L56_0 loopAt S22.c56 Try.f56; simp only [loopIn, Option.getD_some, if_true]
      simp only [go_sem, he1]
      exact hb1
    · intro K1 k1 i1 x1 s1 n1 hR1 hE1 hb1 hx1 hi1 hw1 ih1 h
      try dsimp only at h ⊢
      conv => arg 1; arg 7; unfold L56_0 loopAt S22.c56 Try.f56; simp only [loopIn, Option.getD_some, if_true]
      by_cases c2 : x1 < 0
      · have h := iteT h c2
        simp only [go_sem, hx1, hi1, hw1, c2, hR1, hE1]
        injection h with h; subst h
        exact Sat.ok hQ
      · have h := iteF h c2
        by_cases c3 : 3 < x1
        · have h := iteT h c3
          simp only [go_sem, hx1, hi1, hw1, c2, c3, hR1, hE1]
          injection h with h; subst h
          exact Sat.ok hQ
        · have h := iteF h c3
          simp only [go_sem, hx1, hi1, hw1, c2, c3, hR1, hE1]
          exact ih1 () h

def ref01_shaped : Nat → Alphabet → Tree → Option Bool
  | 0, _, _ => none
  | n + 1, a0, a1 =>
    if a1.Sym < 0 then
      some false
    else
      if (a0.Ranks.length : Int) ≤ a1.Sym then
        some false
      else
        (idx a0.Ranks a1.Sym).bind fun v1 =>
        if (a1.Kids.length : Int) = v1 then
          rangeL a1.Kids () (fun k1 i1 x1 (s1 : Unit) n1 =>
            (ref01_shaped n a0 x1).bind fun v2 =>
            if v2 = true then
              n1 ()
            else
              some false) fun s1 =>
          some true
        else
          some false
theorem spec57 : ∀ (n : Nat), (∀ (a0 : Alphabet) (a1 : Tree) (r : Bool), ref01_shaped n a0 a1 = some r →
    call Try.prog T H (.fn 57) [.p (.agg [.sl none 1 (List.map rowI a0.Ranks)]), .p (.agg [iv a1.Sym, .sl none 2 (List.map row_Tree a1.Kids)])] [] = some (.ret (.p (bv r)), [])) := by
  intro n
  induction n with
  | zero => intro a0 a1 r h; cases h
  | succ n ih =>
    intro a0 a1 r h
    refine Sat.fn fun Q hQ => ?_
    rw [ref01_shaped] at h
    rw [call57]
    conv => arg 1; arg 7; unfold S22.c57 Try.f57; simp only [Option.getD_some]
    by_cases c1 : a1.Sym < 0
    · have h := iteT h c1
      simp only [go_sem, c1]
      injection h with h; subst h
      exact Sat.ok hQ
    · have h := iteF h c1
      by_cases c2 : (a0.Ranks.length : Int) ≤ a1.Sym
      · have h := iteT h c2
        simp only [go_sem, c1, c2]
        injection h with h; subst h
        exact Sat.ok hQ
      · have h := iteF h c2
        obtain ⟨v1, e_v1, h⟩ := ob h
        obtain ⟨e_v1a, e_v1b⟩ := idx_some e_v1
        by_cases c3 : (a1.Kids.length : Int) = v1
        · have h := iteT h c3
          have c3b : ((a1.Kids.length : Int) != v1) = false := bneF c3
          simp only [go_sem, c1, c2, e_v1a, e_v1b, c3b]
          refine run_rangeL (c := L57_0) (live := [2, 31, 32, 33]) (by simp only [go_sem]) (M := fun i1 (s1 : Unit) => [(2, .ptr 0 0), (31, .p (.sl none 2 (List.map row_Tree a1.Kids))), (32, .p (iv (a1.Kids.length : Int))), (33, .p (iv (i1 : Int)))]) (Z := fun i1 (s1 : Unit) => [.cells [.p (.sl none 1 (List.map rowI a0.Ranks))], .cells [.p (iv a1.Sym), .p (.sl none 2 (List.map row_Tree a1.Kids))]]) (N := fun (s1 : Unit) => ⟨[], [.cells [.p (.sl none 1 (List.map rowI a0.Ranks))], .cells [.p (iv a1.Sym), .p (.sl none 2 (List.map row_Tree a1.Kids))]], [], none, false⟩) h rfl rfl (fun _ _ => rfl) ?_ ?_ ?_
          · intro s1 h
            try dsimp only at h ⊢
            simp only [go_sem]
            injection h with h; subst h
            exact Sat.ok hQ
          · intro K1 s1 hb1 he1
            try dsimp only
            conv => arg 1; arg 7; unfold L57_0 loopAt S22.c57 Try.f57; simp only [loopIn, Option.getD_some, if_true]
            simp only [go_sem, he1]
            exact hb1
          · intro K1 k1 i1 x1 s1 n1 hR1 hE1 hb1 hx1 hi1 hw1 ih1 h
            try dsimp only at h ⊢
            conv => arg 1; arg 7; unfold L57_0 loopAt S22.c57 Try.f57; simp only [loopIn, Option.getD_some, if_true]
            obtain ⟨v2, e_v2, h⟩ := ob h
            have e_v2c : call Try.prog T H (.fn 57) [.p (.agg [.sl none 1 (List.map rowI a0.Ranks)]), .p (.agg [iv x1.Sym, .sl none 2 (List.map row_Tree x1.Kids)])] [] = some (.ret (.p (bv v2)), []) := ih a0 x1 v2 e_v2
            by_cases c4 : v2 = true
            · have h := iteT h c4
              simp only [go_sem, hx1, hi1, hw1, e_v2c, c4, hR1, hE1]
              exact ih1 () h
            · have h := iteF h c4
              have c4 := eq_false_of_ne_true c4
              simp only [go_sem, hx1, hi1, hw1, e_v2c, c4, hR1, hE1]
              injection h with h; subst h
              exact Sat.ok hQ
        · have h := iteF h c3
          have c3b : ((a1.Kids.length : Int) != v1) = true := bneT c3
          simp only [go_sem, c1, c2, e_v1a, e_v1b, c3b]
          injection h with h; subst h
          exact Sat.ok hQ

def ref01_Valid (n : Nat) (a0 : Alphabet) (a1 : Tree) : Option Bool :=
  (ref01_ValidAlphabet a0).bind fun v1 =>
  if v1 = true then
    (ref01_Few n a1 300).bind fun v2 =>
    if v2 = true then
      (ref01_shaped n a0 a1).bind fun v3 =>
      some v3
    else
      some false
  else
    some false
theorem spec24 (n : Nat) (a0 : Alphabet) (a1 : Tree) (r : Bool) (h : ref01_Valid n a0 a1 = some r) :
    call Try.prog T H (.fn 24) [.p (.agg [.sl none 1 (List.map rowI a0.Ranks)]), .p (.agg [iv a1.Sym, .sl none 2 (List.map row_Tree a1.Kids)])] [] = some (.ret (.p (bv r)), []) := by
  refine Sat.fn fun Q hQ => ?_
  unfold ref01_Valid at h
  rw [call24]
  conv => arg 1; arg 7; unfold S22.c24 Try.f24; simp only [Option.getD_some]
  obtain ⟨v1, e_v1, h⟩ := ob h
  have e_v1c : call Try.prog T H (.fn 56) [.p (.agg [.sl none 1 (List.map rowI a0.Ranks)])] [] = some (.ret (.p (bv v1)), []) := spec56 a0 v1 e_v1
  by_cases c1 : v1 = true
  · have h := iteT h c1
    obtain ⟨v2, e_v2, h⟩ := ob h
    have e_v2c : call Try.prog T H (.fn 27) [.p (.agg [iv a1.Sym, .sl none 2 (List.map row_Tree a1.Kids)]), .p (iv 300)] [] = some (.ret (.p (bv v2)), []) := spec27 n a1 300 v2 e_v2
    by_cases c2 : v2 = true
    · have h := iteT h c2
      obtain ⟨v3, e_v3, h⟩ := ob h
      have e_v3c : call Try.prog T H (.fn 57) [.p (.agg [.sl none 1 (List.map rowI a0.Ranks)]), .p (.agg [iv a1.Sym, .sl none 2 (List.map row_Tree a1.Kids)])] [] = some (.ret (.p (bv v3)), []) := spec57 n a0 a1 v3 e_v3
      simp only [go_sem, e_v1c, c1, e_v2c, c2, e_v3c]
      injection h with h; subst h
      exact Sat.ok hQ
    · have h := iteF h c2
      have c2 := eq_false_of_ne_true c2
      simp only [go_sem, e_v1c, c1, e_v2c, c2]
      injection h with h; subst h
      exact Sat.ok hQ
  · have h := iteF h c1
    have c1 := eq_false_of_ne_true c1
    simp only [go_sem, e_v1c, c1]
    injection h with h; subst h
    exact Sat.ok hQ

def ref03_Valid (a0 : Alphabet) (a1 : Automaton) : Option Bool :=
  (ref01_ValidAlphabet a0).bind fun v1 =>
  if v1 = true then
    if a1.States < 0 then
      some false
    else
      if 300 < a1.States then
        some false
      else
        if 20000 < (a1.Rules.length : Int) then
          some false
        else
          rangeL a1.Final () (fun k1 i1 x1 (s1 : Unit) n1 =>
            if x1 < 0 then
              some false
            else
              if a1.States ≤ x1 then
                some false
              else
                if 0 < (i1 : Int) then
                  (idx a1.Final (w64 ((i1 : Int) - 1))).bind fun v3 =>
                  if x1 ≤ v3 then
                    some false
                  else
                    n1 ()
                else
                  n1 ()) fun s1 =>
          rangeL a1.Rules () (fun k3 i3 x3 (s3 : Unit) n3 =>
            if x3.Sym < 0 then
              some false
            else
              if (a0.Ranks.length : Int) ≤ x3.Sym then
                some false
              else
                (idx a0.Ranks x3.Sym).bind fun v2 =>
                if (x3.From.length : Int) = v2 then
                  if x3.To < 0 then
                    some false
                  else
                    if a1.States ≤ x3.To then
                      some false
                    else
                      rangeL x3.From () (fun k4 i4 x4 (s4 : Unit) n4 =>
                        if x4 < 0 then
                          some false
                        else
                          if a1.States ≤ x4 then
                            some false
                          else
                            n4 ()) fun s4 =>
                      n3 ()
                else
                  some false) fun s3 =>
          some true
  else
    some false
theorem spec67 (a0 : Alphabet) (a1 : Automaton) (r : Bool) (h : ref03_Valid a0 a1 = some r) :
    call Try.prog T H (.fn 67) [.p (.agg [.sl none 1 (List.map rowI a0.Ranks)]), .p (.agg [iv a1.States, .sl none 1 (List.map rowI a1.Final), .sl none 3 (List.map row_Rule a1.Rules)])] [] = some (.ret (.p (bv r)), []) := by
  refine Sat.fn fun Q hQ => ?_
  unfold ref03_Valid at h
  rw [call67]
  conv => arg 1; arg 7; unfold S22.c67 Try.f67; simp only [Option.getD_some]
  obtain ⟨v1, e_v1, h⟩ := ob h
  have e_v1c : call Try.prog T H (.fn 56) [.p (.agg [.sl none 1 (List.map rowI a0.Ranks)])] [] = some (.ret (.p (bv v1)), []) := spec56 a0 v1 e_v1
  by_cases c1 : v1 = true
  · have h := iteT h c1
    by_cases c2 : a1.States < 0
    · have h := iteT h c2
      simp only [go_sem, e_v1c, c1, c2]
      injection h with h; subst h
      exact Sat.ok hQ
    · have h := iteF h c2
      by_cases c3 : 300 < a1.States
      · have h := iteT h c3
        simp only [go_sem, e_v1c, c1, c2, c3]
        injection h with h; subst h
        exact Sat.ok hQ
      · have h := iteF h c3
        by_cases c4 : 20000 < (a1.Rules.length : Int)
        · have h := iteT h c4
          simp only [go_sem, e_v1c, c1, c2, c3, c4]
          injection h with h; subst h
          exact Sat.ok hQ
        · have h := iteF h c4
          simp only [go_sem, e_v1c, c1, c2, c3, c4]
          refine run_rangeL (c := L67_0) (live := [2, 3, 31, 32, 33]) (by simp only [go_sem]) (M := fun i1 (s1 : Unit) => [(2, .ptr 0 0), (3, .ptr 1 0), (31, .p (.sl none 1 (List.map rowI a1.Final))), (32, .p (iv (a1.Final.length : Int))), (33, .p (iv (i1 : Int)))]) (Z := fun i1 (s1 : Unit) => [.cells [.p (.sl none 1 (List.map rowI a0.Ranks))], .cells [.p (iv a1.States), .p (.sl none 1 (List.map rowI a1.Final)), .p (.sl none 3 (List.map row_Rule a1.Rules))]]) (N := fun (s1 : Unit) => ⟨[(2, .ptr 0 0), (3, .ptr 1 0)], [.cells [.p (.sl none 1 (List.map rowI a0.Ranks))], .cells [.p (iv a1.States), .p (.sl none 1 (List.map rowI a1.Final)), .p (.sl none 3 (List.map row_Rule a1.Rules))]], [], none, false⟩) h rfl rfl (fun _ _ => rfl) ?_ ?_ ?_
          · intro s1 h
            try dsimp only at h ⊢
            simp only [go_sem]
            refine run_rangeL (c := L67_2) (live := [2, 3, 62, 63, 64]) (by simp only [go_sem]) (M := fun i3 (s3 : Unit) => [(2, .ptr 0 0), (3, .ptr 1 0), (62, .p (.sl none 3 (List.map row_Rule a1.Rules))), (63, .p (iv (a1.Rules.length : Int))), (64, .p (iv (i3 : Int)))]) (Z := fun i3 (s3 : Unit) => [.cells [.p (.sl none 1 (List.map rowI a0.Ranks))], .cells [.p (iv a1.States), .p (.sl none 1 (List.map rowI a1.Final)), .p (.sl none 3 (List.map row_Rule a1.Rules))]]) (N := fun (s3 : Unit) => ⟨[], [.cells [.p (.sl none 1 (List.map rowI a0.Ranks))], .cells [.p (iv a1.States), .p (.sl none 1 (List.map rowI a1.Final)), .p (.sl none 3 (List.map row_Rule a1.Rules))]], [], none, false⟩) h rfl rfl (fun _ _ => rfl) ?_ ?_ ?_
            · intro s3 h
              try dsimp only at h ⊢
              simp only [go_sem]
              injection h with h; subst h
              exact Sat.ok hQ
            · intro K3 s3 hb3 he3
              try dsimp only
              conv => arg 1; arg 7; unfold L67_2 loopAt S22.c67 Try.f67; simp only [loopIn, Option.getD_some, if_true]
              simp only [go_sem, he3]
              exact hb3
            · intro K3 k3 i3 x3 s3 n3 hR3 hE3 hb3 hx3 hi3 hw3 ih3 h
              try dsimp only at h ⊢
              conv => arg 1; arg 7; unfold L67_2 loopAt S22.c67 Try.f67; simp only [loopIn, Option.getD_some, if_true]
              by_cases c5 : x3.Sym < 0
              · have h := iteT h c5
                simp only [go_sem, hx3, hi3, hw3, c5, hR3, hE3]
                injection h with h; subst h
                exact Sat.ok hQ
              · have h := iteF h c5
                by_cases c6 : (a0.Ranks.length : Int) ≤ x3.Sym
                · have h := iteT h c6
                  simp only [go_sem, hx3, hi3, hw3, c5, c6, hR3, hE3]
                  injection h with h; subst h
                  exact Sat.ok hQ
                · have h := iteF h c6
                  obtain ⟨v2, e_v2, h⟩ := ob h
                  obtain ⟨e_v2a, e_v2b⟩ := idx_some e_v2
                  by_cases c7 : (x3.From.length : Int) = v2
                  · have h := iteT h c7
                    have c7b : ((x3.From.length : Int) != v2) = false := bneF c7
                    by_cases c8 : x3.To < 0
                    · have h := iteT h c8
                      simp only [go_sem, hx3, hi3, hw3, c5, c6, e_v2a, e_v2b, c7b, c8, hR3, hE3]
                      injection h with h; subst h
                      exact Sat.ok hQ
                    · have h := iteF h c8
                      by_cases c9 : a1.States ≤ x3.To
                      · have h := iteT h c9
                        simp only [go_sem, hx3, hi3, hw3, c5, c6, e_v2a, e_v2b, c7b, c8, c9, hR3, hE3]
                        injection h with h; subst h
                        exact Sat.ok hQ
                      · have h := iteF h c9
                        simp only [go_sem, hx3, hi3, hw3, c5, c6, e_v2a, e_v2b, c7b, c8, c9, hR3, hE3]
                        refine run_rangeL (c := L67_4) (live := [2, 3, 62, 63, 64, 104, 105, 106]) (by simp only [go_sem]) (M := fun i4 (s4 : Unit) => [(2, .ptr 0 0), (3, .ptr 1 0), (62, .p (.sl none 3 (List.map row_Rule a1.Rules))), (63, .p (iv (a1.Rules.length : Int))), (64, .p (iv (i3 : Int))), (104, .p (.sl none 1 (List.map rowI x3.From))), (105, .p (iv (x3.From.length : Int))), (106, .p (iv (i4 : Int)))]) (Z := fun i4 (s4 : Unit) => [.cells [.p (.sl none 1 (List.map rowI a0.Ranks))], .cells [.p (iv a1.States), .p (.sl none 1 (List.map rowI a1.Final)), .p (.sl none 3 (List.map row_Rule a1.Rules))], .cells [.p (iv x3.Sym), .p (.sl none 1 (List.map rowI x3.From)), .p (iv x3.To)]]) (N := fun (s4 : Unit) => ⟨[(2, .ptr 0 0), (3, .ptr 1 0), (62, .p (.sl none 3 (List.map row_Rule a1.Rules))), (63, .p (iv (a1.Rules.length : Int))), (64, .p (iv (i3 : Int)))], [.cells [.p (.sl none 1 (List.map rowI a0.Ranks))], .cells [.p (iv a1.States), .p (.sl none 1 (List.map rowI a1.Final)), .p (.sl none 3 (List.map row_Rule a1.Rules))], .cells [.p (iv x3.Sym), .p (.sl none 1 (List.map rowI x3.From)), .p (iv x3.To)]], [], none, false⟩) h rfl rfl (fun _ _ => rfl) ?_ ?_ ?_
                        · intro s4 h
                          try dsimp only at h ⊢
                          simp only [go_sem, hw3, hR3, hE3]
                          exact ih3 () h
                        · intro K4 s4 hb4 he4
                          try dsimp only
                          conv => arg 1; arg 7; unfold L67_4 loopAt S22.c67 Try.f67; simp only [loopIn, Option.getD_some, if_true]
                          simp only [go_sem, he4]
                          exact hb4
                        · intro K4 k4 i4 x4 s4 n4 hR4 hE4 hb4 hx4 hi4 hw4 ih4 h
                          try dsimp only at h ⊢
                          conv => arg 1; arg 7; unfold L67_4 loopAt S22.c67 Try.f67; simp only [loopIn, Option.getD_some, if_true]
                          by_cases c10 : x4 < 0
                          · have h := iteT h c10
                            simp only [go_sem, hx4, hi4, hw4, c10, hw3, hR3, hE3, hR4, hE4]
                            injection h with h; subst h
                            exact Sat.ok hQ
                          · have h := iteF h c10
                            by_cases c11 : a1.States ≤ x4
                            · have h := iteT h c11
                              simp only [go_sem, hx4, hi4, hw4, c10, c11, hw3, hR3, hE3, hR4, hE4]
                              injection h with h; subst h
                              exact Sat.ok hQ
                            · have h := iteF h c11
                              simp only [go_sem, hx4, hi4, hw4, c10, c11, hw3, hR3, hE3, hR4, hE4]
                              exact ih4 () h
                  · have h := iteF h c7
                    have c7b : ((x3.From.length : Int) != v2) = true := bneT c7
                    simp only [go_sem, hx3, hi3, hw3, c5, c6, e_v2a, e_v2b, c7b, hR3, hE3]
                    injection h with h; subst h
                    exact Sat.ok hQ
          · intro K1 s1 hb1 he1
            try dsimp only
            conv => arg 1; arg 7; unfold L67_0 loopAt S22.c67 Try.f67; simp only [loopIn, Option.getD_some, if_true]
            simp only [go_sem, he1]
            exact hb1
          · intro K1 k1 i1 x1 s1 n1 hR1 hE1 hb1 hx1 hi1 hw1 ih1 h
            try dsimp only at h ⊢
            conv => arg 1; arg 7; unfold L67_0 loopAt S22.c67 Try.f67; simp only [loopIn, Option.getD_some, if_true]
            by_cases c12 : x1 < 0
            · have h := iteT h c12
              simp only [go_sem, hx1, hi1, hw1, c12, hR1, hE1]
              injection h with h; subst h
              exact Sat.ok hQ
            · have h := iteF h c12
              by_cases c13 : a1.States ≤ x1
              · have h := iteT h c13
                simp only [go_sem, hx1, hi1, hw1, c12, c13, hR1, hE1]
                injection h with h; subst h
                exact Sat.ok hQ
              · have h := iteF h c13
                by_cases c14 : 0 < (i1 : Int)
                · have h := iteT h c14
                  obtain ⟨v3, e_v3, h⟩ := ob h
                  obtain ⟨e_v3a, e_v3b⟩ := idx_some e_v3
                  by_cases c15 : x1 ≤ v3
                  · have h := iteT h c15
                    simp only [go_sem, hx1, hi1, hw1, c12, c13, c14, e_v3a, e_v3b, c15, hR1, hE1]
                    injection h with h; subst h
                    exact Sat.ok hQ
                  · have h := iteF h c15
                    simp only [go_sem, hx1, hi1, hw1, c12, c13, c14, e_v3a, e_v3b, c15, hR1, hE1]
                    exact ih1 () h
                · have h := iteF h c14
                  simp only [go_sem, hx1, hi1, hw1, c12, c13, c14, hR1, hE1]
                  exact ih1 () h
  · have h := iteF h c1
    have c1 := eq_false_of_ne_true c1
    simp only [go_sem, e_v1c, c1]
    injection h with h; subst h
    exact Sat.ok hQ

def ref22_Asked (n : Nat) (a0 : Alphabet) (a1 : Automaton) (a2 : Tree) : Option Int :=
  (ref03_Valid a0 a1).bind fun v1 =>
  if v1 = true then
    (ref01_Valid n a0 a2).bind fun v2 =>
    if v2 = true then
      some 0
    else
      some 1
  else
    some 1
theorem spec34 (n : Nat) (a0 : Alphabet) (a1 : Automaton) (a2 : Tree) (r : Int) (h : ref22_Asked n a0 a1 a2 = some r) :
    call Try.prog T H (.fn 34) [.p (.agg [.sl none 1 (List.map rowI a0.Ranks)]), .p (.agg [iv a1.States, .sl none 1 (List.map rowI a1.Final), .sl none 3 (List.map row_Rule a1.Rules)]), .p (.agg [iv a2.Sym, .sl none 2 (List.map row_Tree a2.Kids)])] [] = some (.ret (.p (iv r)), []) := by
  refine Sat.fn fun Q hQ => ?_
  unfold ref22_Asked at h
  rw [call34]
  conv => arg 1; arg 7; unfold S22.c34 Try.f34; simp only [Option.getD_some]
  obtain ⟨v1, e_v1, h⟩ := ob h
  have e_v1c : call Try.prog T H (.fn 67) [.p (.agg [.sl none 1 (List.map rowI a0.Ranks)]), .p (.agg [iv a1.States, .sl none 1 (List.map rowI a1.Final), .sl none 3 (List.map row_Rule a1.Rules)])] [] = some (.ret (.p (bv v1)), []) := spec67 a0 a1 v1 e_v1
  by_cases c1 : v1 = true
  · have h := iteT h c1
    obtain ⟨v2, e_v2, h⟩ := ob h
    have e_v2c : call Try.prog T H (.fn 24) [.p (.agg [.sl none 1 (List.map rowI a0.Ranks)]), .p (.agg [iv a2.Sym, .sl none 2 (List.map row_Tree a2.Kids)])] [] = some (.ret (.p (bv v2)), []) := spec24 n a0 a2 v2 e_v2
    by_cases c2 : v2 = true
    · have h := iteT h c2
      simp only [go_sem, e_v1c, c1, e_v2c, c2]
      injection h with h; subst h
      exact Sat.ok hQ
    · have h := iteF h c2
      have c2 := eq_false_of_ne_true c2
      simp only [go_sem, e_v1c, c1, e_v2c, c2]
      injection h with h; subst h
      exact Sat.ok hQ
  · have h := iteF h c1
    have c1 := eq_false_of_ne_true c1
    simp only [go_sem, e_v1c, c1]
    injection h with h; subst h
    exact Sat.ok hQ

def ref01_Size : Nat → Tree → Option Int
  | 0, _ => none
  | n + 1, a0 =>
    rangeL a0.Kids 1 (fun k1 i1 x1 (s1 : Int) n1 =>
      (ref01_Size n x1).bind fun v1 =>
      n1 (w64 (s1 + v1))) fun s1 =>
    some s1
theorem spec23 : ∀ (n : Nat), (∀ (a0 : Tree) (r : Int), ref01_Size n a0 = some r →
    call Try.prog T H (.fn 23) [.p (.agg [iv a0.Sym, .sl none 2 (List.map row_Tree a0.Kids)])] [] = some (.ret (.p (iv r)), [])) := by
  intro n
  induction n with
  | zero => intro a0 r h; cases h
  | succ n ih =>
    intro a0 r h
    refine Sat.fn fun Q hQ => ?_
    rw [ref01_Size] at h
    rw [call23]
    conv => arg 1; arg 7; unfold S22.c23 Try.f23; simp only [Option.getD_some]
    simp only [go_sem]
    refine run_rangeL (c := L23_0) (live := [3, 7, 8, 9]) (by simp only [go_sem]) (M := fun i1 (s1 : Int) => [(3, .p (iv s1)), (7, .p (.sl none 2 (List.map row_Tree a0.Kids))), (8, .p (iv (a0.Kids.length : Int))), (9, .p (iv (i1 : Int)))]) (Z := fun i1 (s1 : Int) => [.cells [.p (iv a0.Sym), .p (.sl none 2 (List.map row_Tree a0.Kids))]]) (N := fun (s1 : Int) => ⟨[(3, .p (iv s1))], [.cells [.p (iv a0.Sym), .p (.sl none 2 (List.map row_Tree a0.Kids))]], [], none, false⟩) h rfl rfl (fun _ _ => rfl) ?_ ?_ ?_
    · intro s1 h
      try dsimp only at h ⊢
      simp only [go_sem]
      injection h with h; subst h
      exact Sat.ok hQ
    · intro K1 s1 hb1 he1
      try dsimp only
      conv => arg 1; arg 7; unfold L23_0 loopAt S22.c23 Try.f23; simp only [loopIn, Option.getD_some, if_true]
      simp only [go_sem, he1]
      exact hb1
    · intro K1 k1 i1 x1 s1 n1 hR1 hE1 hb1 hx1 hi1 hw1 ih1 h
      try dsimp only at h ⊢
      conv => arg 1; arg 7; unfold L23_0 loopAt S22.c23 Try.f23; simp only [loopIn, Option.getD_some, if_true]
      obtain ⟨v1, e_v1, h⟩ := ob h
      have e_v1c : call Try.prog T H (.fn 23) [.p (.agg [iv x1.Sym, .sl none 2 (List.map row_Tree x1.Kids)])] [] = some (.ret (.p (iv v1)), []) := ih x1 v1 e_v1
      simp only [go_sem, hx1, hi1, hw1, e_v1c, hR1, hE1]
      exact ih1 (w64 (s1 + v1)) h

def ref01_order (a0 : Int) (a1 : Int) : Option Int :=
  if a0 < a1 then
    some (-1)
  else
    if a1 < a0 then
      some 1
    else
      some 0
theorem spec93 (a0 : Int) (a1 : Int) (r : Int) (h : ref01_order a0 a1 = some r) :
    call Try.prog T H (.fn 93) [.p (iv a0), .p (iv a1)] [] = some (.ret (.p (iv r)), []) := by
  refine Sat.fn fun Q hQ => ?_
  unfold ref01_order at h
  rw [call93]
  conv => arg 1; arg 7; unfold S22.c93 Try.f93; simp only [Option.getD_some]
  by_cases c1 : a0 < a1
  · have h := iteT h c1
    simp only [go_sem, c1]
    injection h with h; subst h
    exact Sat.ok hQ
  · have h := iteF h c1
    by_cases c2 : a1 < a0
    · have h := iteT h c2
      simp only [go_sem, c1, c2]
      injection h with h; subst h
      exact Sat.ok hQ
    · have h := iteF h c2
      simp only [go_sem, c1, c2]
      injection h with h; subst h
      exact Sat.ok hQ

def ref01_Compare : Nat → Tree → Tree → Option Int
  | 0, _, _ => none
  | n + 1, a0, a1 =>
    (ref01_Size n a0).bind fun v1 =>
    (ref01_Size n a1).bind fun v2 =>
    (ref01_order v1 v2).bind fun v3 =>
    if v3 = 0 then
      (ref01_order a0.Sym a1.Sym).bind fun v4 =>
      if v4 = 0 then
        rangeI (minI (a0.Kids.length : Int) (a1.Kids.length : Int)) () (fun k1 i1 (s1 : Unit) n1 =>
          (a0.Kids[i1]?).bind fun v6 =>
          (a1.Kids[i1]?).bind fun v7 =>
          (ref01_Compare n v6 v7).bind fun v8 =>
          if v8 = 0 then
            n1 ()
          else
            some v8) fun s1 =>
        (ref01_order (a0.Kids.length : Int) (a1.Kids.length : Int)).bind fun v5 =>
        some v5
      else
        some v4
    else
      some v3
theorem spec68 : ∀ (n : Nat), (∀ (a0 : Tree) (a1 : Tree) (r : Int), ref01_Compare n a0 a1 = some r →
    call Try.prog T H (.fn 68) [.p (.agg [iv a0.Sym, .sl none 2 (List.map row_Tree a0.Kids)]), .p (.agg [iv a1.Sym, .sl none 2 (List.map row_Tree a1.Kids)])] [] = some (.ret (.p (iv r)), [])) := by
  intro n
  induction n with
  | zero => intro a0 a1 r h; cases h
  | succ n ih =>
    intro a0 a1 r h
    refine Sat.fn fun Q hQ => ?_
    rw [ref01_Compare] at h
    rw [call68]
    conv => arg 1; arg 7; unfold S22.c68 Try.f68; simp only [Option.getD_some]
    obtain ⟨v1, e_v1, h⟩ := ob h
    have e_v1c : call Try.prog T H (.fn 23) [.p (.agg [iv a0.Sym, .sl none 2 (List.map row_Tree a0.Kids)])] [] = some (.ret (.p (iv v1)), []) := spec23 n a0 v1 e_v1
    obtain ⟨v2, e_v2, h⟩ := ob h
    have e_v2c : call Try.prog T H (.fn 23) [.p (.agg [iv a1.Sym, .sl none 2 (List.map row_Tree a1.Kids)])] [] = some (.ret (.p (iv v2)), []) := spec23 n a1 v2 e_v2
    obtain ⟨v3, e_v3, h⟩ := ob h
    have e_v3c : call Try.prog T H (.fn 93) [.p (iv v1), .p (iv v2)] [] = some (.ret (.p (iv v3)), []) := spec93 v1 v2 v3 e_v3
    by_cases c1 : v3 = 0
    · have h := iteT h c1
      have c1b : (v3 != 0) = false := bneF c1
      obtain ⟨v4, e_v4, h⟩ := ob h
      have e_v4c : call Try.prog T H (.fn 93) [.p (iv a0.Sym), .p (iv a1.Sym)] [] = some (.ret (.p (iv v4)), []) := spec93 a0.Sym a1.Sym v4 e_v4
      by_cases c2 : v4 = 0
      · have h := iteT h c2
        have c2b : (v4 != 0) = false := bneF c2
        simp only [go_sem, e_v1c, e_v2c, e_v3c, c1b, e_v4c, c2b]
        refine run_rangeI (c := L68_0) (live := [2, 3, 31, 32]) (by simp only [go_sem]) (M := fun i1 (s1 : Unit) => [(2, .ptr 0 0), (3, .ptr 1 0), (31, .p (iv (minI (a0.Kids.length : Int) (a1.Kids.length : Int)))), (32, .p (iv (i1 : Int)))]) (Z := fun i1 (s1 : Unit) => [.cells [.p (iv a0.Sym), .p (.sl none 2 (List.map row_Tree a0.Kids))], .cells [.p (iv a1.Sym), .p (.sl none 2 (List.map row_Tree a1.Kids))]]) (N := fun (s1 : Unit) => ⟨[(2, .ptr 0 0), (3, .ptr 1 0)], [.cells [.p (iv a0.Sym), .p (.sl none 2 (List.map row_Tree a0.Kids))], .cells [.p (iv a1.Sym), .p (.sl none 2 (List.map row_Tree a1.Kids))]], [], none, false⟩) h rfl rfl (fun _ _ => rfl) ?_ ?_ ?_
        · intro s1 h
          try dsimp only at h ⊢
          obtain ⟨v5, e_v5, h⟩ := ob h
          have e_v5c : call Try.prog T H (.fn 93) [.p (iv (a0.Kids.length : Int)), .p (iv (a1.Kids.length : Int))] [] = some (.ret (.p (iv v5)), []) := spec93 (a0.Kids.length : Int) (a1.Kids.length : Int) v5 e_v5
          simp only [go_sem, e_v5c]
          injection h with h; subst h
          exact Sat.ok hQ
        · intro K1 i1 s1 hb1 he1
          try dsimp only
          conv => arg 1; arg 7; unfold L68_0 loopAt S22.c68 Try.f68; simp only [loopIn, Option.getD_some, if_true]
          simp only [go_sem, he1]
          exact hb1
        · intro K1 k1 i1 s1 n1 hR1 hE1 hb1 hi1 hw1 ih1 h
          try dsimp only at h ⊢
          conv => arg 1; arg 7; unfold L68_0 loopAt S22.c68 Try.f68; simp only [loopIn, Option.getD_some, if_true]
          obtain ⟨v6, e_v6, h⟩ := ob h
          obtain ⟨v7, e_v7, h⟩ := ob h
          obtain ⟨v8, e_v8, h⟩ := ob h
          have e_v8c : call Try.prog T H (.fn 68) [.p (.agg [iv v6.Sym, .sl none 2 (List.map row_Tree v6.Kids)]), .p (.agg [iv v7.Sym, .sl none 2 (List.map row_Tree v7.Kids)])] [] = some (.ret (.p (iv v8)), []) := ih v6 v7 v8 e_v8
          by_cases c3 : v8 = 0
          · have h := iteT h c3
            have c3b : (v8 != 0) = false := bneF c3
            simp only [go_sem, hi1, hw1, e_v6, e_v7, e_v8c, c3b, hR1, hE1]
            exact ih1 () h
          · have h := iteF h c3
            have c3b : (v8 != 0) = true := bneT c3
            simp only [go_sem, hi1, hw1, e_v6, e_v7, e_v8c, c3b, hR1, hE1]
            injection h with h; subst h
            exact Sat.ok hQ
      · have h := iteF h c2
        have c2b : (v4 != 0) = true := bneT c2
        simp only [go_sem, e_v1c, e_v2c, e_v3c, c1b, e_v4c, c2b]
        injection h with h; subst h
        exact Sat.ok hQ
    · have h := iteF h c1
      have c1b : (v3 != 0) = true := bneT c1
      simp only [go_sem, e_v1c, e_v2c, e_v3c, c1b]
      injection h with h; subst h
      exact Sat.ok hQ

def ref22_choice_less (n : Nat) (a0 : ref22_choice) (a1 : ref22_choice) : Option Bool :=
  if a1.some = true then
    if a0.n = a1.n then
      (ref01_Compare n a0.t a1.t).bind fun v1 =>
      some (decide (v1 < 0))
    else
      some (decide (a0.n < a1.n))
  else
    some true
theorem spec36 (n : Nat) (a0 : ref22_choice) (a1 : ref22_choice) (r : Bool) (h : ref22_choice_less n a0 a1 = some r) :
    call Try.prog T H (.fn 36) [.p (.agg [bv a0.some, iv a0.n, iv a0.t.Sym, .sl none 2 (List.map row_Tree a0.t.Kids)]), .p (.agg [bv a1.some, iv a1.n, iv a1.t.Sym, .sl none 2 (List.map row_Tree a1.t.Kids)])] [] = some (.ret (.p (bv r)), []) := by
  refine Sat.fn fun Q hQ => ?_
  unfold ref22_choice_less at h
  rw [call36]
  conv => arg 1; arg 7; unfold S22.c36 Try.f36; simp only [Option.getD_some]
  by_cases c1 : a1.some = true
  · have h := iteT h c1
    by_cases c2 : a0.n = a1.n
    · have h := iteT h c2
      have c2b : (a0.n != a1.n) = false := bneF c2
      obtain ⟨v1, e_v1, h⟩ := ob h
      have e_v1c : call Try.prog T H (.fn 68) [.p (.agg [iv a0.t.Sym, .sl none 2 (List.map row_Tree a0.t.Kids)]), .p (.agg [iv a1.t.Sym, .sl none 2 (List.map row_Tree a1.t.Kids)])] [] = some (.ret (.p (iv v1)), []) := spec68 n a0.t a1.t v1 e_v1
      simp only [go_sem, c1, c2b, e_v1c]
      injection h with h; subst h
      exact Sat.ok hQ
    · have h := iteF h c2
      have c2b : (a0.n != a1.n) = true := bneT c2
      simp only [go_sem, c1, c2b]
      injection h with h; subst h
      exact Sat.ok hQ
  · have h := iteF h c1
    have c1 := eq_false_of_ne_true c1
    simp only [go_sem, c1]
    injection h with h; subst h
    exact Sat.ok hQ

def ref22_choices : Nat → Automaton → Tree → Option (List ref22_choice)
  | 0, _, _ => none
  | n + 1, a0, a1 =>
    rangeL a1.Kids ([] : List (List ref22_choice)) (fun k1 i1 x1 (s1 : (List (List ref22_choice))) n1 =>
      (ref22_choices n a0 x1).bind fun v15 =>
      (app 24 s1 [v15]).bind fun v16 =>
      n1 v16) fun s1 =>
    (mkz 48 a0.States a0.States (ref22_choice.mk false 0 (Tree.mk 0 ([] : List Tree)))).bind fun v1 =>
    rangeL a0.Rules v1 (fun k6 i6 x6 (s6 : (List ref22_choice)) n6 =>
      if (x6.From.length : Int) = (a1.Kids.length : Int) then
        if x6.Sym = a1.Sym then
          rangeL x6.From (true, 0, ([] : List Tree)) (fun k7 i7 x7 (s7 : Bool × Int × (List Tree)) n7 =>
            (s1[i7]?).bind fun v5 =>
            (idx v5 x7).bind fun v6 =>
            if s7.1 = true then
              (app 32 s7.2.2 [v6.t]).bind fun v7 =>
              n7 (v6.some, w64 (s7.2.1 + v6.n), v7)
            else
              (app 32 s7.2.2 [v6.t]).bind fun v8 =>
              n7 (false, w64 (s7.2.1 + v6.n), v8)) fun s7 =>
          if s7.1 = true then
            (idxM ((a0.States).toNat) s6 x6.To).bind fun v3 =>
            (ref22_choice_less n (ref22_choice.mk true s7.2.1 (Tree.mk x6.Sym s7.2.2)) v3).bind fun v4 =>
            if v4 = true then
              n6 (List.set s6 ((x6.To).toNat) (ref22_choice.mk true s7.2.1 (Tree.mk x6.Sym s7.2.2)))
            else
              n6 s6
          else
            n6 s6
        else
          rangeL x6.From (true, 1, ([] : List Tree)) (fun k8 i8 x8 (s8 : Bool × Int × (List Tree)) n8 =>
            (s1[i8]?).bind fun v11 =>
            (idx v11 x8).bind fun v12 =>
            if s8.1 = true then
              (app 32 s8.2.2 [v12.t]).bind fun v13 =>
              n8 (v12.some, w64 (s8.2.1 + v12.n), v13)
            else
              (app 32 s8.2.2 [v12.t]).bind fun v14 =>
              n8 (false, w64 (s8.2.1 + v12.n), v14)) fun s8 =>
          if s8.1 = true then
            (idxM ((a0.States).toNat) s6 x6.To).bind fun v9 =>
            (ref22_choice_less n (ref22_choice.mk true s8.2.1 (Tree.mk x6.Sym s8.2.2)) v9).bind fun v10 =>
            if v10 = true then
              n6 (List.set s6 ((x6.To).toNat) (ref22_choice.mk true s8.2.1 (Tree.mk x6.Sym s8.2.2)))
            else
              n6 s6
          else
            n6 s6
      else
        n6 s6) fun s6 =>
    (tkM ((a0.States).toNat) s6).bind fun v2 =>
    some v2
theorem spec35 : ∀ (n : Nat), (∀ (a0 : Automaton) (a1 : Tree) (r : List ref22_choice), ref22_choices n a0 a1 = some r →
    call Try.prog T H (.fn 35) [.p (.agg [iv a0.States, .sl none 1 (List.map rowI a0.Final), .sl none 3 (List.map row_Rule a0.Rules)]), .p (.agg [iv a1.Sym, .sl none 2 (List.map row_Tree a1.Kids)])] [] = some (.ret (.p (.sl none 4 (List.map row_ref22_choice r))), [])) := by
  intro n
  induction n with
  | zero => intro a0 a1 r h; cases h
  | succ n ih =>
    intro a0 a1 r h
    refine Sat.fn fun Q hQ => ?_
    rw [ref22_choices] at h
    rw [call35]
    conv => arg 1; arg 7; unfold S22.c35 Try.f35; simp only [Option.getD_some]
    simp only [go_sem]
    refine run_rangeL (c := L35_0) (live := [2, 3, 5, 16, 17, 18]) (by simp only [go_sem]) (M := fun i1 (s1 : (List (List ref22_choice))) => [(2, .ptr 0 0), (3, .ptr 1 0), (5, .own 1 (List.map (rowL 4 row_ref22_choice) s1)), (16, .p (.sl none 2 (List.map row_Tree a1.Kids))), (17, .p (iv (a1.Kids.length : Int))), (18, .p (iv (i1 : Int)))]) (Z := fun i1 (s1 : (List (List ref22_choice))) => [.cells [.p (iv a0.States), .p (.sl none 1 (List.map rowI a0.Final)), .p (.sl none 3 (List.map row_Rule a0.Rules))], .cells [.p (iv a1.Sym), .p (.sl none 2 (List.map row_Tree a1.Kids))]]) (N := fun (s1 : (List (List ref22_choice))) => ⟨[(2, .ptr 0 0), (3, .ptr 1 0), (5, .own 1 (List.map (rowL 4 row_ref22_choice) s1))], [.cells [.p (iv a0.States), .p (.sl none 1 (List.map rowI a0.Final)), .p (.sl none 3 (List.map row_Rule a0.Rules))], .cells [.p (iv a1.Sym), .p (.sl none 2 (List.map row_Tree a1.Kids))]], [], none, false⟩) h rfl rfl (fun _ _ => rfl) ?_ ?_ ?_
    · intro s1 h
      try dsimp only at h ⊢
      obtain ⟨v1, e_v1, h⟩ := ob h
      obtain ⟨e_v11, e_v12, e_v13, e_v14⟩ := mkz_some e_v1
      have e_v1b : boundOk (a0.States).toNat 48 = true := bnd_of e_v13 (by decide)
      have e_v1r : List.replicate (a0.States).toNat [AV.p (bv false), AV.p (iv 0), AV.p (iv 0), AV.p (.sl none 2 [])] = List.map (rowA row_ref22_choice) v1 := by rw [e_v14]; exact rep_map (by first | rfl | simp only [go_sem, List.map_nil])
      simp only [go_sem, e_v11, e_v12, e_v1b, e_v1r]
      refine run_rangeL (c := L35_2) (live := [3, 5, 8, 33, 34, 35]) (by simp only [go_sem]) (M := fun i6 (s6 : (List ref22_choice)) => [(3, .ptr 1 0), (5, .own 1 (List.map (rowL 4 row_ref22_choice) s1)), (8, .ms 2 0 4 0 ((a0.States).toNat)), (33, .p (.sl none 3 (List.map row_Rule a0.Rules))), (34, .p (iv (a0.Rules.length : Int))), (35, .p (iv (i6 : Int)))]) (Z := fun i6 (s6 : (List ref22_choice)) => [.cells [.p (iv a0.States), .p (.sl none 1 (List.map rowI a0.Final)), .p (.sl none 3 (List.map row_Rule a0.Rules))], .cells [.p (iv a1.Sym), .p (.sl none 2 (List.map row_Tree a1.Kids))], .arr 0 4 (List.map (rowA row_ref22_choice) s6)]) (N := fun (s6 : (List ref22_choice)) => ⟨[(8, .ms 2 0 4 0 ((a0.States).toNat))], [.cells [.p (iv a0.States), .p (.sl none 1 (List.map rowI a0.Final)), .p (.sl none 3 (List.map row_Rule a0.Rules))], .cells [.p (iv a1.Sym), .p (.sl none 2 (List.map row_Tree a1.Kids))], .arr 0 4 (List.map (rowA row_ref22_choice) s6)], [], none, false⟩) h rfl rfl (fun _ _ => rfl) ?_ ?_ ?_
      · intro s6 h
        try dsimp only at h ⊢
        obtain ⟨v2, e_v2, h⟩ := ob h
        have e_v2a := (tkM_some e_v2).1
        have e_v2b := (tkM_some e_v2).2
        simp only [go_sem, e_v2a, e_v2b]
        injection h with h; subst h
        exact Sat.ok hQ
      · intro K6 s6 hb6 he6
        try dsimp only
        conv => arg 1; arg 7; unfold L35_2 loopAt S22.c35 Try.f35; simp only [loopIn, Option.getD_some, if_true]
        simp only [go_sem, he6]
        exact hb6
      · intro K6 k6 i6 x6 s6 n6 hR6 hE6 hb6 hx6 hi6 hw6 ih6 h
        try dsimp only at h ⊢
        conv => arg 1; arg 7; unfold L35_2 loopAt S22.c35 Try.f35; simp only [loopIn, Option.getD_some, if_true]
        by_cases c1 : (x6.From.length : Int) = (a1.Kids.length : Int)
        · have h := iteT h c1
          have c1b : ((x6.From.length : Int) != (a1.Kids.length : Int)) = false := bneF c1
          by_cases c2 : x6.Sym = a1.Sym
          · have h := iteT h c2
            have c2b : (x6.Sym != a1.Sym) = false := bneF c2
            simp only [go_sem, hx6, hi6, hw6, c1b, c2b, hR6, hE6]
            refine run_rangeL (c := L35_4) (live := [3, 5, 8, 10, 11, 33, 34, 35, 57, 58, 59]) (by simp only [go_sem]) (M := fun i7 (s7 : Bool × Int × (List Tree)) => [(3, .ptr 1 0), (5, .own 1 (List.map (rowL 4 row_ref22_choice) s1)), (8, .ms 2 0 4 0 ((a0.States).toNat)), (10, .ptr 3 0), (11, .ptr 4 0), (33, .p (.sl none 3 (List.map row_Rule a0.Rules))), (34, .p (iv (a0.Rules.length : Int))), (35, .p (iv (i6 : Int))), (57, .p (.sl none 1 (List.map rowI x6.From))), (58, .p (iv (x6.From.length : Int))), (59, .p (iv (i7 : Int)))]) (Z := fun i7 (s7 : Bool × Int × (List Tree)) => [.cells [.p (iv a0.States), .p (.sl none 1 (List.map rowI a0.Final)), .p (.sl none 3 (List.map row_Rule a0.Rules))], .cells [.p (iv a1.Sym), .p (.sl none 2 (List.map row_Tree a1.Kids))], .arr 0 4 (List.map (rowA row_ref22_choice) s6), .cells [.p (iv x6.Sym), .p (.sl none 1 (List.map rowI x6.From)), .p (iv x6.To)], .cells [.p (bv s7.1), .p (iv s7.2.1), .p (iv x6.Sym), .own 2 (List.map row_Tree s7.2.2)]]) (N := fun (s7 : Bool × Int × (List Tree)) => ⟨[(3, .ptr 1 0), (5, .own 1 (List.map (rowL 4 row_ref22_choice) s1)), (8, .ms 2 0 4 0 ((a0.States).toNat)), (10, .ptr 3 0), (11, .ptr 4 0), (33, .p (.sl none 3 (List.map row_Rule a0.Rules))), (34, .p (iv (a0.Rules.length : Int))), (35, .p (iv (i6 : Int)))], [.cells [.p (iv a0.States), .p (.sl none 1 (List.map rowI a0.Final)), .p (.sl none 3 (List.map row_Rule a0.Rules))], .cells [.p (iv a1.Sym), .p (.sl none 2 (List.map row_Tree a1.Kids))], .arr 0 4 (List.map (rowA row_ref22_choice) s6), .cells [.p (iv x6.Sym), .p (.sl none 1 (List.map rowI x6.From)), .p (iv x6.To)], .cells [.p (bv s7.1), .p (iv s7.2.1), .p (iv x6.Sym), .own 2 (List.map row_Tree s7.2.2)]], [], none, false⟩) h rfl rfl (fun _ _ => rfl) ?_ ?_ ?_
            · intro s7 h
              try dsimp only at h ⊢
              by_cases c3 : s7.1 = true
              · have h := iteT h c3
                obtain ⟨v3, e_v3, h⟩ := ob h
                obtain ⟨e_v3a, e_v3b, e_v3d⟩ := idxM_some e_v3
                obtain ⟨v4, e_v4, h⟩ := ob h
                have e_v4c : call Try.prog T H (.fn 36) [.p (.agg [bv true, iv s7.2.1, iv x6.Sym, .sl none 2 (List.map row_Tree s7.2.2)]), .p (.agg [bv v3.some, iv v3.n, iv v3.t.Sym, .sl none 2 (List.map row_Tree v3.t.Kids)])] [] = some (.ret (.p (bv v4)), []) := spec36 n (ref22_choice.mk true s7.2.1 (Tree.mk x6.Sym s7.2.2)) v3 v4 e_v4
                by_cases c4 : v4 = true
                · have h := iteT h c4
                  have e_y1 : List.set (List.map (rowA row_ref22_choice) s6) ((x6.To).toNat) [.p (bv true), .p (iv s7.2.1), .p (iv x6.Sym), .p (.sl none 2 (List.map row_Tree s7.2.2))] = List.map (rowA row_ref22_choice) (List.set s6 ((x6.To).toNat) (ref22_choice.mk true s7.2.1 (Tree.mk x6.Sym s7.2.2))) := map_set' (by first | rfl | simp only [go_sem, List.map_cons, List.map_nil])
                  simp only [go_sem, c3, e_v3a, e_v3b, e_v3d, e_v4c, c4, e_y1, hw6, hR6, hE6]
                  exact ih6 (List.set s6 ((x6.To).toNat) (ref22_choice.mk true s7.2.1 (Tree.mk x6.Sym s7.2.2))) h
                · have h := iteF h c4
                  have c4 := eq_false_of_ne_true c4
                  simp only [go_sem, c3, e_v3a, e_v3b, e_v3d, e_v4c, c4, hw6, hR6, hE6]
                  exact ih6 s6 h
              · have h := iteF h c3
                have c3 := eq_false_of_ne_true c3
                simp only [go_sem, c3, hw6, hR6, hE6]
                exact ih6 s6 h
            · intro K7 s7 hb7 he7
              try dsimp only
              conv => arg 1; arg 7; unfold L35_4 loopAt S22.c35 Try.f35; simp only [loopIn, Option.getD_some, if_true]
              simp only [go_sem, he7]
              exact hb7
            · intro K7 k7 i7 x7 s7 n7 hR7 hE7 hb7 hx7 hi7 hw7 ih7 h
              try dsimp only at h ⊢
              conv => arg 1; arg 7; unfold L35_4 loopAt S22.c35 Try.f35; simp only [loopIn, Option.getD_some, if_true]
              obtain ⟨v5, e_v5, h⟩ := ob h
              obtain ⟨v6, e_v6, h⟩ := ob h
              obtain ⟨e_v6a, e_v6b⟩ := idx_some e_v6
              by_cases c5 : s7.1 = true
              · have h := iteT h c5
                obtain ⟨v7, e_v7, h⟩ := ob h
                have e_v7a : boundOk (s7.2.2.length + 1) 32 = true := bnd_of (by have := (app_some e_v7).1; simpa using this) (by decide)
                have e_v7b : (List.map row_Tree s7.2.2) ++ [[iv v6.t.Sym, .sl none 2 (List.map row_Tree v6.t.Kids)]] = List.map row_Tree v7 := by rw [(app_some e_v7).2]; simp [row_Tree_eq]
                simp only [go_sem, hx7, hi7, hw7, e_v5, e_v6a, e_v6b, c5, e_v7a, e_v7b, hw6, hR6, hE6, hR7, hE7]
                exact ih7 (v6.some, w64 (s7.2.1 + v6.n), v7) h
              · have h := iteF h c5
                have c5 := eq_false_of_ne_true c5
                obtain ⟨v8, e_v8, h⟩ := ob h
                have e_v8a : boundOk (s7.2.2.length + 1) 32 = true := bnd_of (by have := (app_some e_v8).1; simpa using this) (by decide)
                have e_v8b : (List.map row_Tree s7.2.2) ++ [[iv v6.t.Sym, .sl none 2 (List.map row_Tree v6.t.Kids)]] = List.map row_Tree v8 := by rw [(app_some e_v8).2]; simp [row_Tree_eq]
                simp only [go_sem, hx7, hi7, hw7, e_v5, e_v6a, e_v6b, c5, e_v8a, e_v8b, hw6, hR6, hE6, hR7, hE7]
                exact ih7 (false, w64 (s7.2.1 + v6.n), v8) h
          · have h := iteF h c2
            have c2b : (x6.Sym != a1.Sym) = true := bneT c2
            simp only [go_sem, hx6, hi6, hw6, c1b, c2b, hR6, hE6]
            refine run_rangeL (c := L35_4) (live := [3, 5, 8, 10, 11, 33, 34, 35, 57, 58, 59]) (by simp only [go_sem]) (M := fun i8 (s8 : Bool × Int × (List Tree)) => [(3, .ptr 1 0), (5, .own 1 (List.map (rowL 4 row_ref22_choice) s1)), (8, .ms 2 0 4 0 ((a0.States).toNat)), (10, .ptr 3 0), (11, .ptr 4 0), (33, .p (.sl none 3 (List.map row_Rule a0.Rules))), (34, .p (iv (a0.Rules.length : Int))), (35, .p (iv (i6 : Int))), (57, .p (.sl none 1 (List.map rowI x6.From))), (58, .p (iv (x6.From.length : Int))), (59, .p (iv (i8 : Int)))]) (Z := fun i8 (s8 : Bool × Int × (List Tree)) => [.cells [.p (iv a0.States), .p (.sl none 1 (List.map rowI a0.Final)), .p (.sl none 3 (List.map row_Rule a0.Rules))], .cells [.p (iv a1.Sym), .p (.sl none 2 (List.map row_Tree a1.Kids))], .arr 0 4 (List.map (rowA row_ref22_choice) s6), .cells [.p (iv x6.Sym), .p (.sl none 1 (List.map rowI x6.From)), .p (iv x6.To)], .cells [.p (bv s8.1), .p (iv s8.2.1), .p (iv x6.Sym), .own 2 (List.map row_Tree s8.2.2)]]) (N := fun (s8 : Bool × Int × (List Tree)) => ⟨[(3, .ptr 1 0), (5, .own 1 (List.map (rowL 4 row_ref22_choice) s1)), (8, .ms 2 0 4 0 ((a0.States).toNat)), (10, .ptr 3 0), (11, .ptr 4 0), (33, .p (.sl none 3 (List.map row_Rule a0.Rules))), (34, .p (iv (a0.Rules.length : Int))), (35, .p (iv (i6 : Int)))], [.cells [.p (iv a0.States), .p (.sl none 1 (List.map rowI a0.Final)), .p (.sl none 3 (List.map row_Rule a0.Rules))], .cells [.p (iv a1.Sym), .p (.sl none 2 (List.map row_Tree a1.Kids))], .arr 0 4 (List.map (rowA row_ref22_choice) s6), .cells [.p (iv x6.Sym), .p (.sl none 1 (List.map rowI x6.From)), .p (iv x6.To)], .cells [.p (bv s8.1), .p (iv s8.2.1), .p (iv x6.Sym), .own 2 (List.map row_Tree s8.2.2)]], [], none, false⟩) h rfl rfl (fun _ _ => rfl) ?_ ?_ ?_
            · intro s8 h
              try dsimp only at h ⊢
              by_cases c6 : s8.1 = true
              · have h := iteT h c6
                obtain ⟨v9, e_v9, h⟩ := ob h
                obtain ⟨e_v9a, e_v9b, e_v9d⟩ := idxM_some e_v9
                obtain ⟨v10, e_v10, h⟩ := ob h
                have e_v10c : call Try.prog T H (.fn 36) [.p (.agg [bv true, iv s8.2.1, iv x6.Sym, .sl none 2 (List.map row_Tree s8.2.2)]), .p (.agg [bv v9.some, iv v9.n, iv v9.t.Sym, .sl none 2 (List.map row_Tree v9.t.Kids)])] [] = some (.ret (.p (bv v10)), []) := spec36 n (ref22_choice.mk true s8.2.1 (Tree.mk x6.Sym s8.2.2)) v9 v10 e_v10
                by_cases c7 : v10 = true
                · have h := iteT h c7
                  have e_y2 : List.set (List.map (rowA row_ref22_choice) s6) ((x6.To).toNat) [.p (bv true), .p (iv s8.2.1), .p (iv x6.Sym), .p (.sl none 2 (List.map row_Tree s8.2.2))] = List.map (rowA row_ref22_choice) (List.set s6 ((x6.To).toNat) (ref22_choice.mk true s8.2.1 (Tree.mk x6.Sym s8.2.2))) := map_set' (by first | rfl | simp only [go_sem, List.map_cons, List.map_nil])
                  simp only [go_sem, c6, e_v9a, e_v9b, e_v9d, e_v10c, c7, e_y2, hw6, hR6, hE6]
                  exact ih6 (List.set s6 ((x6.To).toNat) (ref22_choice.mk true s8.2.1 (Tree.mk x6.Sym s8.2.2))) h
                · have h := iteF h c7
                  have c7 := eq_false_of_ne_true c7
                  simp only [go_sem, c6, e_v9a, e_v9b, e_v9d, e_v10c, c7, hw6, hR6, hE6]
                  exact ih6 s6 h
              · have h := iteF h c6
                have c6 := eq_false_of_ne_true c6
                simp only [go_sem, c6, hw6, hR6, hE6]
                exact ih6 s6 h
            · intro K8 s8 hb8 he8
              try dsimp only
              conv => arg 1; arg 7; unfold L35_4 loopAt S22.c35 Try.f35; simp only [loopIn, Option.getD_some, if_true]
              simp only [go_sem, he8]
              exact hb8
            · intro K8 k8 i8 x8 s8 n8 hR8 hE8 hb8 hx8 hi8 hw8 ih8 h
              try dsimp only at h ⊢
              conv => arg 1; arg 7; unfold L35_4 loopAt S22.c35 Try.f35; simp only [loopIn, Option.getD_some, if_true]
              obtain ⟨v11, e_v11, h⟩ := ob h
              obtain ⟨v12, e_v12, h⟩ := ob h
              obtain ⟨e_v12a, e_v12b⟩ := idx_some e_v12
              by_cases c8 : s8.1 = true
              · have h := iteT h c8
                obtain ⟨v13, e_v13, h⟩ := ob h
                have e_v13a : boundOk (s8.2.2.length + 1) 32 = true := bnd_of (by have := (app_some e_v13).1; simpa using this) (by decide)
                have e_v13b : (List.map row_Tree s8.2.2) ++ [[iv v12.t.Sym, .sl none 2 (List.map row_Tree v12.t.Kids)]] = List.map row_Tree v13 := by rw [(app_some e_v13).2]; simp [row_Tree_eq]
                simp only [go_sem, hx8, hi8, hw8, e_v11, e_v12a, e_v12b, c8, e_v13a, e_v13b, hw6, hR6, hE6, hR8, hE8]
                exact ih8 (v12.some, w64 (s8.2.1 + v12.n), v13) h
              · have h := iteF h c8
                have c8 := eq_false_of_ne_true c8
                obtain ⟨v14, e_v14, h⟩ := ob h
                have e_v14a : boundOk (s8.2.2.length + 1) 32 = true := bnd_of (by have := (app_some e_v14).1; simpa using this) (by decide)
                have e_v14b : (List.map row_Tree s8.2.2) ++ [[iv v12.t.Sym, .sl none 2 (List.map row_Tree v12.t.Kids)]] = List.map row_Tree v14 := by rw [(app_some e_v14).2]; simp [row_Tree_eq]
                simp only [go_sem, hx8, hi8, hw8, e_v11, e_v12a, e_v12b, c8, e_v14a, e_v14b, hw6, hR6, hE6, hR8, hE8]
                exact ih8 (false, w64 (s8.2.1 + v12.n), v14) h
        · have h := iteF h c1
          have c1b : ((x6.From.length : Int) != (a1.Kids.length : Int)) = true := bneT c1
          simp only [go_sem, hx6, hi6, hw6, c1b, hR6, hE6]
          exact ih6 s6 h
    · intro K1 s1 hb1 he1
      try dsimp only
      conv => arg 1; arg 7; unfold L35_0 loopAt S22.c35 Try.f35; simp only [loopIn, Option.getD_some, if_true]
      simp only [go_sem, he1]
      exact hb1
    · intro K1 k1 i1 x1 s1 n1 hR1 hE1 hb1 hx1 hi1 hw1 ih1 h
      try dsimp only at h ⊢
      conv => arg 1; arg 7; unfold L35_0 loopAt S22.c35 Try.f35; simp only [loopIn, Option.getD_some, if_true]
      obtain ⟨v15, e_v15, h⟩ := ob h
      have e_v15c : call Try.prog T H (.fn 35) [.p (.agg [iv a0.States, .sl none 1 (List.map rowI a0.Final), .sl none 3 (List.map row_Rule a0.Rules)]), .p (.agg [iv x1.Sym, .sl none 2 (List.map row_Tree x1.Kids)])] [] = some (.ret (.p (.sl none 4 (List.map row_ref22_choice v15))), []) := ih a0 x1 v15 e_v15
      obtain ⟨v16, e_v16, h⟩ := ob h
      have e_v16a : boundOk (s1.length + 1) 24 = true := bnd_of (by have := (app_some e_v16).1; simpa using this) (by decide)
      have e_v16b : (List.map (rowL 4 row_ref22_choice) s1) ++ [[.sl none 4 (List.map row_ref22_choice v15)]] = List.map (rowL 4 row_ref22_choice) v16 := by rw [(app_some e_v16).2]; simp [rowL, row_ref22_choice_eq]
      simp only [go_sem, hx1, hi1, hw1, e_v15c, e_v16a, e_v16b, hR1, hE1]
      exact ih1 v16 h

def ref22_Relabel (n : Nat) (a0 : Alphabet) (a1 : Automaton) (a2 : Tree) : Option (Int × Tree × Int) :=
  (ref22_Asked n a0 a1 a2).bind fun v1 =>
  if v1 = 0 then
    (ref22_choices n a1 a2).bind fun v2 =>
    rangeL a1.Final (false, 0, 0, ([] : List Tree)) (fun k1 i1 x1 (s1 : Bool × Int × Int × (List Tree)) n1 =>
      (idx v2 x1).bind fun v3 =>
      if v3.some = true then
        (ref22_choice_less n (ref22_choice.mk true v3.n v3.t) (ref22_choice.mk s1.1 s1.2.1 (Tree.mk s1.2.2.1 s1.2.2.2))).bind fun v4 =>
        if v4 = true then
          n1 (true, v3.n, v3.t.Sym, v3.t.Kids)
        else
          n1 (s1.1, s1.2.1, s1.2.2.1, s1.2.2.2)
      else
        n1 (s1.1, s1.2.1, s1.2.2.1, s1.2.2.2)) fun s1 =>
    if s1.1 = true then
      some (s1.2.1, (Tree.mk s1.2.2.1 s1.2.2.2), 0)
    else
      some (0, (Tree.mk 0 ([] : List Tree)), 5)
  else
    some (0, (Tree.mk 0 ([] : List Tree)), 1)
theorem spec11 (n : Nat) (a0 : Alphabet) (a1 : Automaton) (a2 : Tree) (r : Int × Tree × Int) (h : ref22_Relabel n a0 a1 a2 = some r) :
    call Try.prog T H (.fn 11) [.p (.agg [.sl none 1 (List.map rowI a0.Ranks)]), .p (.agg [iv a1.States, .sl none 1 (List.map rowI a1.Final), .sl none 3 (List.map row_Rule a1.Rules)]), .p (.agg [iv a2.Sym, .sl none 2 (List.map row_Tree a2.Kids)])] [] = some (.ret (.p (.tup [iv r.1, .agg [iv r.2.1.Sym, .sl none 2 (List.map row_Tree r.2.1.Kids)], iv r.2.2])), []) := by
  refine Sat.fn fun Q hQ => ?_
  unfold ref22_Relabel at h
  rw [call11]
  conv => arg 1; arg 7; unfold S22.c11 Try.f11; simp only [Option.getD_some]
  obtain ⟨v1, e_v1, h⟩ := ob h
  have e_v1c : call Try.prog T H (.fn 34) [.p (.agg [.sl none 1 (List.map rowI a0.Ranks)]), .p (.agg [iv a1.States, .sl none 1 (List.map rowI a1.Final), .sl none 3 (List.map row_Rule a1.Rules)]), .p (.agg [iv a2.Sym, .sl none 2 (List.map row_Tree a2.Kids)])] [] = some (.ret (.p (iv v1)), []) := spec34 n a0 a1 a2 v1 e_v1
  by_cases c1 : v1 = 0
  · have h := iteT h c1
    have c1b : (v1 != 0) = false := bneF c1
    obtain ⟨v2, e_v2, h⟩ := ob h
    have e_v2c : call Try.prog T H (.fn 35) [.p (.agg [iv a1.States, .sl none 1 (List.map rowI a1.Final), .sl none 3 (List.map row_Rule a1.Rules)]), .p (.agg [iv a2.Sym, .sl none 2 (List.map row_Tree a2.Kids)])] [] = some (.ret (.p (.sl none 4 (List.map row_ref22_choice v2))), []) := spec35 n a1 a2 v2 e_v2
    simp only [go_sem, e_v1c, c1b, e_v2c]
    refine run_rangeL (c := L11_0) (live := [7, 9, 10, 23, 24, 25]) (by simp only [go_sem]) (M := fun i1 (s1 : Bool × Int × Int × (List Tree)) => [(7, .ptr 3 0), (9, .p (.sl none 4 (List.map row_ref22_choice v2))), (10, .ptr 4 0), (23, .p (.sl none 1 (List.map rowI a1.Final))), (24, .p (iv (a1.Final.length : Int))), (25, .p (iv (i1 : Int)))]) (Z := fun i1 (s1 : Bool × Int × Int × (List Tree)) => [.cells [.p (.sl none 1 (List.map rowI a0.Ranks))], .cells [.p (iv a1.States), .p (.sl none 1 (List.map rowI a1.Final)), .p (.sl none 3 (List.map row_Rule a1.Rules))], .cells [.p (iv a2.Sym), .p (.sl none 2 (List.map row_Tree a2.Kids))], .cells [.p (iv 0), .own 2 []], .cells [.p (bv s1.1), .p (iv s1.2.1), .p (iv s1.2.2.1), .p (.sl none 2 (List.map row_Tree s1.2.2.2))]]) (N := fun (s1 : Bool × Int × Int × (List Tree)) => ⟨[(7, .ptr 3 0), (10, .ptr 4 0)], [.cells [.p (.sl none 1 (List.map rowI a0.Ranks))], .cells [.p (iv a1.States), .p (.sl none 1 (List.map rowI a1.Final)), .p (.sl none 3 (List.map row_Rule a1.Rules))], .cells [.p (iv a2.Sym), .p (.sl none 2 (List.map row_Tree a2.Kids))], .cells [.p (iv 0), .own 2 []], .cells [.p (bv s1.1), .p (iv s1.2.1), .p (iv s1.2.2.1), .p (.sl none 2 (List.map row_Tree s1.2.2.2))]], [], none, false⟩) h rfl rfl (fun _ _ => rfl) ?_ ?_ ?_
    · intro s1 h
      try dsimp only at h ⊢
      by_cases c2 : s1.1 = true
      · have h := iteT h c2
        simp only [go_sem, c2]
        injection h with h; subst h
        exact Sat.ok hQ
      · have h := iteF h c2
        have c2 := eq_false_of_ne_true c2
        simp only [go_sem, c2]
        injection h with h; subst h
        exact Sat.ok hQ
    · intro K1 s1 hb1 he1
      try dsimp only
      conv => arg 1; arg 7; unfold L11_0 loopAt S22.c11 Try.f11; simp only [loopIn, Option.getD_some, if_true]
      simp only [go_sem, he1]
      exact hb1
    · intro K1 k1 i1 x1 s1 n1 hR1 hE1 hb1 hx1 hi1 hw1 ih1 h
      try dsimp only at h ⊢
      conv => arg 1; arg 7; unfold L11_0 loopAt S22.c11 Try.f11; simp only [loopIn, Option.getD_some, if_true]
      obtain ⟨v3, e_v3, h⟩ := ob h
      obtain ⟨e_v3a, e_v3b⟩ := idx_some e_v3
      by_cases c3 : v3.some = true
      · have h := iteT h c3
        obtain ⟨v4, e_v4, h⟩ := ob h
        have e_v4c : call Try.prog T H (.fn 36) [.p (.agg [bv true, iv v3.n, iv v3.t.Sym, .sl none 2 (List.map row_Tree v3.t.Kids)]), .p (.agg [bv s1.1, iv s1.2.1, iv s1.2.2.1, .sl none 2 (List.map row_Tree s1.2.2.2)])] [] = some (.ret (.p (bv v4)), []) := spec36 n (ref22_choice.mk true v3.n v3.t) (ref22_choice.mk s1.1 s1.2.1 (Tree.mk s1.2.2.1 s1.2.2.2)) v4 e_v4
        by_cases c4 : v4 = true
        · have h := iteT h c4
          simp only [go_sem, hx1, hi1, hw1, e_v3a, e_v3b, c3, e_v4c, c4, hR1, hE1]
          exact ih1 (true, v3.n, v3.t.Sym, v3.t.Kids) h
        · have h := iteF h c4
          have c4 := eq_false_of_ne_true c4
          simp only [go_sem, hx1, hi1, hw1, e_v3a, e_v3b, c3, e_v4c, c4, hR1, hE1]
          exact ih1 (s1.1, s1.2.1, s1.2.2.1, s1.2.2.2) h
      · have h := iteF h c3
        have c3 := eq_false_of_ne_true c3
        simp only [go_sem, hx1, hi1, hw1, e_v3a, e_v3b, c3, hR1, hE1]
        exact ih1 (s1.1, s1.2.1, s1.2.2.1, s1.2.2.2) h
  · have h := iteF h c1
    have c1b : (v1 != 0) = true := bneT c1
    simp only [go_sem, e_v1c, c1b]
    injection h with h; subst h
    exact Sat.ok hQ

def ref03_Less (a0 : List Int) (a1 : List Int) : Option Int :=
  rangeI (minI (a0.length : Int) (a1.length : Int)) () (fun k1 i1 (s1 : Unit) n1 =>
    (a0[i1]?).bind fun v1 =>
    (a1[i1]?).bind fun v2 =>
    if v1 < v2 then
      some (-1)
    else
      if v2 < v1 then
        some 1
      else
        n1 ()) fun s1 =>
  if (a0.length : Int) < (a1.length : Int) then
    some (-1)
  else
    if (a1.length : Int) < (a0.length : Int) then
      some 1
    else
      some 0
theorem spec96 (a0 : List Int) (a1 : List Int) (r : Int) (h : ref03_Less a0 a1 = some r) :
    call Try.prog T H (.fn 96) [.p (.sl none 1 (List.map rowI a0)), .p (.sl none 1 (List.map rowI a1))] [] = some (.ret (.p (iv r)), []) := by
  refine Sat.fn fun Q hQ => ?_
  unfold ref03_Less at h
  rw [call96]
  conv => arg 1; arg 7; unfold S22.c96 Try.f96; simp only [Option.getD_some]
  simp only [go_sem]
  refine run_rangeI (c := L96_0) (live := [0, 1, 10, 11]) (by simp only [go_sem]) (M := fun i1 (s1 : Unit) => [(0, .p (.sl none 1 (List.map rowI a0))), (1, .p (.sl none 1 (List.map rowI a1))), (10, .p (iv (minI (a0.length : Int) (a1.length : Int)))), (11, .p (iv (i1 : Int)))]) (Z := fun i1 (s1 : Unit) => []) (N := fun (s1 : Unit) => ⟨[(0, .p (.sl none 1 (List.map rowI a0))), (1, .p (.sl none 1 (List.map rowI a1)))], [], [], none, false⟩) h rfl rfl (fun _ _ => rfl) ?_ ?_ ?_
  · intro s1 h
    try dsimp only at h ⊢
    by_cases c1 : (a0.length : Int) < (a1.length : Int)
    · have h := iteT h c1
      simp only [go_sem, c1]
      injection h with h; subst h
      exact Sat.ok hQ
    · have h := iteF h c1
      by_cases c2 : (a1.length : Int) < (a0.length : Int)
      · have h := iteT h c2
        simp only [go_sem, c1, c2]
        injection h with h; subst h
        exact Sat.ok hQ
      · have h := iteF h c2
        simp only [go_sem, c1, c2]
        injection h with h; subst h
        exact Sat.ok hQ
  · intro K1 i1 s1 hb1 he1
    try dsimp only
    conv => arg 1; arg 7; unfold L96_0 loopAt S22.c96 Try.f96; simp only [loopIn, Option.getD_some, if_true]
    simp only [go_sem, he1]
    exact hb1
  · intro K1 k1 i1 s1 n1 hR1 hE1 hb1 hi1 hw1 ih1 h
    try dsimp only at h ⊢
    conv => arg 1; arg 7; unfold L96_0 loopAt S22.c96 Try.f96; simp only [loopIn, Option.getD_some, if_true]
    obtain ⟨v1, e_v1, h⟩ := ob h
    obtain ⟨v2, e_v2, h⟩ := ob h
    by_cases c3 : v1 < v2
    · have h := iteT h c3
      simp only [go_sem, hi1, hw1, e_v1, e_v2, c3, hR1, hE1]
      injection h with h; subst h
      exact Sat.ok hQ
    · have h := iteF h c3
      by_cases c4 : v2 < v1
      · have h := iteT h c4
        simp only [go_sem, hi1, hw1, e_v1, e_v2, c3, c4, hR1, hE1]
        injection h with h; subst h
        exact Sat.ok hQ
      · have h := iteF h c4
        simp only [go_sem, hi1, hw1, e_v1, e_v2, c3, c4, hR1, hE1]
        exact ih1 () h

def ref22_earlier (a0 : List (List Int)) (a1 : List (List Int)) : Option Bool :=
  rangeL a0 () (fun k1 i1 x1 (s1 : Unit) n1 =>
    (a1[i1]?).bind fun v1 =>
    (ref03_Less x1 v1).bind fun v2 =>
    if v2 = 0 then
      n1 ()
    else
      some (decide (v2 < 0))) fun s1 =>
  some false
theorem spec74 (a0 : List (List Int)) (a1 : List (List Int)) (r : Bool) (h : ref22_earlier a0 a1 = some r) :
    call Try.prog T H (.fn 74) [.p (.sl none 1 (List.map (rowL 1 rowI) a0)), .p (.sl none 1 (List.map (rowL 1 rowI) a1))] [] = some (.ret (.p (bv r)), []) := by
  refine Sat.fn fun Q hQ => ?_
  unfold ref22_earlier at h
  rw [call74]
  conv => arg 1; arg 7; unfold S22.c74 Try.f74; simp only [Option.getD_some]
  simp only [go_sem]
  refine run_rangeL (c := L74_0) (live := [0, 1, 8, 9]) (by simp only [go_sem]) (M := fun i1 (s1 : Unit) => [(0, .p (.sl none 1 (List.map (rowL 1 rowI) a0))), (1, .p (.sl none 1 (List.map (rowL 1 rowI) a1))), (8, .p (iv (a0.length : Int))), (9, .p (iv (i1 : Int)))]) (Z := fun i1 (s1 : Unit) => []) (N := fun (s1 : Unit) => ⟨[], [], [], none, false⟩) h rfl rfl (fun _ _ => rfl) ?_ ?_ ?_
  · intro s1 h
    try dsimp only at h ⊢
    simp only [go_sem]
    injection h with h; subst h
    exact Sat.ok hQ
  · intro K1 s1 hb1 he1
    try dsimp only
    conv => arg 1; arg 7; unfold L74_0 loopAt S22.c74 Try.f74; simp only [loopIn, Option.getD_some, if_true]
    simp only [go_sem, he1]
    exact hb1
  · intro K1 k1 i1 x1 s1 n1 hR1 hE1 hb1 hx1 hi1 hw1 ih1 h
    try dsimp only at h ⊢
    conv => arg 1; arg 7; unfold L74_0 loopAt S22.c74 Try.f74; simp only [loopIn, Option.getD_some, if_true]
    obtain ⟨v1, e_v1, h⟩ := ob h
    obtain ⟨v2, e_v2, h⟩ := ob h
    have e_v2c : call Try.prog T H (.fn 96) [.p (.sl none 1 (List.map rowI x1)), .p (.sl none 1 (List.map rowI v1))] [] = some (.ret (.p (iv v2)), []) := spec96 x1 v1 v2 e_v2
    by_cases c1 : v2 = 0
    · have h := iteT h c1
      have c1b : (v2 != 0) = false := bneF c1
      simp only [go_sem, hx1, hi1, hw1, e_v1, e_v2c, c1b, hR1, hE1]
      exact ih1 () h
    · have h := iteF h c1
      have c1b : (v2 != 0) = true := bneT c1
      simp only [go_sem, hx1, hi1, hw1, e_v1, e_v2c, c1b, hR1, hE1]
      injection h with h; subst h
      exact Sat.ok hQ

def ref22_cut_less (a0 : ref22_cut) (a1 : ref22_cut) : Option Bool :=
  if a1.some = true then
    if a0.nodes = a1.nodes then
      if (a0.l.length : Int) = (a1.l.length : Int) then
        (ref22_earlier a0.l a1.l).bind fun v1 =>
        some v1
      else
        some (decide ((a0.l.length : Int) < (a1.l.length : Int)))
    else
      some (decide (a0.nodes < a1.nodes))
  else
    some true
theorem spec43 (a0 : ref22_cut) (a1 : ref22_cut) (r : Bool) (h : ref22_cut_less a0 a1 = some r) :
    call Try.prog T H (.fn 43) [.p (.agg [bv a0.some, iv a0.nodes, .sl none 1 (List.map (rowL 1 rowI) a0.l)]), .p (.agg [bv a1.some, iv a1.nodes, .sl none 1 (List.map (rowL 1 rowI) a1.l)])] [] = some (.ret (.p (bv r)), []) := by
  refine Sat.fn fun Q hQ => ?_
  unfold ref22_cut_less at h
  rw [call43]
  conv => arg 1; arg 7; unfold S22.c43 Try.f43; simp only [Option.getD_some]
  by_cases c1 : a1.some = true
  · have h := iteT h c1
    by_cases c2 : a0.nodes = a1.nodes
    · have h := iteT h c2
      have c2b : (a0.nodes != a1.nodes) = false := bneF c2
      by_cases c3 : (a0.l.length : Int) = (a1.l.length : Int)
      · have h := iteT h c3
        have c3b : ((a0.l.length : Int) != (a1.l.length : Int)) = false := bneF c3
        obtain ⟨v1, e_v1, h⟩ := ob h
        have e_v1c : call Try.prog T H (.fn 74) [.p (.sl none 1 (List.map (rowL 1 rowI) a0.l)), .p (.sl none 1 (List.map (rowL 1 rowI) a1.l))] [] = some (.ret (.p (bv v1)), []) := spec74 a0.l a1.l v1 e_v1
        simp only [go_sem, c1, c2b, c3b, e_v1c]
        injection h with h; subst h
        exact Sat.ok hQ
      · have h := iteF h c3
        have c3b : ((a0.l.length : Int) != (a1.l.length : Int)) = true := bneT c3
        simp only [go_sem, c1, c2b, c3b]
        injection h with h; subst h
        exact Sat.ok hQ
    · have h := iteF h c2
      have c2b : (a0.nodes != a1.nodes) = true := bneT c2
      simp only [go_sem, c1, c2b]
      injection h with h; subst h
      exact Sat.ok hQ
  · have h := iteF h c1
    have c1 := eq_false_of_ne_true c1
    simp only [go_sem, c1]
    injection h with h; subst h
    exact Sat.ok hQ

def ref22_cuts : Nat → Automaton → (List Int) → Tree → Option (List ref22_cut)
  | 0, _, _, _ => none
  | n + 1, a0, a1, a2 =>
    rangeL a2.Kids ([] : List (List ref22_cut)) (fun k1 i1 x1 (s1 : (List (List ref22_cut))) n1 =>
      (ref22_cuts n a0 a1 x1).bind fun v14 =>
      (app 24 s1 [v14]).bind fun v15 =>
      n1 v15) fun s1 =>
    (mkz 40 a0.States a0.States (ref22_cut.mk false 0 ([] : List (List Int)))).bind fun v1 =>
    rangeI ((a0.States).toNat : Int) v1 (fun k2 i2 (s2 : (List ref22_cut)) n2 =>
      (a1[i2]?).bind fun v11 =>
      if 0 < v11 then
        (ref01_Size n a2).bind fun v12 =>
        (idxM ((a0.States).toNat) s2 (i2 : Int)).bind fun v13 =>
        n2 (List.set s2 i2 (ref22_cut.mk true v12 [([] : List Int)]))
      else
        n2 s2) fun s2 =>
    rangeL a0.Rules s2 (fun k15 i15 x15 (s15 : (List ref22_cut)) n15 =>
      if x15.Sym = a2.Sym then
        rangeL x15.From (true, 0, ([] : List (List Int))) (fun k19 i19 x19 (s19 : Bool × Int × (List (List Int))) n19 =>
          (s1[i19]?).bind fun v5 =>
          (idx v5 x19).bind fun v6 =>
          if s19.1 = true then
            rangeL v6.l s19.2.2 (fun k20 i20 x20 (s20 : (List (List Int))) n20 =>
              (app 8 [(i19 : Int)] x20).bind fun v7 =>
              (app 24 s20 [v7]).bind fun v8 =>
              n20 v8) fun s20 =>
            n19 (v6.some, w64 (s19.2.1 + v6.nodes), s20)
          else
            rangeL v6.l s19.2.2 (fun k21 i21 x21 (s21 : (List (List Int))) n21 =>
              (app 8 [(i19 : Int)] x21).bind fun v9 =>
              (app 24 s21 [v9]).bind fun v10 =>
              n21 v10) fun s21 =>
            n19 (false, w64 (s19.2.1 + v6.nodes), s21)) fun s19 =>
        if s19.1 = true then
          (idxM ((a0.States).toNat) s15 x15.To).bind fun v3 =>
          (ref22_cut_less (ref22_cut.mk true s19.2.1 s19.2.2) v3).bind fun v4 =>
          if v4 = true then
            n15 (List.set s15 ((x15.To).toNat) (ref22_cut.mk true s19.2.1 s19.2.2))
          else
            n15 s15
        else
          n15 s15
      else
        n15 s15) fun s15 =>
    (tkM ((a0.States).toNat) s15).bind fun v2 =>
    some v2
theorem spec41 : ∀ (n : Nat), (∀ (a0 : Automaton) (a1 : List Int) (a2 : Tree) (r : List ref22_cut), ref22_cuts n a0 a1 a2 = some r →
    call Try.prog T H (.fn 41) [.p (.agg [iv a0.States, .sl none 1 (List.map rowI a0.Final), .sl none 3 (List.map row_Rule a0.Rules)]), .p (.sl none 1 (List.map rowI a1)), .p (.agg [iv a2.Sym, .sl none 2 (List.map row_Tree a2.Kids)])] [] = some (.ret (.p (.sl none 3 (List.map row_ref22_cut r))), [])) := by
  intro n
  induction n with
  | zero => intro a0 a1 a2 r h; cases h
  | succ n ih =>
    intro a0 a1 a2 r h
    refine Sat.fn fun Q hQ => ?_
    rw [ref22_cuts] at h
    rw [call41]
    conv => arg 1; arg 7; unfold S22.c41 Try.f41; simp only [Option.getD_some]
    simp only [go_sem]
    refine run_rangeL (c := L41_0) (live := [1, 3, 5, 7, 21, 22, 23]) (by simp only [go_sem]) (M := fun i1 (s1 : (List (List ref22_cut))) => [(1, .p (.sl none 1 (List.map rowI a1))), (3, .ptr 0 0), (5, .ptr 1 0), (7, .own 1 (List.map (rowL 3 row_ref22_cut) s1)), (21, .p (.sl none 2 (List.map row_Tree a2.Kids))), (22, .p (iv (a2.Kids.length : Int))), (23, .p (iv (i1 : Int)))]) (Z := fun i1 (s1 : (List (List ref22_cut))) => [.cells [.p (iv a0.States), .p (.sl none 1 (List.map rowI a0.Final)), .p (.sl none 3 (List.map row_Rule a0.Rules))], .cells [.p (iv a2.Sym), .p (.sl none 2 (List.map row_Tree a2.Kids))]]) (N := fun (s1 : (List (List ref22_cut))) => ⟨[(1, .p (.sl none 1 (List.map rowI a1))), (3, .ptr 0 0), (5, .ptr 1 0), (7, .own 1 (List.map (rowL 3 row_ref22_cut) s1))], [.cells [.p (iv a0.States), .p (.sl none 1 (List.map rowI a0.Final)), .p (.sl none 3 (List.map row_Rule a0.Rules))], .cells [.p (iv a2.Sym), .p (.sl none 2 (List.map row_Tree a2.Kids))]], [], none, false⟩) h rfl rfl (fun _ _ => rfl) ?_ ?_ ?_
    · intro s1 h
      try dsimp only at h ⊢
      obtain ⟨v1, e_v1, h⟩ := ob h
      obtain ⟨e_v11, e_v12, e_v13, e_v14⟩ := mkz_some e_v1
      have e_v1b : boundOk (a0.States).toNat 40 = true := bnd_of e_v13 (by decide)
      have e_v1r : List.replicate (a0.States).toNat [AV.p (bv false), AV.p (iv 0), AV.p (.sl none 1 [])] = List.map (rowA row_ref22_cut) v1 := by rw [e_v14]; exact rep_map (by first | rfl | simp only [go_sem, List.map_nil])
      simp only [go_sem, e_v11, e_v12, e_v1b, e_v1r]
      refine run_rangeI (c := L41_2) (live := [1, 3, 5, 7, 10, 39, 40]) (by simp only [go_sem]) (M := fun i2 (s2 : (List ref22_cut)) => [(1, .p (.sl none 1 (List.map rowI a1))), (3, .ptr 0 0), (5, .ptr 1 0), (7, .own 1 (List.map (rowL 3 row_ref22_cut) s1)), (10, .ms 2 0 3 0 ((a0.States).toNat)), (39, .p (iv ((a0.States).toNat : Int))), (40, .p (iv (i2 : Int)))]) (Z := fun i2 (s2 : (List ref22_cut)) => [.cells [.p (iv a0.States), .p (.sl none 1 (List.map rowI a0.Final)), .p (.sl none 3 (List.map row_Rule a0.Rules))], .cells [.p (iv a2.Sym), .p (.sl none 2 (List.map row_Tree a2.Kids))], .arr 0 3 (List.map (rowA row_ref22_cut) s2)]) (N := fun (s2 : (List ref22_cut)) => ⟨[(3, .ptr 0 0), (5, .ptr 1 0), (7, .own 1 (List.map (rowL 3 row_ref22_cut) s1)), (10, .ms 2 0 3 0 ((a0.States).toNat))], [.cells [.p (iv a0.States), .p (.sl none 1 (List.map rowI a0.Final)), .p (.sl none 3 (List.map row_Rule a0.Rules))], .cells [.p (iv a2.Sym), .p (.sl none 2 (List.map row_Tree a2.Kids))], .arr 0 3 (List.map (rowA row_ref22_cut) s2)], [], none, false⟩) h rfl rfl (fun _ _ => rfl) ?_ ?_ ?_
      · intro s2 h
        try dsimp only at h ⊢
        simp only [go_sem]
        refine run_rangeL (c := L41_4) (live := [5, 7, 10, 58, 59, 60]) (by simp only [go_sem]) (M := fun i15 (s15 : (List ref22_cut)) => [(5, .ptr 1 0), (7, .own 1 (List.map (rowL 3 row_ref22_cut) s1)), (10, .ms 2 0 3 0 ((a0.States).toNat)), (58, .p (.sl none 3 (List.map row_Rule a0.Rules))), (59, .p (iv (a0.Rules.length : Int))), (60, .p (iv (i15 : Int)))]) (Z := fun i15 (s15 : (List ref22_cut)) => [.cells [.p (iv a0.States), .p (.sl none 1 (List.map rowI a0.Final)), .p (.sl none 3 (List.map row_Rule a0.Rules))], .cells [.p (iv a2.Sym), .p (.sl none 2 (List.map row_Tree a2.Kids))], .arr 0 3 (List.map (rowA row_ref22_cut) s15)]) (N := fun (s15 : (List ref22_cut)) => ⟨[(10, .ms 2 0 3 0 ((a0.States).toNat))], [.cells [.p (iv a0.States), .p (.sl none 1 (List.map rowI a0.Final)), .p (.sl none 3 (List.map row_Rule a0.Rules))], .cells [.p (iv a2.Sym), .p (.sl none 2 (List.map row_Tree a2.Kids))], .arr 0 3 (List.map (rowA row_ref22_cut) s15)], [], none, false⟩) h rfl rfl (fun _ _ => rfl) ?_ ?_ ?_
        · intro s15 h
          try dsimp only at h ⊢
          obtain ⟨v2, e_v2, h⟩ := ob h
          have e_v2a := (tkM_some e_v2).1
          have e_v2b := (tkM_some e_v2).2
          simp only [go_sem, e_v2a, e_v2b]
          injection h with h; subst h
          exact Sat.ok hQ
        · intro K15 s15 hb15 he15
          try dsimp only
          conv => arg 1; arg 7; unfold L41_4 loopAt S22.c41 Try.f41; simp only [loopIn, Option.getD_some, if_true]
          simp only [go_sem, he15]
          exact hb15
        · intro K15 k15 i15 x15 s15 n15 hR15 hE15 hb15 hx15 hi15 hw15 ih15 h
          try dsimp only at h ⊢
          conv => arg 1; arg 7; unfold L41_4 loopAt S22.c41 Try.f41; simp only [loopIn, Option.getD_some, if_true]
          by_cases c1 : x15.Sym = a2.Sym
          · have h := iteT h c1
            have c1b : (x15.Sym != a2.Sym) = false := bneF c1
            simp only [go_sem, hx15, hi15, hw15, c1b, hR15, hE15]
            refine run_rangeL (c := L41_6) (live := [5, 7, 10, 13, 14, 58, 59, 60, 71, 72, 73]) (by simp only [go_sem]) (M := fun i19 (s19 : Bool × Int × (List (List Int))) => [(5, .ptr 1 0), (7, .own 1 (List.map (rowL 3 row_ref22_cut) s1)), (10, .ms 2 0 3 0 ((a0.States).toNat)), (13, .ptr 3 0), (14, .ptr 4 0), (58, .p (.sl none 3 (List.map row_Rule a0.Rules))), (59, .p (iv (a0.Rules.length : Int))), (60, .p (iv (i15 : Int))), (71, .p (.sl none 1 (List.map rowI x15.From))), (72, .p (iv (x15.From.length : Int))), (73, .p (iv (i19 : Int)))]) (Z := fun i19 (s19 : Bool × Int × (List (List Int))) => [.cells [.p (iv a0.States), .p (.sl none 1 (List.map rowI a0.Final)), .p (.sl none 3 (List.map row_Rule a0.Rules))], .cells [.p (iv a2.Sym), .p (.sl none 2 (List.map row_Tree a2.Kids))], .arr 0 3 (List.map (rowA row_ref22_cut) s15), .cells [.p (iv x15.Sym), .p (.sl none 1 (List.map rowI x15.From)), .p (iv x15.To)], .cells [.p (bv s19.1), .p (iv s19.2.1), .own 1 (List.map (rowL 1 rowI) s19.2.2)]]) (N := fun (s19 : Bool × Int × (List (List Int))) => ⟨[(5, .ptr 1 0), (7, .own 1 (List.map (rowL 3 row_ref22_cut) s1)), (10, .ms 2 0 3 0 ((a0.States).toNat)), (13, .ptr 3 0), (14, .ptr 4 0), (58, .p (.sl none 3 (List.map row_Rule a0.Rules))), (59, .p (iv (a0.Rules.length : Int))), (60, .p (iv (i15 : Int)))], [.cells [.p (iv a0.States), .p (.sl none 1 (List.map rowI a0.Final)), .p (.sl none 3 (List.map row_Rule a0.Rules))], .cells [.p (iv a2.Sym), .p (.sl none 2 (List.map row_Tree a2.Kids))], .arr 0 3 (List.map (rowA row_ref22_cut) s15), .cells [.p (iv x15.Sym), .p (.sl none 1 (List.map rowI x15.From)), .p (iv x15.To)], .cells [.p (bv s19.1), .p (iv s19.2.1), .own 1 (List.map (rowL 1 rowI) s19.2.2)]], [], none, false⟩) h rfl rfl (fun _ _ => rfl) ?_ ?_ ?_
            · intro s19 h
              try dsimp only at h ⊢
              by_cases c2 : s19.1 = true
              · have h := iteT h c2
                obtain ⟨v3, e_v3, h⟩ := ob h
                obtain ⟨e_v3a, e_v3b, e_v3d⟩ := idxM_some e_v3
                obtain ⟨v4, e_v4, h⟩ := ob h
                have e_v4c : call Try.prog T H (.fn 43) [.p (.agg [bv true, iv s19.2.1, .sl none 1 (List.map (rowL 1 rowI) s19.2.2)]), .p (.agg [bv v3.some, iv v3.nodes, .sl none 1 (List.map (rowL 1 rowI) v3.l)])] [] = some (.ret (.p (bv v4)), []) := spec43 (ref22_cut.mk true s19.2.1 s19.2.2) v3 v4 e_v4
                by_cases c3 : v4 = true
                · have h := iteT h c3
                  have e_y1 : List.set (List.map (rowA row_ref22_cut) s15) ((x15.To).toNat) [.p (bv true), .p (iv s19.2.1), .p (.sl none 1 (List.map (rowL 1 rowI) s19.2.2))] = List.map (rowA row_ref22_cut) (List.set s15 ((x15.To).toNat) (ref22_cut.mk true s19.2.1 s19.2.2)) := map_set' (by first | rfl | simp only [go_sem, List.map_cons, List.map_nil])
                  simp only [go_sem, c2, e_v3a, e_v3b, e_v3d, e_v4c, c3, e_y1, hw15, hR15, hE15]
                  exact ih15 (List.set s15 ((x15.To).toNat) (ref22_cut.mk true s19.2.1 s19.2.2)) h
                · have h := iteF h c3
                  have c3 := eq_false_of_ne_true c3
                  simp only [go_sem, c2, e_v3a, e_v3b, e_v3d, e_v4c, c3, hw15, hR15, hE15]
                  exact ih15 s15 h
              · have h := iteF h c2
                have c2 := eq_false_of_ne_true c2
                simp only [go_sem, c2, hw15, hR15, hE15]
                exact ih15 s15 h
            · intro K19 s19 hb19 he19
              try dsimp only
              conv => arg 1; arg 7; unfold L41_6 loopAt S22.c41 Try.f41; simp only [loopIn, Option.getD_some, if_true]
              simp only [go_sem, he19]
              exact hb19
            · intro K19 k19 i19 x19 s19 n19 hR19 hE19 hb19 hx19 hi19 hw19 ih19 h
              try dsimp only at h ⊢
              conv => arg 1; arg 7; unfold L41_6 loopAt S22.c41 Try.f41; simp only [loopIn, Option.getD_some, if_true]
              obtain ⟨v5, e_v5, h⟩ := ob h
              obtain ⟨v6, e_v6, h⟩ := ob h
              obtain ⟨e_v6a, e_v6b⟩ := idx_some e_v6
              by_cases c4 : s19.1 = true
              · have h := iteT h c4
                simp only [go_sem, hx19, hi19, hw19, e_v5, e_v6a, e_v6b, c4, hw15, hR15, hE15, hR19, hE19]
                refine run_rangeL (c := L41_8) (live := [5, 7, 10, 13, 14, 15, 58, 59, 60, 71, 72, 73, 99, 100, 101]) (by simp only [go_sem]) (M := fun i20 (s20 : (List (List Int))) => [(5, .ptr 1 0), (7, .own 1 (List.map (rowL 3 row_ref22_cut) s1)), (10, .ms 2 0 3 0 ((a0.States).toNat)), (13, .ptr 3 0), (14, .ptr 4 0), (15, .p (iv (i19 : Int))), (58, .p (.sl none 3 (List.map row_Rule a0.Rules))), (59, .p (iv (a0.Rules.length : Int))), (60, .p (iv (i15 : Int))), (71, .p (.sl none 1 (List.map rowI x15.From))), (72, .p (iv (x15.From.length : Int))), (73, .p (iv (i19 : Int))), (99, .p (.sl none 1 (List.map (rowL 1 rowI) v6.l))), (100, .p (iv (v6.l.length : Int))), (101, .p (iv (i20 : Int)))]) (Z := fun i20 (s20 : (List (List Int))) => [.cells [.p (iv a0.States), .p (.sl none 1 (List.map rowI a0.Final)), .p (.sl none 3 (List.map row_Rule a0.Rules))], .cells [.p (iv a2.Sym), .p (.sl none 2 (List.map row_Tree a2.Kids))], .arr 0 3 (List.map (rowA row_ref22_cut) s15), .cells [.p (iv x15.Sym), .p (.sl none 1 (List.map rowI x15.From)), .p (iv x15.To)], .cells [.p (bv v6.some), .p (iv (w64 (s19.2.1 + v6.nodes))), .own 1 (List.map (rowL 1 rowI) s20)], .cells [.p (bv v6.some), .p (iv v6.nodes), .p (.sl none 1 (List.map (rowL 1 rowI) v6.l))]]) (N := fun (s20 : (List (List Int))) => ⟨[(5, .ptr 1 0), (7, .own 1 (List.map (rowL 3 row_ref22_cut) s1)), (10, .ms 2 0 3 0 ((a0.States).toNat)), (13, .ptr 3 0), (14, .ptr 4 0), (58, .p (.sl none 3 (List.map row_Rule a0.Rules))), (59, .p (iv (a0.Rules.length : Int))), (60, .p (iv (i15 : Int))), (71, .p (.sl none 1 (List.map rowI x15.From))), (72, .p (iv (x15.From.length : Int))), (73, .p (iv (i19 : Int)))], [.cells [.p (iv a0.States), .p (.sl none 1 (List.map rowI a0.Final)), .p (.sl none 3 (List.map row_Rule a0.Rules))], .cells [.p (iv a2.Sym), .p (.sl none 2 (List.map row_Tree a2.Kids))], .arr 0 3 (List.map (rowA row_ref22_cut) s15), .cells [.p (iv x15.Sym), .p (.sl none 1 (List.map rowI x15.From)), .p (iv x15.To)], .cells [.p (bv v6.some), .p (iv (w64 (s19.2.1 + v6.nodes))), .own 1 (List.map (rowL 1 rowI) s20)], .cells [.p (bv v6.some), .p (iv v6.nodes), .p (.sl none 1 (List.map (rowL 1 rowI) v6.l))]], [], none, false⟩) h rfl rfl (fun _ _ => rfl) ?_ ?_ ?_
                · intro s20 h
                  try dsimp only at h ⊢
                  simp only [go_sem, hw15, hR15, hE15, hw19, hR19, hE19]
                  exact ih19 (v6.some, w64 (s19.2.1 + v6.nodes), s20) h
                · intro K20 s20 hb20 he20
                  try dsimp only
                  conv => arg 1; arg 7; unfold L41_8 loopAt S22.c41 Try.f41; simp only [loopIn, Option.getD_some, if_true]
                  simp only [go_sem, he20]
                  exact hb20
                · intro K20 k20 i20 x20 s20 n20 hR20 hE20 hb20 hx20 hi20 hw20 ih20 h
                  try dsimp only at h ⊢
                  conv => arg 1; arg 7; unfold L41_8 loopAt S22.c41 Try.f41; simp only [loopIn, Option.getD_some, if_true]
                  obtain ⟨v7, e_v7, h⟩ := ob h
                  have e_v7a : boundOk (1 + x20.length) 8 = true := bnd_of (by have := (app_some e_v7).1; simpa using this) (by decide)
                  have e_v7b : [[iv (i19 : Int)]] ++ (List.map rowI x20) = List.map rowI v7 := by rw [(app_some e_v7).2]; simp [rowI]
                  obtain ⟨v8, e_v8, h⟩ := ob h
                  have e_v8a : boundOk (s20.length + 1) 24 = true := bnd_of (by have := (app_some e_v8).1; simpa using this) (by decide)
                  have e_v8b : (List.map (rowL 1 rowI) s20) ++ [[.sl none 1 (List.map rowI v7)]] = List.map (rowL 1 rowI) v8 := by rw [(app_some e_v8).2]; simp [rowI, rowL]
                  simp only [go_sem, hx20, hi20, hw20, e_v7a, e_v7b, e_v8a, e_v8b, hw15, hR15, hE15, hw19, hR19, hE19, hR20, hE20]
                  exact ih20 v8 h
              · have h := iteF h c4
                have c4 := eq_false_of_ne_true c4
                simp only [go_sem, hx19, hi19, hw19, e_v5, e_v6a, e_v6b, c4, hw15, hR15, hE15, hR19, hE19]
                refine run_rangeL (c := L41_8) (live := [5, 7, 10, 13, 14, 15, 58, 59, 60, 71, 72, 73, 99, 100, 101]) (by simp only [go_sem]) (M := fun i21 (s21 : (List (List Int))) => [(5, .ptr 1 0), (7, .own 1 (List.map (rowL 3 row_ref22_cut) s1)), (10, .ms 2 0 3 0 ((a0.States).toNat)), (13, .ptr 3 0), (14, .ptr 4 0), (15, .p (iv (i19 : Int))), (58, .p (.sl none 3 (List.map row_Rule a0.Rules))), (59, .p (iv (a0.Rules.length : Int))), (60, .p (iv (i15 : Int))), (71, .p (.sl none 1 (List.map rowI x15.From))), (72, .p (iv (x15.From.length : Int))), (73, .p (iv (i19 : Int))), (99, .p (.sl none 1 (List.map (rowL 1 rowI) v6.l))), (100, .p (iv (v6.l.length : Int))), (101, .p (iv (i21 : Int)))]) (Z := fun i21 (s21 : (List (List Int))) => [.cells [.p (iv a0.States), .p (.sl none 1 (List.map rowI a0.Final)), .p (.sl none 3 (List.map row_Rule a0.Rules))], .cells [.p (iv a2.Sym), .p (.sl none 2 (List.map row_Tree a2.Kids))], .arr 0 3 (List.map (rowA row_ref22_cut) s15), .cells [.p (iv x15.Sym), .p (.sl none 1 (List.map rowI x15.From)), .p (iv x15.To)], .cells [.p (bv false), .p (iv (w64 (s19.2.1 + v6.nodes))), .own 1 (List.map (rowL 1 rowI) s21)], .cells [.p (bv v6.some), .p (iv v6.nodes), .p (.sl none 1 (List.map (rowL 1 rowI) v6.l))]]) (N := fun (s21 : (List (List Int))) => ⟨[(5, .ptr 1 0), (7, .own 1 (List.map (rowL 3 row_ref22_cut) s1)), (10, .ms 2 0 3 0 ((a0.States).toNat)), (13, .ptr 3 0), (14, .ptr 4 0), (58, .p (.sl none 3 (List.map row_Rule a0.Rules))), (59, .p (iv (a0.Rules.length : Int))), (60, .p (iv (i15 : Int))), (71, .p (.sl none 1 (List.map rowI x15.From))), (72, .p (iv (x15.From.length : Int))), (73, .p (iv (i19 : Int)))], [.cells [.p (iv a0.States), .p (.sl none 1 (List.map rowI a0.Final)), .p (.sl none 3 (List.map row_Rule a0.Rules))], .cells [.p (iv a2.Sym), .p (.sl none 2 (List.map row_Tree a2.Kids))], .arr 0 3 (List.map (rowA row_ref22_cut) s15), .cells [.p (iv x15.Sym), .p (.sl none 1 (List.map rowI x15.From)), .p (iv x15.To)], .cells [.p (bv false), .p (iv (w64 (s19.2.1 + v6.nodes))), .own 1 (List.map (rowL 1 rowI) s21)], .cells [.p (bv v6.some), .p (iv v6.nodes), .p (.sl none 1 (List.map (rowL 1 rowI) v6.l))]], [], none, false⟩) h rfl rfl (fun _ _ => rfl) ?_ ?_ ?_
                · intro s21 h
                  try dsimp only at h ⊢
                  simp only [go_sem, hw15, hR15, hE15, hw19, hR19, hE19]
                  exact ih19 (false, w64 (s19.2.1 + v6.nodes), s21) h
                · intro K21 s21 hb21 he21
                  try dsimp only
                  conv => arg 1; arg 7; unfold L41_8 loopAt S22.c41 Try.f41; simp only [loopIn, Option.getD_some, if_true]
                  simp only [go_sem, he21]
                  exact hb21
                · intro K21 k21 i21 x21 s21 n21 hR21 hE21 hb21 hx21 hi21 hw21 ih21 h
                  try dsimp only at h ⊢
                  conv => arg 1; arg 7; unfold L41_8 loopAt S22.c41 Try.f41; simp only [loopIn, Option.getD_some, if_true]
                  obtain ⟨v9, e_v9, h⟩ := ob h
                  have e_v9a : boundOk (1 + x21.length) 8 = true := bnd_of (by have := (app_some e_v9).1; simpa using this) (by decide)
                  have e_v9b : [[iv (i19 : Int)]] ++ (List.map rowI x21) = List.map rowI v9 := by rw [(app_some e_v9).2]; simp [rowI]
                  obtain ⟨v10, e_v10, h⟩ := ob h
                  have e_v10a : boundOk (s21.length + 1) 24 = true := bnd_of (by have := (app_some e_v10).1; simpa using this) (by decide)
                  have e_v10b : (List.map (rowL 1 rowI) s21) ++ [[.sl none 1 (List.map rowI v9)]] = List.map (rowL 1 rowI) v10 := by rw [(app_some e_v10).2]; simp [rowI, rowL]
                  simp only [go_sem, hx21, hi21, hw21, e_v9a, e_v9b, e_v10a, e_v10b, hw15, hR15, hE15, hw19, hR19, hE19, hR21, hE21]
                  exact ih21 v10 h
          · have h := iteF h c1
            have c1b : (x15.Sym != a2.Sym) = true := bneT c1
            simp only [go_sem, hx15, hi15, hw15, c1b, hR15, hE15]
            exact ih15 s15 h
      · intro K2 i2 s2 hb2 he2
        try dsimp only
        conv => arg 1; arg 7; unfold L41_2 loopAt S22.c41 Try.f41; simp only [loopIn, Option.getD_some, if_true]
        simp only [go_sem, he2]
        exact hb2
      · intro K2 k2 i2 s2 n2 hR2 hE2 hb2 hi2 hw2 ih2 h
        try dsimp only at h ⊢
        conv => arg 1; arg 7; unfold L41_2 loopAt S22.c41 Try.f41; simp only [loopIn, Option.getD_some, if_true]
        obtain ⟨v11, e_v11, h⟩ := ob h
        by_cases c5 : 0 < v11
        · have h := iteT h c5
          obtain ⟨v12, e_v12, h⟩ := ob h
          have e_v12c : call Try.prog T H (.fn 23) [.p (.agg [iv a2.Sym, .sl none 2 (List.map row_Tree a2.Kids)])] [] = some (.ret (.p (iv v12)), []) := spec23 n a2 v12 e_v12
          obtain ⟨v13, e_v13, h⟩ := ob h
          obtain ⟨e_v13a, e_v13b, e_v13d⟩ := idxM_some e_v13
          simp only [Int.toNat_natCast] at e_v13b
          simp only [Int.toNat_natCast] at e_v13d
          have e_y2 : List.set (List.map (rowA row_ref22_cut) s2) i2 [.p (bv true), .p (iv v12), .p (.sl none 1 [[.sl none 1 []]])] = List.map (rowA row_ref22_cut) (List.set s2 i2 (ref22_cut.mk true v12 [([] : List Int)])) := map_set' (by first | rfl | simp only [go_sem, List.map_cons, List.map_nil])
          simp only [go_sem, hi2, hw2, e_v11, c5, e_v12c, e_v13b, e_v13d, e_y2, hR2, hE2]
          exact ih2 (List.set s2 i2 (ref22_cut.mk true v12 [([] : List Int)])) h
        · have h := iteF h c5
          simp only [go_sem, hi2, hw2, e_v11, c5, hR2, hE2]
          exact ih2 s2 h
    · intro K1 s1 hb1 he1
      try dsimp only
      conv => arg 1; arg 7; unfold L41_0 loopAt S22.c41 Try.f41; simp only [loopIn, Option.getD_some, if_true]
      simp only [go_sem, he1]
      exact hb1
    · intro K1 k1 i1 x1 s1 n1 hR1 hE1 hb1 hx1 hi1 hw1 ih1 h
      try dsimp only at h ⊢
      conv => arg 1; arg 7; unfold L41_0 loopAt S22.c41 Try.f41; simp only [loopIn, Option.getD_some, if_true]
      obtain ⟨v14, e_v14, h⟩ := ob h
      have e_v14c : call Try.prog T H (.fn 41) [.p (.agg [iv a0.States, .sl none 1 (List.map rowI a0.Final), .sl none 3 (List.map row_Rule a0.Rules)]), .p (.sl none 1 (List.map rowI a1)), .p (.agg [iv x1.Sym, .sl none 2 (List.map row_Tree x1.Kids)])] [] = some (.ret (.p (.sl none 3 (List.map row_ref22_cut v14))), []) := ih a0 a1 x1 v14 e_v14
      obtain ⟨v15, e_v15, h⟩ := ob h
      have e_v15a : boundOk (s1.length + 1) 24 = true := bnd_of (by have := (app_some e_v15).1; simpa using this) (by decide)
      have e_v15b : (List.map (rowL 3 row_ref22_cut) s1) ++ [[.sl none 3 (List.map row_ref22_cut v14)]] = List.map (rowL 3 row_ref22_cut) v15 := by rw [(app_some e_v15).2]; simp [rowL, row_ref22_cut_eq]
      simp only [go_sem, hx1, hi1, hw1, e_v14c, e_v15a, e_v15b, hR1, hE1]
      exact ih1 v15 h

def ref06_plus (a0 : Int) (a1 : Int) : Option Int :=
  if (w64 (4611686018427387904 - a1)) < a0 then
    some 4611686018427387904
  else
    some (w64 (a0 + a1))
theorem spec73 (a0 : Int) (a1 : Int) (r : Int) (h : ref06_plus a0 a1 = some r) :
    call Try.prog T H (.fn 73) [.p (iv a0), .p (iv a1)] [] = some (.ret (.p (iv r)), []) := by
  refine Sat.fn fun Q hQ => ?_
  unfold ref06_plus at h
  rw [call73]
  conv => arg 1; arg 7; unfold S22.c73 Try.f73; simp only [Option.getD_some]
  by_cases c1 : (w64 (4611686018427387904 - a1)) < a0
  · have h := iteT h c1
    simp only [go_sem, c1]
    injection h with h; subst h
    exact Sat.ok hQ
  · have h := iteF h c1
    simp only [go_sem, c1]
    injection h with h; subst h
    exact Sat.ok hQ

def ref06_Smallest (n : Nat) (a0 : Automaton) : Option (List Int) :=
  (mkz 8 a0.States a0.States 0).bind fun v1 =>
  whileL n (true, v1) (fun k9 (s9 : Bool × (List Int)) n9 =>
    if s9.1 = true then
      rangeL a0.Rules (false, s9.2) (fun k12 i12 x12 (s12 : Bool × (List Int)) n12 =>
        rangeL x12.From 1 (fun k13 i13 x13 (s13 : Int) n13 =>
          (idxM ((a0.States).toNat) s12.2 x13).bind fun v4 =>
          if v4 = 0 then
            k13 0
          else
            (ref06_plus s13 v4).bind fun v5 =>
            n13 v5) fun s13 =>
        if 0 < s13 then
          (idxM ((a0.States).toNat) s12.2 x12.To).bind fun v3 =>
          if v3 = 0 then
            n12 (true, (List.set s12.2 ((x12.To).toNat) s13))
          else
            if s13 < v3 then
              n12 (true, (List.set s12.2 ((x12.To).toNat) s13))
            else
              n12 (s12.1, s12.2)
        else
          n12 (s12.1, s12.2)) fun s12 =>
      n9 (s12.1, s12.2)
    else
      k9 (false, s9.2)) fun s9 =>
  (tkM ((a0.States).toNat) s9.2).bind fun v2 =>
  some v2
theorem spec42 (n : Nat) (a0 : Automaton) (r : List Int) (h : ref06_Smallest n a0 = some r) :
    call Try.prog T H (.fn 42) [.p (.agg [iv a0.States, .sl none 1 (List.map rowI a0.Final), .sl none 3 (List.map row_Rule a0.Rules)])] [] = some (.ret (.p (.sl none 1 (List.map rowI r))), []) := by
  refine Sat.fn fun Q hQ => ?_
  unfold ref06_Smallest at h
  rw [call42]
  conv => arg 1; arg 7; unfold S22.c42 Try.f42; simp only [Option.getD_some]
  obtain ⟨v1, e_v1, h⟩ := ob h
  obtain ⟨e_v11, e_v12, e_v13, e_v14⟩ := mkz_some e_v1
  have e_v1b : boundOk (a0.States).toNat 8 = true := bnd_of e_v13 (by decide)
  have e_v1r : List.replicate (a0.States).toNat [AV.p (iv 0)] = List.map (rowA rowI) v1 := by rw [e_v14]; exact rep_map (by first | rfl | simp only [go_sem, List.map_nil])
  simp only [go_sem, e_v11, e_v12, e_v1b, e_v1r]
  refine run_whileL (c := L42_0) (live := [1, 3, 4]) (by simp only [go_sem]) (M := fun (s9 : Bool × (List Int)) => [(1, .ptr 0 0), (3, .ms 1 0 1 0 ((a0.States).toNat)), (4, .p (bv s9.1))]) (Z := fun (s9 : Bool × (List Int)) => [.cells [.p (iv a0.States), .p (.sl none 1 (List.map rowI a0.Final)), .p (.sl none 3 (List.map row_Rule a0.Rules))], .arr 0 1 (List.map (rowA rowI) s9.2)]) (N := fun (s9 : Bool × (List Int)) => ⟨[(3, .ms 1 0 1 0 ((a0.States).toNat))], [.cells [.p (iv a0.States), .p (.sl none 1 (List.map rowI a0.Final)), .p (.sl none 3 (List.map row_Rule a0.Rules))], .arr 0 1 (List.map (rowA rowI) s9.2)], [], none, false⟩) h rfl rfl (fun _ => rfl) ?_ ?_
  · intro s9 h
    try dsimp only at h ⊢
    obtain ⟨v2, e_v2, h⟩ := ob h
    have e_v2a := (tkM_some e_v2).1
    have e_v2b := (tkM_some e_v2).2
    simp only [go_sem, e_v2a, e_v2b]
    injection h with h; subst h
    exact Sat.ok hQ
  · intro K9 k9 s9 n9 hR9 hE9 hb9 ih9 h
    try dsimp only at h ⊢
    conv => arg 1; arg 7; unfold L42_0 loopAt S22.c42 Try.f42; simp only [loopIn, Option.getD_some, if_true]
    by_cases c1 : s9.1 = true
    · have h := iteT h c1
      simp only [go_sem, c1, hR9, hE9]
      refine run_rangeL (c := L42_2) (live := [1, 3, 4, 15, 16, 17]) (by simp only [go_sem]) (M := fun i12 (s12 : Bool × (List Int)) => [(1, .ptr 0 0), (3, .ms 1 0 1 0 ((a0.States).toNat)), (4, .p (bv s12.1)), (15, .p (.sl none 3 (List.map row_Rule a0.Rules))), (16, .p (iv (a0.Rules.length : Int))), (17, .p (iv (i12 : Int)))]) (Z := fun i12 (s12 : Bool × (List Int)) => [.cells [.p (iv a0.States), .p (.sl none 1 (List.map rowI a0.Final)), .p (.sl none 3 (List.map row_Rule a0.Rules))], .arr 0 1 (List.map (rowA rowI) s12.2)]) (N := fun (s12 : Bool × (List Int)) => ⟨[(1, .ptr 0 0), (3, .ms 1 0 1 0 ((a0.States).toNat)), (4, .p (bv s12.1))], [.cells [.p (iv a0.States), .p (.sl none 1 (List.map rowI a0.Final)), .p (.sl none 3 (List.map row_Rule a0.Rules))], .arr 0 1 (List.map (rowA rowI) s12.2)], [], none, false⟩) h rfl rfl (fun _ _ => rfl) ?_ ?_ ?_
      · intro s12 h
        try dsimp only at h ⊢
        simp only [go_sem, hR9, hE9]
        exact ih9 (s12.1, s12.2) h
      · intro K12 s12 hb12 he12
        try dsimp only
        conv => arg 1; arg 7; unfold L42_2 loopAt S22.c42 Try.f42; simp only [loopIn, Option.getD_some, if_true]
        simp only [go_sem, he12]
        exact hb12
      · intro K12 k12 i12 x12 s12 n12 hR12 hE12 hb12 hx12 hi12 hw12 ih12 h
        try dsimp only at h ⊢
        conv => arg 1; arg 7; unfold L42_2 loopAt S22.c42 Try.f42; simp only [loopIn, Option.getD_some, if_true]
        simp only [go_sem, hx12, hi12, hw12, hR9, hE9, hR12, hE12]
        refine run_rangeL (c := L42_4) (live := [1, 3, 4, 6, 7, 15, 16, 17, 22, 23, 24]) (by simp only [go_sem]) (M := fun i13 (s13 : Int) => [(1, .ptr 0 0), (3, .ms 1 0 1 0 ((a0.States).toNat)), (4, .p (bv s12.1)), (6, .ptr 2 0), (7, .p (iv s13)), (15, .p (.sl none 3 (List.map row_Rule a0.Rules))), (16, .p (iv (a0.Rules.length : Int))), (17, .p (iv (i12 : Int))), (22, .p (.sl none 1 (List.map rowI x12.From))), (23, .p (iv (x12.From.length : Int))), (24, .p (iv (i13 : Int)))]) (Z := fun i13 (s13 : Int) => [.cells [.p (iv a0.States), .p (.sl none 1 (List.map rowI a0.Final)), .p (.sl none 3 (List.map row_Rule a0.Rules))], .arr 0 1 (List.map (rowA rowI) s12.2), .cells [.p (iv x12.Sym), .p (.sl none 1 (List.map rowI x12.From)), .p (iv x12.To)]]) (N := fun (s13 : Int) => ⟨[(1, .ptr 0 0), (3, .ms 1 0 1 0 ((a0.States).toNat)), (4, .p (bv s12.1)), (6, .ptr 2 0), (7, .p (iv s13)), (15, .p (.sl none 3 (List.map row_Rule a0.Rules))), (16, .p (iv (a0.Rules.length : Int))), (17, .p (iv (i12 : Int)))], [.cells [.p (iv a0.States), .p (.sl none 1 (List.map rowI a0.Final)), .p (.sl none 3 (List.map row_Rule a0.Rules))], .arr 0 1 (List.map (rowA rowI) s12.2), .cells [.p (iv x12.Sym), .p (.sl none 1 (List.map rowI x12.From)), .p (iv x12.To)]], [], none, false⟩) h rfl rfl (fun _ _ => rfl) ?_ ?_ ?_
        · intro s13 h
          try dsimp only at h ⊢
          by_cases c2 : 0 < s13
          · have h := iteT h c2
            obtain ⟨v3, e_v3, h⟩ := ob h
            obtain ⟨e_v3a, e_v3b, e_v3d⟩ := idxM_some e_v3
            by_cases c3 : v3 = 0
            · have h := iteT h c3
              have c3b : (v3 == 0) = true := beqT c3
              have e_y1 : List.set (List.map (rowA rowI) s12.2) ((x12.To).toNat) [.p (iv s13)] = List.map (rowA rowI) (List.set s12.2 ((x12.To).toNat) s13) := map_set' (by first | rfl | simp only [go_sem, List.map_cons, List.map_nil])
              simp only [go_sem, c2, e_v3a, e_v3b, e_v3d, c3b, e_y1, hR9, hE9, hw12, hR12, hE12]
              exact ih12 (true, (List.set s12.2 ((x12.To).toNat) s13)) h
            · have h := iteF h c3
              have c3b : (v3 == 0) = false := beqF c3
              by_cases c4 : s13 < v3
              · have h := iteT h c4
                have e_y2 : List.set (List.map (rowA rowI) s12.2) ((x12.To).toNat) [.p (iv s13)] = List.map (rowA rowI) (List.set s12.2 ((x12.To).toNat) s13) := map_set' (by first | rfl | simp only [go_sem, List.map_cons, List.map_nil])
                simp only [go_sem, c2, e_v3a, e_v3b, e_v3d, c3b, c4, e_y2, hR9, hE9, hw12, hR12, hE12]
                exact ih12 (true, (List.set s12.2 ((x12.To).toNat) s13)) h
              · have h := iteF h c4
                simp only [go_sem, c2, e_v3a, e_v3b, e_v3d, c3b, c4, hR9, hE9, hw12, hR12, hE12]
                exact ih12 (s12.1, s12.2) h
          · have h := iteF h c2
            simp only [go_sem, c2, hR9, hE9, hw12, hR12, hE12]
            exact ih12 (s12.1, s12.2) h
        · intro K13 s13 hb13 he13
          try dsimp only
          conv => arg 1; arg 7; unfold L42_4 loopAt S22.c42 Try.f42; simp only [loopIn, Option.getD_some, if_true]
          simp only [go_sem, he13]
          exact hb13
        · intro K13 k13 i13 x13 s13 n13 hR13 hE13 hb13 hx13 hi13 hw13 ih13 h
          try dsimp only at h ⊢
          conv => arg 1; arg 7; unfold L42_4 loopAt S22.c42 Try.f42; simp only [loopIn, Option.getD_some, if_true]
          obtain ⟨v4, e_v4, h⟩ := ob h
          obtain ⟨e_v4a, e_v4b, e_v4d⟩ := idxM_some e_v4
          by_cases c5 : v4 = 0
          · have h := iteT h c5
            have c5b : (v4 == 0) = true := beqT c5
            simp only [go_sem, hx13, hi13, hw13, e_v4a, e_v4b, e_v4d, c5b, hR9, hE9, hw12, hR12, hE12, hR13, hE13]
            exact hb13 0 h
          · have h := iteF h c5
            have c5b : (v4 == 0) = false := beqF c5
            obtain ⟨v5, e_v5, h⟩ := ob h
            have e_v5c : call Try.prog T H (.fn 73) [.p (iv s13), .p (iv v4)] [] = some (.ret (.p (iv v5)), []) := spec73 s13 v4 v5 e_v5
            simp only [go_sem, hx13, hi13, hw13, e_v4a, e_v4b, e_v4d, c5b, e_v5c, hR9, hE9, hw12, hR12, hE12, hR13, hE13]
            exact ih13 v5 h
    · have h := iteF h c1
      have c1 := eq_false_of_ne_true c1
      simp only [go_sem, c1, hR9, hE9]
      exact hb9 (false, s9.2) h

def ref22_Holes (n : Nat) (a0 : Alphabet) (a1 : Automaton) (a2 : Tree) : Option ((List (List Int)) × Int) :=
  (ref22_Asked n a0 a1 a2).bind fun v1 =>
  if v1 = 0 then
    (ref06_Smallest n a1).bind fun v2 =>
    (ref22_cuts n a1 v2 a2).bind fun v3 =>
    rangeL a1.Final (false, 0, ([] : List (List Int))) (fun k1 i1 x1 (s1 : Bool × Int × (List (List Int))) n1 =>
      (idx v3 x1).bind fun v4 =>
      if v4.some = true then
        (ref22_cut_less (ref22_cut.mk true v4.nodes v4.l) (ref22_cut.mk s1.1 s1.2.1 s1.2.2)).bind fun v5 =>
        if v5 = true then
          n1 (true, v4.nodes, v4.l)
        else
          n1 (s1.1, s1.2.1, s1.2.2)
      else
        n1 (s1.1, s1.2.1, s1.2.2)) fun s1 =>
    if s1.1 = true then
      some (s1.2.2, 0)
    else
      some (([] : List (List Int)), 5)
  else
    some (([] : List (List Int)), 1)
theorem spec14 (n : Nat) (a0 : Alphabet) (a1 : Automaton) (a2 : Tree) (r : (List (List Int)) × Int) (h : ref22_Holes n a0 a1 a2 = some r) :
    call Try.prog T H (.fn 14) [.p (.agg [.sl none 1 (List.map rowI a0.Ranks)]), .p (.agg [iv a1.States, .sl none 1 (List.map rowI a1.Final), .sl none 3 (List.map row_Rule a1.Rules)]), .p (.agg [iv a2.Sym, .sl none 2 (List.map row_Tree a2.Kids)])] [] = some (.ret (.p (.tup [.sl none 1 (List.map (rowL 1 rowI) r.1), iv r.2])), []) := by
  refine Sat.fn fun Q hQ => ?_
  unfold ref22_Holes at h
  rw [call14]
  conv => arg 1; arg 7; unfold S22.c14 Try.f14; simp only [Option.getD_some]
  obtain ⟨v1, e_v1, h⟩ := ob h
  have e_v1c : call Try.prog T H (.fn 34) [.p (.agg [.sl none 1 (List.map rowI a0.Ranks)]), .p (.agg [iv a1.States, .sl none 1 (List.map rowI a1.Final), .sl none 3 (List.map row_Rule a1.Rules)]), .p (.agg [iv a2.Sym, .sl none 2 (List.map row_Tree a2.Kids)])] [] = some (.ret (.p (iv v1)), []) := spec34 n a0 a1 a2 v1 e_v1
  by_cases c1 : v1 = 0
  · have h := iteT h c1
    have c1b : (v1 != 0) = false := bneF c1
    obtain ⟨v2, e_v2, h⟩ := ob h
    have e_v2c : call Try.prog T H (.fn 42) [.p (.agg [iv a1.States, .sl none 1 (List.map rowI a1.Final), .sl none 3 (List.map row_Rule a1.Rules)])] [] = some (.ret (.p (.sl none 1 (List.map rowI v2))), []) := spec42 n a1 v2 e_v2
    obtain ⟨v3, e_v3, h⟩ := ob h
    have e_v3c : call Try.prog T H (.fn 41) [.p (.agg [iv a1.States, .sl none 1 (List.map rowI a1.Final), .sl none 3 (List.map row_Rule a1.Rules)]), .p (.sl none 1 (List.map rowI v2)), .p (.agg [iv a2.Sym, .sl none 2 (List.map row_Tree a2.Kids)])] [] = some (.ret (.p (.sl none 3 (List.map row_ref22_cut v3))), []) := spec41 n a1 v2 a2 v3 e_v3
    simp only [go_sem, e_v1c, c1b, e_v2c, e_v3c]
    refine run_rangeL (c := L14_0) (live := [8, 9, 23, 24, 25]) (by simp only [go_sem]) (M := fun i1 (s1 : Bool × Int × (List (List Int))) => [(8, .p (.sl none 3 (List.map row_ref22_cut v3))), (9, .ptr 3 0), (23, .p (.sl none 1 (List.map rowI a1.Final))), (24, .p (iv (a1.Final.length : Int))), (25, .p (iv (i1 : Int)))]) (Z := fun i1 (s1 : Bool × Int × (List (List Int))) => [.cells [.p (.sl none 1 (List.map rowI a0.Ranks))], .cells [.p (iv a1.States), .p (.sl none 1 (List.map rowI a1.Final)), .p (.sl none 3 (List.map row_Rule a1.Rules))], .cells [.p (iv a2.Sym), .p (.sl none 2 (List.map row_Tree a2.Kids))], .cells [.p (bv s1.1), .p (iv s1.2.1), .p (.sl none 1 (List.map (rowL 1 rowI) s1.2.2))]]) (N := fun (s1 : Bool × Int × (List (List Int))) => ⟨[(9, .ptr 3 0)], [.cells [.p (.sl none 1 (List.map rowI a0.Ranks))], .cells [.p (iv a1.States), .p (.sl none 1 (List.map rowI a1.Final)), .p (.sl none 3 (List.map row_Rule a1.Rules))], .cells [.p (iv a2.Sym), .p (.sl none 2 (List.map row_Tree a2.Kids))], .cells [.p (bv s1.1), .p (iv s1.2.1), .p (.sl none 1 (List.map (rowL 1 rowI) s1.2.2))]], [], none, false⟩) h rfl rfl (fun _ _ => rfl) ?_ ?_ ?_
    · intro s1 h
      try dsimp only at h ⊢
      by_cases c2 : s1.1 = true
      · have h := iteT h c2
        simp only [go_sem, c2]
        injection h with h; subst h
        exact Sat.ok hQ
      · have h := iteF h c2
        have c2 := eq_false_of_ne_true c2
        simp only [go_sem, c2]
        injection h with h; subst h
        exact Sat.ok hQ
    · intro K1 s1 hb1 he1
      try dsimp only
      conv => arg 1; arg 7; unfold L14_0 loopAt S22.c14 Try.f14; simp only [loopIn, Option.getD_some, if_true]
      simp only [go_sem, he1]
      exact hb1
    · intro K1 k1 i1 x1 s1 n1 hR1 hE1 hb1 hx1 hi1 hw1 ih1 h
      try dsimp only at h ⊢
      conv => arg 1; arg 7; unfold L14_0 loopAt S22.c14 Try.f14; simp only [loopIn, Option.getD_some, if_true]
      obtain ⟨v4, e_v4, h⟩ := ob h
      obtain ⟨e_v4a, e_v4b⟩ := idx_some e_v4
      by_cases c3 : v4.some = true
      · have h := iteT h c3
        obtain ⟨v5, e_v5, h⟩ := ob h
        have e_v5c : call Try.prog T H (.fn 43) [.p (.agg [bv true, iv v4.nodes, .sl none 1 (List.map (rowL 1 rowI) v4.l)]), .p (.agg [bv s1.1, iv s1.2.1, .sl none 1 (List.map (rowL 1 rowI) s1.2.2)])] [] = some (.ret (.p (bv v5)), []) := spec43 (ref22_cut.mk true v4.nodes v4.l) (ref22_cut.mk s1.1 s1.2.1 s1.2.2) v5 e_v5
        by_cases c4 : v5 = true
        · have h := iteT h c4
          simp only [go_sem, hx1, hi1, hw1, e_v4a, e_v4b, c3, e_v5c, c4, hR1, hE1]
          exact ih1 (true, v4.nodes, v4.l) h
        · have h := iteF h c4
          have c4 := eq_false_of_ne_true c4
          simp only [go_sem, hx1, hi1, hw1, e_v4a, e_v4b, c3, e_v5c, c4, hR1, hE1]
          exact ih1 (s1.1, s1.2.1, s1.2.2) h
      · have h := iteF h c3
        have c3 := eq_false_of_ne_true c3
        simp only [go_sem, hx1, hi1, hw1, e_v4a, e_v4b, c3, hR1, hE1]
        exact ih1 (s1.1, s1.2.1, s1.2.2) h
  · have h := iteF h c1
    have c1b : (v1 != 0) = true := bneT c1
    simp only [go_sem, e_v1c, c1b]
    injection h with h; subst h
    exact Sat.ok hQ

end Go.AM.S22

